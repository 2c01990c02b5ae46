/- Names, of the tree and of the document: walked; the same list. MODE 8 for a region whose last operation writes a slot that the others read. Over any program. -/
import Derived.Test.YtlchnabnhimlcaaTlLl
import Derived.Test.YtlchnabnhimlcaaTlTw9
import Derived.Test.YtlchnabnhimlcaaTlK8f
set_option linter.unusedSimpArgs false
set_option linter.unusedVariables false
namespace Go.Proofs.Ytlchnabnhimlcaa
open Go Go.RowKit Go.Own
/-- the names in a directory, in the nodes' order -/
def pickN (t : TR) (d : Int) : Nat → List Str
  | 0 => []
  | i + 1 => pickN t d i ++ (if 1 ≤ i ∧ (t.n i).kind ≠ 0 ∧ (t.n i).parent = d then [(t.n i).name] else [])
theorem mem_pickN {t : TR} {d : Int} {y : Str} : ∀ {i : Nat}, y ∈ pickN t d i ↔ ∃ j, j < i ∧ 1 ≤ j ∧ (t.n j).kind ≠ 0 ∧ (t.n j).parent = d ∧ (t.n j).name = y
  | 0 => ⟨fun h => (by cases h), fun ⟨j, h, _⟩ => absurd h (Nat.not_lt_zero _)⟩
  | i + 1 => by
    rw [pickN, List.mem_append, mem_pickN]
    constructor
    · rintro (⟨j, h1, h2⟩ | h)
      · exact ⟨j, by omega, h2⟩
      · by_cases hc : 1 ≤ i ∧ (t.n i).kind ≠ 0 ∧ (t.n i).parent = d
        · rw [if_pos hc] at h
          exact ⟨i, by omega, hc.1, hc.2.1, hc.2.2, (List.mem_singleton.1 h).symm⟩
        · rw [if_neg hc] at h
          cases h
    · rintro ⟨j, h1, h2, h3, h4, h5⟩
      by_cases e : j = i
      · subst e
        rw [if_pos ⟨h2, h3, h4⟩]
        exact .inr (List.mem_singleton.2 h5.symm)
      · exact .inl ⟨j, by omega, h2, h3, h4, h5⟩
theorem len_pickN {t : TR} {d : Int} : ∀ i, (pickN t d i).length ≤ i
  | 0 => Nat.le_refl _
  | i + 1 => by
    have := len_pickN (t := t) (d := d) i
    rw [pickN, List.length_append]
    split <;> simp <;> omega
theorem nodup_pickN {t : TR} (h : WF t) {d : Int} : ∀ i, i ≤ 8 → (pickN t d i).Nodup
  | 0, _ => List.nodup_nil
  | i + 1, hi => by
    rw [pickN]
    refine List.nodup_append.2 ⟨nodup_pickN h i (by omega), ?_, fun a ha b hb e => ?_⟩
    · split
      · exact List.pairwise_singleton _ _
      · exact List.nodup_nil
    · by_cases hc : 1 ≤ i ∧ (t.n i).kind ≠ 0 ∧ (t.n i).parent = d
      · rw [if_pos hc] at hb
        rw [List.mem_singleton.1 hb] at e
        subst e
        obtain ⟨j, h1, h2, h3, h4, h5⟩ := mem_pickN.1 ha
        exact h.un j i h2 (by omega) hc.1 (by omega) (by omega) (kind_nz h3) (kind_nz hc.2.1) ⟨by rw [h4, hc.2.2], h5⟩
      · rw [if_neg hc] at hb
        cases hb
def namesL (t : TR) (p : Str) : List Str × Int := if (kindOfM t p 1).2 ≠ 0 then ([], (kindOfM t p 1).2) else (sortB (pickN t (kindOfM t p 1).1 8), 0)
theorem slL_upto {s : Ro} {a : Option Addr} {c k : Nat} {l : List Str} (h : SlS s (.slice a l.length c) 1 l.length (strL l)) (hk : k ≤ l.length) : SlS s (.slice a k c) 1 k (strL (l.take k)) := by
  obtain ⟨a', c', hv, h1, h2, h3, h4⟩ := h
  cases hv
  refine ⟨_, _, rfl, by rw [strL_len, List.length_take]; omega, by omega, by omega, ?_⟩
  rcases h4 with h4 | ⟨g, o, rfl, h5⟩
  · left
    have : l = [] := by cases l with | nil => rfl | cons => cases h4
    subst this
    simp [strL]
  · refine .inr ⟨g, o, rfl, fun j x hj => h5 j x ?_⟩
    unfold strL at hj ⊢
    rw [List.map_take, List.getElem?_take] at hj
    split at hj
    · exact hj
    · cases hj
theorem slL_from {s : Ro} {a : Option Addr} {c k : Nat} {l : List Str} (h : SlS s (.slice a l.length c) 1 l.length (strL l)) (hk : k ≤ l.length) : SlS s (.slice (subAddr a c k 1) (l.length - k) (c - k)) 1 (l.length - k) (strL (l.drop k)) := by
  obtain ⟨a', c', hv, h1, h2, h3, h4⟩ := h
  cases hv
  refine ⟨_, _, rfl, by rw [strL_len, List.length_drop]; omega, by omega, by omega, ?_⟩
  by_cases hkl : k = l.length
  · left
    rw [List.drop_of_length_le (by omega)]
    rfl
  · rcases h4 with h4 | ⟨g, o, rfl, h5⟩
    · left
      have : l = [] := by cases l with | nil => rfl | cons => cases h4
      subst this
      simp [strL]
    · refine .inr ⟨g, o + k, ?_, fun j x hj => ?_⟩
      · unfold subAddr
        rw [if_neg (by omega)]
        simp [Addr.add]
      · unfold strL at hj
        rw [List.map_drop, List.getElem?_drop] at hj
        have := h5 (k + j) x hj
        rwa [show o + k + j = o + (k + j) by omega]
theorem last_app {a b : Str} (hb : NoSl b) : lastI (a ++ 47 :: b) = a.length := by
  refine (last_eq (p := a ++ 47 :: b) (.inr (by simp)) (fun k hk => ?_)).symm
  rw [List.getElem?_append_right (by omega)]
  obtain ⟨q, hq⟩ : ∃ q, k - a.length = q + 1 := ⟨k - a.length - 1, by omega⟩
  rw [hq, List.getElem?_cons_succ]
  intro e
  exact hb 47 (List.mem_of_getElem? e) rfl
theorem above_full {t : TR} (h : WF t) {j : Nat} (hj : j < 8) (h0 : j ≠ 0) (hk : (t.n j).kind ≠ 0) : aboveX (full t j) = (full t (up t j), (t.n j).name) := by
  have hl := last_app (a := sp t (up t j)) (name_nosl (h.name hj h0 hk))
  unfold full
  rw [if_neg h0, sp_step h hj h0 hk]
  unfold aboveX
  rw [hl]
  by_cases hu : up t j = 0
  · rw [hu, sp_zero, if_pos (by rfl), if_pos rfl]
    rfl
  · have hne : (sp t (up t j)).length ≠ 0 := fun e => by
      have e2 := List.eq_nil_of_length_eq_zero e
      rw [sp_step h (h.up8 j hj) hu (by rw [h.up_alive hj h0 hk]; decide)] at e2
      simp at e2
    rw [if_neg hne, if_neg hu]
    simp
section
variable {w : World} {s : Ro} {R : List Asn} {p : Str} {m : List RN} {t : TR}
set_option maxRecDepth 100000 in
set_option maxHeartbeats 1000000 in
theorem Names_s (H : Holds s w R) (ht : t.Ok) (hct : checkM t = true) (hW : WF t) : Calls Try.prog 21 #[.agg t.cells.toArray, .string ⟨p.toArray⟩] w fun e w' => ∃ (aa : Option Addr) (cc : Nat), e = .returned (.tuple #[.slice aa (namesL t p).1.length cc, .int .i64 (namesL t p).2]) ∧ Holds s w' (row 9 1 (.slice aa (namesL t p).1.length cc) (namesL t p).1.length (strL (namesL t p).1) :: R) := by
  have hnl : namesL t p = namesL t p := rfl
  conv at hnl => rhs; unfold namesL
  refine enter Try.func21 rfl Try.ntmps21 rfl ?_
  repeat' (first | (refine X.lenL ?_) | (refine X.lv H ?_) | (refine X.lw H ?_) | (refine X.lp H ?_) | (refine X.ldT H ?_) | (refine X.ldM H ?_) | (refine X.eqL ?_ ?_ <;> intro hc <;> first | (exfalso; first | exact absurd hc (by assumption) | exact absurd (by assumption) hc) | skip) | refine Z H ?_ | (refine Zc ?_ ?_ <;> intro hc <;> first | (exfalso; omega) | skip) | (refine Y ?_; try change C _ _ _ _ _ _) | (refine Zs H ?_; clear H; (try clear w); intro w H) | (refine Zn H ?_; clear H; (try clear w); intro _ w H) | (refine Ze H ?_; clear H; (try clear w); intro gv w H))
  have hC := Check_s H ht
  rw [hct] at hC
  (refine X.call (hC) ?_; (try clear H); rintro _ w ⟨rfl, H⟩; refine ⟨_, rfl, ?_⟩)
  clear hC
  repeat' (first | (refine X.lenL ?_) | (refine X.lv H ?_) | (refine X.lw H ?_) | (refine X.lp H ?_) | (refine X.ldT H ?_) | (refine X.ldM H ?_) | (refine X.eqL ?_ ?_ <;> intro hc <;> first | (exfalso; first | exact absurd hc (by assumption) | exact absurd (by assumption) hc) | skip) | refine Z H ?_ | (refine Zc ?_ ?_ <;> intro hc <;> first | (exfalso; omega) | skip) | (refine Y ?_; try change C _ _ _ _ _ _) | (refine Zs H ?_; clear H; (try clear w); intro w H) | (refine Zn H ?_; clear H; (try clear w); intro _ w H) | (refine Ze H ?_; clear H; (try clear w); intro gv w H))
  (refine X.call (kindOf_s (p := p) (k := 1) H ht) ?_; (try clear H); rintro _ w ⟨rfl, H⟩; refine ⟨_, rfl, ?_⟩)
  by_cases her : (kindOfM t p 1).2 = 0
  rotate_left
  · rw [if_pos her] at hnl
    repeat' (first | (refine X.lenL ?_) | (refine X.lv H ?_) | (refine X.lw H ?_) | (refine X.lp H ?_) | (refine X.ldT H ?_) | (refine X.ldM H ?_) | (refine X.eqL ?_ ?_ <;> intro hc <;> first | (exfalso; first | exact absurd hc (by assumption) | exact absurd (by assumption) hc) | skip) | refine Z H ?_ | (refine Zc ?_ ?_ <;> intro hc <;> first | (exfalso; omega) | skip) | (refine Y ?_; try change C _ _ _ _ _ _) | (refine Zs H ?_; clear H; (try clear w); intro w H) | (refine Zn H ?_; clear H; (try clear w); intro _ w H) | (refine Ze H ?_; clear H; (try clear w); intro gv w H))
    exact ⟨_, resTT rfl, none, 0, by rw [hnl]; rfl, by rw [hnl]; exact H.tail.nilRow 9 1⟩
  rw [if_neg (by simpa using her)] at hnl
  obtain ⟨d, hd8, hkd, hdk, hfd⟩ := kindOf_err (by simpa using her)
  rw [hkd] at hnl her ⊢
  replace H := H.nilRow 9 1
  repeat' (first | (refine X.lenL ?_) | (refine X.lv H ?_) | (refine X.lw H ?_) | (refine X.lp H ?_) | (refine X.ldT H ?_) | (refine X.ldM H ?_) | (refine X.eqL ?_ ?_ <;> intro hc <;> first | (exfalso; first | exact absurd hc (by assumption) | exact absurd (by assumption) hc) | skip) | refine Z H ?_ | (refine Zc ?_ ?_ <;> intro hc <;> first | (exfalso; omega) | skip) | (refine Y ?_; try change C _ _ _ _ _ _) | (refine Zs H ?_; clear H; (try clear w); intro w H) | (refine Zn H ?_; clear H; (try clear w); intro _ w H) | (refine Ze H ?_; clear H; (try clear w); intro gv w H))
  refine C.loopR H [8, 9, 10, 22, 23, 24, 25, 26, 27, 28, 29, 30, 31, 32, 33, 34, 35, 36, 37, 38, 39, 40, 41, 42, 43] [8, 9] rfl (fun f vs A => ∃ (i : Nat) (aa : Option Addr) (cc : Nat), f = 8 - i ∧ 1 ≤ i ∧ i ≤ 8 ∧ vs = [.slice aa (pickN t (d : Int) i).length cc, .int .i64 (i : Int)] ∧ A = row 9 1 (.slice aa (pickN t (d : Int) i).length cc) (pickN t (d : Int) i).length (strL (pickN t (d : Int) i))) 7 ⟨1, none, 0, rfl, by omega, by omega, rfl, rfl⟩ ?_
  clear H
  rintro f vs hv w A ⟨i, aa, cc, rfl, hi1, hi, rfl, rfl⟩ H
  have hlen := len_pickN (t := t) (d := (d : Int)) i
  by_cases hlt : i < 8
  rotate_left
  · obtain rfl : i = 8 := by omega
    repeat' (first | (refine X.lenL ?_) | (refine X.lv H ?_) | (refine X.lw H ?_) | (refine X.lp H ?_) | (refine X.ldT H ?_) | (refine X.ldM H ?_) | (refine X.eqL ?_ ?_ <;> intro hc <;> first | (exfalso; first | exact absurd hc (by assumption) | exact absurd (by assumption) hc) | skip) | refine Z H ?_ | (refine Zc ?_ ?_ <;> intro hc <;> first | (exfalso; omega) | skip) | (refine Y ?_; try change C _ _ _ _ _ _) | (refine Zs H ?_; clear H; (try clear w); intro w H) | (refine Zn H ?_; clear H; (try clear w); intro _ w H) | (refine Ze H ?_; clear H; (try clear w); intro gv w H))
    (refine X.call (SortL_s H (nodup_pickN hW 8 (by omega)) (by omega)) ?_; (try clear H); rintro _ w ⟨rfl, H⟩; refine ⟨_, rfl, ?_⟩)
    repeat' (first | (refine X.lenL ?_) | (refine X.lv H ?_) | (refine X.lw H ?_) | (refine X.lp H ?_) | (refine X.ldT H ?_) | (refine X.ldM H ?_) | (refine X.eqL ?_ ?_ <;> intro hc <;> first | (exfalso; first | exact absurd hc (by assumption) | exact absurd (by assumption) hc) | skip) | refine Z H ?_ | (refine Zc ?_ ?_ <;> intro hc <;> first | (exfalso; omega) | skip) | (refine Y ?_; try change C _ _ _ _ _ _) | (refine Zs H ?_; clear H; (try clear w); intro w H) | (refine Zn H ?_; clear H; (try clear w); intro _ w H) | (refine Ze H ?_; clear H; (try clear w); intro gv w H))
    have H1 : Holds s w (row 9 1 (.slice aa (pickN t (d : Int) 8).length cc) (pickN t (d : Int) 8).length (strL (sortB (pickN t (d : Int) 8))) :: R) := H.arr
    exact ⟨_, resTT rfl, aa, cc, by rw [hnl, len_sortB]; rfl, by rw [hnl, len_sortB]; exact H1⟩
  have hn := TR.node ht hlt
  have hpk : pickN t (d : Int) (i + 1) = pickN t (d : Int) i ++ (if 1 ≤ i ∧ (t.n i).kind ≠ 0 ∧ (t.n i).parent = (d : Int) then [(t.n i).name] else []) := rfl
  by_cases hk : (t.n i).kind ≠ 0 ∧ (t.n i).parent = (d : Int)
  · rw [if_pos ⟨hi1, hk⟩] at hpk
    obtain ⟨k1, k2⟩ := hk
    repeat' (first | (refine K.iaA (i := i) rfl rfl rfl rfl (by omega) hlt ?_) | (refine X.lenL ?_) | (refine X.lv H ?_) | (refine X.lw H ?_) | (refine X.lp H ?_) | (refine X.ldT H ?_) | (refine X.ldM H ?_) | (refine X.eqL ?_ ?_ <;> intro hc <;> first | (exfalso; first | exact absurd hc (by assumption) | exact absurd (by assumption) hc) | skip) | refine Z H ?_ | (refine Zc ?_ ?_ <;> intro hc <;> first | (exfalso; omega) | skip) | (refine Y ?_; try change C _ _ _ _ _ _) | (refine Zs H ?_; clear H; (try clear w); intro w H) | (refine Zn H ?_; clear H; (try clear w); intro _ w H) | (refine Ze H ?_; clear H; (try clear w); intro gv w H))
    refine K.one H rfl rfl (by conv => lhs; whnf) (by rfl) (by rfl) ?_; clear H; (try clear w); intro g1 w H
    refine K.app 2 H rfl (.own 0 _ rfl) (by simp [Value.oneCell']) (by unfold maxLen; omega) (by omega) rfl rfl rfl ?_; clear H; intro a2 c2 w H; (try simp only [List.set_cons_zero, List.set_cons_succ, List.eraseIdx_cons_zero, List.eraseIdx_cons_succ] at H)
    repeat' (first | (refine X.lenL ?_) | (refine X.lv H ?_) | (refine X.lw H ?_) | (refine X.lp H ?_) | (refine X.ldT H ?_) | (refine X.ldM H ?_) | (refine X.eqL ?_ ?_ <;> intro hc <;> first | (exfalso; first | exact absurd hc (by assumption) | exact absurd (by assumption) hc) | skip) | refine Z H ?_ | (refine Zc ?_ ?_ <;> intro hc <;> first | (exfalso; omega) | skip) | (refine Y ?_; try change C _ _ _ _ _ _) | (refine Zs H ?_; clear H; (try clear w); intro w H) | (refine Zn H ?_; clear H; (try clear w); intro _ w H) | (refine Ze H ?_; clear H; (try clear w); intro gv w H))
    refine ⟨by (repeat (first | exact Agr.refl | exact Agr.hav | refine Agr.upd rfl ?_ | refine Agr.in rfl ?_)), 8 - (i + 1), by omega, _, ⟨i + 1, a2, c2, rfl, by omega, by omega, ?_, rfl⟩, ?_⟩
    · rw [hpk, List.length_append]; rfl
    · rw [hpk, List.length_append, strL_app]; exact H.tail.tail
  · rw [if_neg (fun h => hk h.2), List.append_nil] at hpk
    by_cases k1 : (t.n i).kind ≠ 0
    · have k2 : ¬ (t.n i).parent = (d : Int) := fun h => hk ⟨k1, h⟩
      repeat' (first | (refine K.iaA (i := i) rfl rfl rfl rfl (by omega) hlt ?_) | (refine X.lenL ?_) | (refine X.lv H ?_) | (refine X.lw H ?_) | (refine X.lp H ?_) | (refine X.ldT H ?_) | (refine X.ldM H ?_) | (refine X.eqL ?_ ?_ <;> intro hc <;> first | (exfalso; first | exact absurd hc (by assumption) | exact absurd (by assumption) hc) | skip) | refine Z H ?_ | (refine Zc ?_ ?_ <;> intro hc <;> first | (exfalso; omega) | skip) | (refine Y ?_; try change C _ _ _ _ _ _) | (refine Zs H ?_; clear H; (try clear w); intro w H) | (refine Zn H ?_; clear H; (try clear w); intro _ w H) | (refine Ze H ?_; clear H; (try clear w); intro gv w H))
      refine ⟨by (repeat (first | exact Agr.refl | exact Agr.hav | refine Agr.upd rfl ?_ | refine Agr.in rfl ?_)), 8 - (i + 1), by omega, _, ⟨i + 1, aa, cc, rfl, by omega, by omega, by rw [hpk]; rfl, rfl⟩, ?_⟩
      rw [hpk]; exact H.tail
    · have k1' : (t.n i).kind = 0 := by omega
      repeat' (first | (refine K.iaA (i := i) rfl rfl rfl rfl (by omega) hlt ?_) | (refine X.lenL ?_) | (refine X.lv H ?_) | (refine X.lw H ?_) | (refine X.lp H ?_) | (refine X.ldT H ?_) | (refine X.ldM H ?_) | (refine X.eqL ?_ ?_ <;> intro hc <;> first | (exfalso; first | exact absurd hc (by assumption) | exact absurd (by assumption) hc) | skip) | refine Z H ?_ | (refine Zc ?_ ?_ <;> intro hc <;> first | (exfalso; omega) | skip) | (refine Y ?_; try change C _ _ _ _ _ _) | (refine Zs H ?_; clear H; (try clear w); intro w H) | (refine Zn H ?_; clear H; (try clear w); intro _ w H) | (refine Ze H ?_; clear H; (try clear w); intro gv w H))
      refine ⟨by (repeat (first | exact Agr.refl | exact Agr.hav | refine Agr.upd rfl ?_ | refine Agr.in rfl ?_)), 8 - (i + 1), by omega, _, ⟨i + 1, aa, cc, rfl, by omega, by omega, by rw [hpk]; rfl, rfl⟩, ?_⟩
      rw [hpk]; exact H.tail
end
end Go.Proofs.Ytlchnabnhimlcaa
set_option linter.unusedSimpArgs false
set_option linter.unusedVariables false
namespace Go.Own
open Go Go.RowKit
section
variable {P : Program} {n : Nat} {Q : Post} {e : Env} {w : World} {s : Ro} {R : List Asn}
/-- MODE 8, with pieces that were there -/
theorem C.flowIu {id : Nat} {l : List Oper} (fs : List FS) (outs live : List Nat) (H : Holds s w (((List.range fs.length).flatMap fun i => (fsAt fs i).pre) ++ R)) (hok : okF P l (fs.map (·.at_)) (fs.map (·.at2)) (fs.map (·.deps)) (fs.map (·.uses)) = true)
    (hlive : ((List.range fs.length).filter fun i => !(((fs.map (·.uses)).flatten).contains i)) = live) (houts : outs.all (fun j => Nat.blt j fs.length) = true)
    (hsteps : StepsF P n l.toArray (dstsOf (l.take fs.length)) e s R fs fs l)
    (hend : ∀ (s' : Ro) (h : Env) (w' : World), s.Le s' → allF (outs.map fun j => (fsAt fs j).fact) s' fun vs =>
      Holds s' w' (live.flatMap (fun j => (fsAt fs j).own (upds (outs.map fun j => (fsAt fs j).at_) vs (hav (dstsOf (l.take fs.length)) h e) (fsAt fs j).at_) (upds (outs.map fun j => (fsAt fs j).at_) vs (hav (dstsOf (l.take fs.length)) h e) (fsAt fs j).at2)) ++ R) →
      L P n l.toArray (fun x e w => x = .normal ∧ Q .normal e w) (l.drop fs.length) (upds (outs.map fun j => (fsAt fs j).at_) vs (hav (dstsOf (l.take fs.length)) h e)) w') : C P n Q (.region id l.toArray true) e w := by
  obtain ⟨⟨hms, htail⟩, hm, hlow, hlen, hnd, hund, hops⟩ : (Reg.masksOk l.toArray (ancB l) = true ∧ ∀ k, k < l.length → fs.length ≤ k → ∀ j, j < k → ((ancB l).getD k 0).testBit j = true) ∧ P.follows .mixedOrders = true ∧ Reg.lowB l.toArray = true ∧ fs.length ≤ l.length ∧ (dstsOf l).Nodup ∧ ((fs.map (·.uses)).flatten).Nodup ∧ ∀ i o, i < fs.length → l[i]? = some o → (∀ j ∈ (fsAt fs i).deps, directB o j = true) ∧ (∀ j ∈ (fsAt fs i).uses, directB o j = true) ∧ (o.dst = some (fsAt fs i).at_ ∨ ∃ j p, directB o j = true ∧ l[j]? = some p ∧ p.dst = some (fsAt fs i).at_) ∧ (o.dst = some (fsAt fs i).at2 ∨ ∃ j p, directB o j = true ∧ l[j]? = some p ∧ p.dst = some (fsAt fs i).at2) := by
    simp only [okF, Bool.and_eq_true, Nat.beq_eq, Nat.ble_eq, decide_eq_true_eq, List.length_map] at hok
    obtain ⟨⟨⟨⟨⟨⟨⟨⟨⟨⟨h1, h2⟩, h3⟩, _⟩, _⟩, _⟩, h4⟩, h5⟩, h7⟩, h8⟩, h6⟩ := hok
    refine ⟨⟨h7, fun k hk hmk j hj => ?_⟩, h1, h2, h3, h4, h5, fun i o hfi ho => ?_⟩
    · have := List.all_eq_true.1 h8 k (List.mem_range.2 hk)
      rw [Bool.or_eq_true] at this
      rcases this with h | h
      · simp only [Nat.blt_eq] at h; omega
      · exact List.all_eq_true.1 h j (List.mem_range.2 hj)
    have hil : i < l.length := (List.getElem?_eq_some_iff.1 ho).1
    have := List.all_eq_true.1 h6 i (List.mem_range.2 hfi)
    have e0 : fsAt fs i = fs[i] := by unfold fsAt; simp [hfi]
    simp only [ho, Bool.and_eq_true, List.all_eq_true, List.getD_eq_getElem?_getD, List.getElem?_map, List.getElem?_eq_getElem hfi, Option.map_some, Option.getD_some] at this
    obtain ⟨⟨⟨g1, g2⟩, g3⟩, g4⟩ := this
    have hfr : ∀ {t : Nat}, fromB l fs.length o t = true → (o.dst = some t ∨ ∃ j p, directB o j = true ∧ l[j]? = some p ∧ p.dst = some t) := by
      intro t h
      unfold fromB at h
      rw [Bool.or_eq_true] at h
      rcases h with h | h
      · exact .inl (by simpa using h)
      · simp only [List.any_eq_true, Bool.and_eq_true] at h
        obtain ⟨j, _, hj, hp⟩ := h
        refine .inr ⟨j, ?_⟩
        cases hp2 : l[j]? with
        | none => rw [hp2] at hp; cases hp
        | some p =>
          rw [hp2] at hp
          exact ⟨p, hj, rfl, by simpa using hp⟩
    rw [e0]
    exact ⟨g1, g2, hfr g3, hfr g4⟩
  have hlowS := (Reg.low_spec hlow).1
  have hdir : ∀ {o : Oper} {j : Nat}, directB o j = true → ∃ e ∈ o.after, Region.binds .any e = true ∧ e.on = j := by
    intro o j h
    unfold directB at h
    obtain ⟨e, he, h2⟩ := Array.any_eq_true'.1 h
    simp only [Bool.and_eq_true, Nat.beq_eq] at h2
    exact ⟨e, he, h2.1, h2.2⟩
  have hat : ∀ {o : Oper} {i : Nat}, l[i]? = some o → l.toArray[i]? = some o := fun h => by simpa using h
  have husd : ∀ k, k ∈ (fs.map (·.uses)).flatten ↔ ∃ i, i < fs.length ∧ k ∈ (fsAt fs i).uses := by
    intro k
    simp only [List.mem_flatten, List.mem_map]
    constructor
    · rintro ⟨_, ⟨f, hf, rfl⟩, hk⟩
      obtain ⟨i, hi, rfl⟩ := List.mem_iff_getElem.1 hf
      exact ⟨i, hi, by unfold fsAt; simpa [hi] using hk⟩
    · rintro ⟨i, hfi, hk⟩
      exact ⟨_, ⟨fs[i], List.getElem_mem _, rfl⟩, by unfold fsAt at hk; simpa [hfi] using hk⟩
  have hback : ∀ {listed : Array Bool} {k : Nat} {o : Oper}, l[k]? = some o → Reg.Closed l.toArray listed → (∀ e ∈ o.after, Region.binds .any e = true → listed.getD e.on false = true) → fs.length ≤ k → ∀ j, j < k → listed.getD j false = true := by
    intro listed k o ho hc hall hk j hj
    have hkl : k < l.length := (List.getElem?_eq_some_iff.1 ho).1
    obtain ⟨f, hrf⟩ := Reg.masks_reach hms hlowS k j (by simpa using hkl) (htail k hkl hk j hj)
    exact Reg.reach_listed hc f k j hrf (fun o' ho' e' he' hb' => by
      rw [hat ho] at ho'; cases ho'; exact hall e' he' hb')
  let JE : Array Bool → Act → World → Prop := fun listed a w => ∃ e1, Fr n a e1 ∧ ∃ s1, s.Le s1 ∧ Agr (dstsOf (l.take fs.length)) e e1 ∧ (∀ i, listed.getD i false = true → (fsAt fs i).fact s1 (e1 (fsAt fs i).at_)) ∧
    ∃ U : List Nat, U.Nodup ∧ (∀ k, k ∈ U ↔ (k < fs.length ∧ listed.getD k false = false)) ∧ ∃ L : List Nat, L.Nodup ∧ (∀ k, k ∈ L ↔ (listed.getD k false = true ∧ ¬ ∃ i, listed.getD i false = true ∧ k ∈ (fsAt fs i).uses)) ∧ Holds s1 w ((R ++ U.flatMap fun k => (fsAt fs k).pre) ++ L.flatMap (fun k => (fsAt fs k).own (e1 (fsAt fs k).at_) (e1 (fsAt fs k).at2)))
  let QN : Act → World → Prop := fun a w => lift n Q .normal a w
  let JT : Array Bool → Act → World → Prop := fun listed a w => ∃ c, fs.length ≤ c ∧ (∀ k, k < c → listed.getD k false = true) ∧ (∀ k, c ≤ k → listed.getD k false = false) ∧ wpList P l.toArray (Reg.onN QN) (l.drop c) a w
  have hfinal : ∀ (listed : Array Bool) (a : Act) (w : World), (∀ k, fs.length ≤ k → listed.getD k false = false) → (∀ k, k < fs.length → listed.getD k false = true) → JE listed a w → wpList P l.toArray (Reg.onN QN) (l.drop fs.length) a w := by
    rintro listed a w hnone hdn ⟨e1, fr, s1, hs1, hag, hfacts, U, _, hUm, L, hLn, hLm, H⟩
    have hU0 : U = [] := List.eq_nil_iff_forall_not_mem.2 fun k hk => by
      have := (hUm k).1 hk
      rw [hdn k this.1] at this; cases this.2
    rw [hU0, List.flatMap_nil, List.append_nil] at H
    have hend2 := allF_go (e := e1) (s := s1) (outs.map fun j => ((fsAt fs j).at_, (fsAt fs j).fact)) (k := _) (by
      rw [List.map_map]
      exact hend s1 e1 w hs1) (by
      intro x hx
      obtain ⟨j, hj, rfl⟩ := List.mem_map.1 hx
      exact hfacts j (hdn j (by have := List.all_eq_true.1 houts j hj; simpa using this)))
    rw [List.map_map] at hend2
    have henv : upds (outs.map fun j => (fsAt fs j).at_) (outs.map ((fun x => e1 x.1) ∘ fun j => ((fsAt fs j).at_, (fsAt fs j).fact))) (hav (dstsOf (l.take fs.length)) e1 e) = e1 := by
      rw [← hag.eq]
      have : (outs.map ((fun x => e1 x.1) ∘ fun j => ((fsAt fs j).at_, (fsAt fs j).fact))) = (outs.map fun j => (fsAt fs j).at_).map e1 := by rw [List.map_map]; rfl
      rw [this, upds_map e1]
    rw [henv] at hend2
    refine wpList_post ?_ ((hend2 (H.perm ?_)).go a fr)
    · rintro x a' w' ⟨e2, fr2, rfl, hq⟩
      exact ⟨e2, fr2, hq⟩
    refine List.perm_append_comm.trans (List.Perm.append_right _ ?_)
    refine List.Perm.flatMap_right _ ?_
    refine (List.perm_ext_iff_of_nodup hLn (by rw [← hlive]; exact List.nodup_range.filter _)).2 fun k => ?_
    have hlt : ∀ k, listed.getD k false = true → k < fs.length := fun k hk => by
      rcases Nat.lt_or_ge k fs.length with h' | h'
      · exact h'
      · rw [hnone k h'] at hk; cases hk
    rw [← hlive, hLm]
    simp only [List.mem_filter, List.mem_range, Bool.not_eq_true', List.contains_eq_mem, decide_eq_false_iff_not, husd]
    constructor
    · rintro ⟨h1, h2⟩
      exact ⟨hlt k h1, fun ⟨i, hi, hk⟩ => h2 ⟨i, hdn i hi, hk⟩⟩
    · rintro ⟨h1, h2⟩
      exact ⟨hdn k h1, fun ⟨i, hi, hk⟩ => h2 ⟨i, hlt i hi, hk⟩⟩
  have hdnS : ∀ {listed : Array Bool} {i : Nat}, i < listed.size → ∀ k, (listed.setIfInBounds i true).getD k false = true ↔ (k = i ∨ listed.getD k false = true) := by
    intro listed i his k
    by_cases hk : i = k
    · subst hk; simp [his]
    · simp only [Array.getD_eq_getD_getElem?, Array.getElem?_setIfInBounds_ne hk]
      exact ⟨.inr, fun h => h.resolve_left fun h => hk h.symm⟩
  have hno : ∀ {b : Bool}, ¬ b = true → b = false := fun h => by simpa using h
  refine ⟨fun a ha => Reg.region8 hm hlow (fun listed a w => listed.size = l.length ∧ ((∀ k, fs.length ≤ k → listed.getD k false = false) ∧ JE listed a w ∨ JT listed a w)) ?_ ?_ ?_⟩
  · refine ⟨by simp, .inl ⟨fun k _ => Reg.rep_f _ _, e, ha, s, Ro.Le.refl _, Agr.refl, fun i hi => ?_, List.range fs.length, List.nodup_range, fun k => by rw [Reg.rep_f]; simp, [], List.nodup_nil, fun k => ?_, by rw [List.flatMap_nil, List.append_nil]; exact H.drew.perm List.perm_append_comm⟩⟩
    · rw [Reg.rep_f] at hi; cases hi
    · constructor
      · intro h; simp at h
      · rintro ⟨hi, _⟩
        rw [Reg.rep_f] at hi; cases hi
  · rintro listed i o a w ho hsz hun hc hall ⟨_, hJ⟩
    have hol : l[i]? = some o := by simpa using ho
    have hil : i < l.length := (List.getElem?_eq_some_iff.1 hol).1
    have his : i < listed.size := by rw [hsz]; simpa using hil
    have hnl0 : listed.getD i false = false := Reg.getD_both hun
    -- behind the others
    have htl : ∀ c, fs.length ≤ c → (∀ k, k < c → listed.getD k false = true) → (∀ k, c ≤ k → listed.getD k false = false) → wpList P l.toArray (Reg.onN QN) (l.drop c) a w → i = c → wpOp P l.toArray (lift n Q) i (fun a w => (listed.setIfInBounds i true).size = l.length ∧ ((∀ k, fs.length ≤ k → (listed.setIfInBounds i true).getD k false = false) ∧ JE (listed.setIfInBounds i true) a w ∨ JT (listed.setIfInBounds i true) a w)) a w := by
      intro c hfc hc1 hc2 hw hic
      subst hic
      rw [List.drop_eq_getElem_cons hil, show l[i] = o by rw [List.getElem?_eq_getElem hil] at hol; exact Option.some.inj hol] at hw
      refine Reg.wpOp_of_stp (Reg.stp_mono (fun a w hk => ⟨by simp [hsz], .inr ⟨i + 1, by omega, fun k hk => (hdnS his k).2 ?_, fun k hk => hno fun h => ?_, hk⟩⟩) (Reg.wp_to_stp (R := QN) ho hw))
      · by_cases h : k = i
        · exact .inl h
        · exact .inr (hc1 k (by omega))
      · rcases (hdnS his k).1 h with h | h
        · omega
        · rw [hc2 k (by omega)] at h; cases h
    rcases hJ with ⟨hnone, hJE⟩ | ⟨c, hfc, hc1, hc2, hw⟩
    rotate_left
    · refine htl c hfc hc1 hc2 hw ?_
      have h1 : c ≤ i := by
        rcases Nat.lt_or_ge i c with h' | h'
        · rw [hc1 i h'] at hnl0; cases hnl0
        · exact h'
      rcases Nat.lt_or_ge c i with h' | h'
      · have := hback hol hc hall (by omega) c h'
        rw [hc2 c (Nat.le_refl _)] at this; cases this
      · omega
    by_cases hfi : i < fs.length
    rotate_left
    · have hallb := hback hol hc hall (by omega)
      have hie : i = fs.length := by
        rcases Nat.lt_or_ge fs.length i with h' | h'
        · have := hallb fs.length h'
          rw [hnone _ (Nat.le_refl _)] at this; cases this
        · omega
      exact htl fs.length (Nat.le_refl _) (fun k hk => hallb k (by omega)) hnone (hfinal listed a w hnone (fun k hk => hallb k (by omega)) hJE) hie
    obtain ⟨e1, fr, s1, hs1, hag, hfacts, U, hUn, hUm, L, hLn, hLm, H⟩ := hJE
    have hlt : ∀ k, listed.getD k false = true → k < fs.length := fun k hk => by
      rcases Nat.lt_or_ge k fs.length with h' | h'
      · exact h'
      · rw [hnone k h'] at hk; cases hk
    have e0 : fs[i]? = some (fsAt fs i) := by unfold fsAt; simp [hfi]
    obtain ⟨hd1, hd2, _⟩ := hops i o hfi hol
    have hst := stepsF_get fs l i (fsAt fs i) o hsteps e0 hol
    have hnl : listed.getD i false = false := Reg.getD_both hun
    have hdl : ∀ {j}, directB o j = true → listed.getD j false = true := by
      intro j h
      obtain ⟨ed, he, hb, rfl⟩ := hdir h
      exact hall ed he hb
    generalize hf : fsAt fs i = f at *
    have hLp : L.Perm (f.uses ++ L.filter fun k => !(f.uses.contains k)) := by
      have hun2 : f.uses.Nodup := by
        have : f ∈ fs := by rw [← hf]; unfold fsAt; simp [hfi]
        exact List.Nodup.sublist (List.sublist_flatten_of_mem (List.mem_map_of_mem this)) hund
      refine (List.perm_ext_iff_of_nodup hLn ?_).2 fun k => ?_
      · rw [List.nodup_append]
        exact ⟨hun2, hLn.filter _, fun a ha b hb => by
          simp only [List.mem_filter, Bool.not_eq_true', List.contains_eq_mem, decide_eq_false_iff_not] at hb
          rintro rfl; exact hb.2 ha⟩
      · simp only [List.mem_append, List.mem_filter, Bool.not_eq_true', List.contains_eq_mem, decide_eq_false_iff_not]
        constructor
        · intro h
          by_cases hk : k ∈ f.uses
          · exact .inl hk
          · exact .inr ⟨h, hk⟩
        · rintro (h | h)
          · refine (hLm k).2 ⟨hdl (hd2 k h), ?_⟩
            rintro ⟨j, hj, hkj⟩
            have hji : j ≠ i := by rintro rfl; rw [hnl] at hj; cases hj
            have hjf : j < fs.length := hlt j hj
            have hkj2 : k ∈ ((fs.map (·.uses))[j]?).getD [] := by rw [List.getElem?_map]; unfold fsAt at hkj; simpa [hjf] using hkj
            exact flatten_once (fs.map (·.uses)) hund (i := j) (j := i) (k := k) hji hkj2 (by rw [List.getElem?_map, e0]; simpa using h)
          · exact h.1
    have hst2 := allF_go (e := e1) (s := s1) (f.deps.map fun j => ((fsAt fs j).at_, (fsAt fs j).fact)) (k := _) (by
      rw [List.map_map]
      exact hst s1 e1 w (((U.erase i).flatMap fun k => (fsAt fs k).pre) ++ (L.filter fun k => !(f.uses.contains k)).flatMap (fun k => (fsAt fs k).own (e1 (fsAt fs k).at_) (e1 (fsAt fs k).at2))) hs1) (by
      intro x hx
      obtain ⟨j, hj, rfl⟩ := List.mem_map.1 hx
      exact hfacts j (hdl (hd1 j hj)))
    rw [List.map_map] at hst2
    have henv : upds (f.deps.map fun j => (fsAt fs j).at_) (f.deps.map ((fun x => e1 x.1) ∘ fun j => ((fsAt fs j).at_, (fsAt fs j).fact))) (hav (dstsOf (l.take fs.length)) e1 e) = e1 := by
      rw [← hag.eq]
      have : (f.deps.map ((fun x => e1 x.1) ∘ fun j => ((fsAt fs j).at_, (fsAt fs j).fact))) = (f.deps.map fun j => (fsAt fs j).at_).map e1 := by rw [List.map_map]; rfl
      rw [this, upds_map e1]
    rw [henv] at hst2
    have hUp : (U.flatMap fun k => (fsAt fs k).pre).Perm (f.pre ++ (U.erase i).flatMap fun k => (fsAt fs k).pre) := by
      have := (List.perm_cons_erase ((hUm i).2 ⟨hfi, hnl⟩)).flatMap_right (fun k => (fsAt fs k).pre)
      rw [List.flatMap_cons, hf] at this
      exact this
    have hst3 := hst2 (H.perm (by
      refine (((List.Perm.refl R).append hUp).append (hLp.flatMap_right _)).trans ?_
      rw [List.flatMap_append]
      generalize (List.flatMap (fun k => (fsAt fs k).own (e1 (fsAt fs k).at_) (e1 (fsAt fs k).at2)) f.uses) = A1
      generalize (List.flatMap (fun k => (fsAt fs k).own (e1 (fsAt fs k).at_) (e1 (fsAt fs k).at2)) (L.filter fun k => !(f.uses.contains k))) = A2
      generalize (List.flatMap (fun k => (fsAt fs k).pre) (U.erase i)) = A3
      generalize f.pre = A4
      rw [← List.append_assoc]
      refine (List.perm_append_comm.append_right A2).trans ?_
      rw [List.append_assoc]
      refine List.Perm.append_left A1 ?_
      simp only [← List.append_assoc]
      exact (List.perm_append_comm.append_right A3).append_right A2))
    refine Reg.wpOp_of_stp (Reg.wp_to_stp (R := fun a w => (listed.setIfInBounds i true).size = l.length ∧ ((∀ k, fs.length ≤ k → (listed.setIfInBounds i true).getD k false = false) ∧ JE (listed.setIfInBounds i true) a w ∨ JT (listed.setIfInBounds i true) a w)) ho ?_)
    refine wpList_post (Q := lift n (stepQ f o.dst.toList (R ++ (((U.erase i).flatMap fun k => (fsAt fs k).pre) ++ (L.filter fun k => !(f.uses.contains k)).flatMap (fun k => (fsAt fs k).own (e1 (fsAt fs k).at_) (e1 (fsAt fs k).at2)))) s1 e1)) (Q' := Reg.onN _) ?_ (hst3.go a fr)
    rintro x a' w' ⟨e2, fr2, rfl, hag2, s2, hs2, hf2, H2⟩
    have hdn := hdnS his
    have hstab0 : ∀ k, k ≠ i → listed.getD k false = true → ∀ t, (∃ o2, l[k]? = some o2 ∧ (o2.dst = some t ∨ ∃ j p, directB o2 j = true ∧ l[j]? = some p ∧ p.dst = some t)) → e2 t = e1 t := by
      rintro k hki hk t ⟨o2, ho2, hd3k⟩
      refine hag2.at_ _ ?_
      cases hd : o.dst with
      | none => rfl
      | some d =>
        have hkf := hlt k hk
        have hkl : k < l.length := by omega
        simp only [Option.toList_some, List.any_cons, List.any_nil, Bool.or_false]
        cases hq : Nat.beq t d with
        | false => rfl
        | true =>
          exfalso
          have hqe := Nat.eq_of_beq_eq_true hq
          rcases hd3k with h | ⟨j, p, hj, hp, hpd⟩
          · exact hki (dst_once l hnd (i := k) (j := i) (o := o2) ho2 hol (by rw [h, hqe]) hd)
          · have hji : j = i := dst_once l hnd hp hol (by rw [hpd, hqe]) hd
            subst hji
            obtain ⟨ed, he, hb, hon⟩ := hdir hj
            have := hc k o2 (hat ho2) hk ed he hb
            rw [hon, hnl] at this; cases this
    have hstab : ∀ k, k ≠ i → listed.getD k false = true → e2 (fsAt fs k).at_ = e1 (fsAt fs k).at_ := by
      intro k hki hk
      have hkf := hlt k hk
      have hkl : k < l.length := by omega
      have ho2 : l[k]? = some l[k] := by simp [hkl]
      exact hstab0 k hki hk _ ⟨l[k], ho2, (hops k l[k] hkf ho2).2.2.1⟩
    have hstab2 : ∀ k, k ≠ i → listed.getD k false = true → e2 (fsAt fs k).at2 = e1 (fsAt fs k).at2 := by
      intro k hki hk
      have hkf := hlt k hk
      have hkl : k < l.length := by omega
      have ho2 : l[k]? = some l[k] := by simp [hkl]
      exact hstab0 k hki hk _ ⟨l[k], ho2, (hops k l[k] hkf ho2).2.2.2⟩
    refine ⟨by simp [hsz], .inl ⟨fun k hk => hno fun h => ?_, e2, fr2, s2, hs1.trans hs2, ?_, ?_, U.erase i, hUn.erase i, fun k => ?_, i :: L.filter (fun k => !(f.uses.contains k)), ?_, ?_, ?_⟩⟩
    · rcases (hdn k).1 h with h | h
      · omega
      · rw [hnone k hk] at h; cases h
    · refine hag.trans ⟨fun t ht => hag2.at_ t ?_⟩
      cases hd : o.dst with
      | none => rfl
      | some d =>
        simp only [Option.toList_some, List.any_cons, List.any_nil, Bool.or_false]
        cases hq : Nat.beq t d with
        | false => rfl
        | true =>
          have := Nat.eq_of_beq_eq_true hq
          subst this
          have hmem : t ∈ dstsOf (l.take fs.length) := List.mem_filterMap.2 ⟨o, List.mem_of_getElem? (i := i) (by rw [List.getElem?_take_of_lt (by omega)]; exact hol), hd⟩
          have : (dstsOf (l.take fs.length)).any (Nat.beq t) = true := List.any_eq_true.2 ⟨t, hmem, by simp⟩
          rw [this] at ht; cases ht
    · intro k hk
      by_cases hki : k = i
      · subst hki; rw [hf]; exact hf2
      · have hk' := ((hdn k).1 hk).resolve_left hki
        rw [hstab k hki hk']
        exact (fsAt fs k).mono hs2 (hfacts k hk')
    · rw [hUn.mem_erase_iff, hUm]
      constructor
      · rintro ⟨h1, h2, h3⟩
        exact ⟨h2, hno fun h => ((hdn k).1 h).elim h1 (fun h => by rw [h3] at h; cases h)⟩
      · rintro ⟨h1, h2⟩
        exact ⟨fun h => (by rw [(hdn k).2 (.inl h)] at h2; cases h2), h1, hno fun h => (by rw [(hdn k).2 (.inr h)] at h2; cases h2)⟩
    · rw [List.nodup_cons]
      refine ⟨fun h => ?_, hLn.filter _⟩
      have := ((hLm i).1 (List.mem_filter.1 h).1).1
      rw [hnl] at this; cases this
    · intro k
      simp only [List.mem_cons, List.mem_filter, Bool.not_eq_true', List.contains_eq_mem, decide_eq_false_iff_not, hdn]
      constructor
      · rintro (rfl | ⟨hk, hku⟩)
        · refine ⟨.inl rfl, ?_⟩
          rintro ⟨j, hj, hkj⟩
          have hself : ∀ j, k ∈ (fsAt fs j).uses → j < fs.length → directB (l.getD j o) k = true := fun j h hjl => (hops j (l.getD j o) hjl (by simp [Nat.lt_of_lt_of_le hjl hlen])).2.1 k h
          rcases hj with rfl | hj
          · rw [hf] at hkj
            obtain ⟨ed, he, hb, hon⟩ := hdir (hd2 _ hkj)
            have := hlowS _ o ho ed he hb
            omega
          · have hjl := hlt j hj
            have hjl2 : j < l.length := by omega
            obtain ⟨ed, he, hb, hon⟩ := hdir (hself j hkj hjl)
            have := hc j (l.getD j o) (by simp [hjl2]) hj ed he hb
            rw [hon, hnl] at this; cases this
        · obtain ⟨h1, h2⟩ := (hLm k).1 hk
          refine ⟨.inr h1, ?_⟩
          rintro ⟨j, rfl | hj, hkj⟩
          · rw [hf] at hkj; exact hku hkj
          · exact h2 ⟨j, hj, hkj⟩
      · rintro ⟨rfl | hk, hno⟩
        · exact .inl rfl
        · by_cases hki : k = i
          · exact .inl hki
          · exact .inr ⟨(hLm k).2 ⟨hk, fun ⟨j, hj, hkj⟩ => hno ⟨j, .inr hj, hkj⟩⟩, fun h => hno ⟨i, .inl rfl, by rw [hf]; exact h⟩⟩
    · rw [List.flatMap_cons, hf]
      have hcg : (L.filter fun k => !(f.uses.contains k)).flatMap (fun k => (fsAt fs k).own (e2 (fsAt fs k).at_) (e2 (fsAt fs k).at2)) = (L.filter fun k => !(f.uses.contains k)).flatMap (fun k => (fsAt fs k).own (e1 (fsAt fs k).at_) (e1 (fsAt fs k).at2)) := by
        apply flatMap_congr'
        intro k hk
        have hkl := ((hLm k).1 (List.mem_filter.1 hk).1).1
        rw [hstab k (by rintro rfl; rw [hnl] at hkl; cases hkl) hkl, hstab2 k (by rintro rfl; rw [hnl] at hkl; cases hkl) hkl]
      rw [hcg]
      refine H2.perm ?_
      generalize (List.flatMap (fun k => (fsAt fs k).own (e1 (fsAt fs k).at_) (e1 (fsAt fs k).at2)) (L.filter fun k => !(f.uses.contains k))) = A2
      generalize (List.flatMap (fun k => (fsAt fs k).pre) (U.erase i)) = A3
      generalize f.own (e2 f.at_) (e2 f.at2) = A0
      have q1 : A0 ++ (R ++ (A3 ++ A2)) = (A0 ++ (R ++ A3)) ++ A2 := by simp
      have q2 : (R ++ A3) ++ (A0 ++ A2) = ((R ++ A3) ++ A0) ++ A2 := by simp
      rw [q1, q2]
      exact List.perm_append_comm.append_right _
  · rintro listed a w hdone ⟨hsz, hJ⟩
    have hdn : ∀ k, k < l.length → listed.getD k false = true := fun k hk => hdone k (by simpa using hk)
    have hq : ∀ c, fs.length ≤ c → (∀ k, c ≤ k → listed.getD k false = false) → wpList P l.toArray (Reg.onN QN) (l.drop c) a w → lift n Q .normal a w := by
      intro c _ hc2 hw
      have hcl : l.length ≤ c := by
        rcases Nat.lt_or_ge c l.length with h' | h'
        · have := hdn c h'
          rw [hc2 c (Nat.le_refl _)] at this; cases this
        · exact h'
      rw [List.drop_of_length_le hcl] at hw
      exact hw
    rcases hJ with ⟨hnone, hJE⟩ | ⟨c, hfc, _, hc2, hw⟩
    · exact hq fs.length (Nat.le_refl _) hnone (hfinal listed a w hnone (fun k hk => hdn k (by omega)) hJE)
    · exact hq c hfc hc2 hw
/-- MODE 8 -/
theorem C.flowU {id : Nat} {l : List Oper} (fs : List FS) (outs live : List Nat) (H : Holds s w R) (hok : okF P l (fs.map (·.at_)) (fs.map (·.at2)) (fs.map (·.deps)) (fs.map (·.uses)) = true)
    (hlive : ((List.range fs.length).filter fun i => !(((fs.map (·.uses)).flatten).contains i)) = live) (houts : outs.all (fun j => Nat.blt j fs.length) = true)
    (hsteps : StepsF P n l.toArray (dstsOf (l.take fs.length)) e s R fs fs l)
    (hend : ∀ (s' : Ro) (h : Env) (w' : World), s.Le s' → allF (outs.map fun j => (fsAt fs j).fact) s' fun vs =>
      Holds s' w' (live.flatMap (fun j => (fsAt fs j).own (upds (outs.map fun j => (fsAt fs j).at_) vs (hav (dstsOf (l.take fs.length)) h e) (fsAt fs j).at_) (upds (outs.map fun j => (fsAt fs j).at_) vs (hav (dstsOf (l.take fs.length)) h e) (fsAt fs j).at2)) ++ R) →
      L P n l.toArray (fun x e w => x = .normal ∧ Q .normal e w) (l.drop fs.length) (upds (outs.map fun j => (fsAt fs j).at_) vs (hav (dstsOf (l.take fs.length)) h e)) w') (hpre : ((List.range fs.length).flatMap fun i => (fsAt fs i).pre) = [] := by rfl) : C P n Q (.region id l.toArray true) e w :=
  C.flowIu fs outs live (by rw [hpre]; exact H) hok hlive houts hsteps hend
end
end Go.Own

/- The document's disk (nacelleref05) as it lies in memory; contracts of its functions, over the same plain data DM. The document's disk (nacelleref05) as it lies in memory that is only read; contracts of its functions, over the same plain data DM. More contracts of the document's disk (nacelleref05). More contracts of the document's disk (nacelleref05): Read, Image, Load, New. Contracts of the disk's Waiting and Load. -/
import Derived.Test.YtmcojfpomejnnaaQpDk
import Derived.Test.YtmcojfpomejnnaaQpK4
import Derived.Test.YtmcojfpomejnnaaQpK3
set_option linter.unusedSimpArgs false
set_option linter.unusedVariables false
namespace Go.Proofs.Ytmcojfpomejnnaa
open Go Go.RowKit Go.Own
/-- a slice that reads xs; R holds its block, where it has elements -/
def Rd (w : World) (v : Value) (sz n : Nat) (xs : List Value) (R : List Nat) : Prop := Sl w v sz n xs ∧ (xs ≠ [] → ∀ k, v.ownBlock = some k → k ∈ R ∧ k < w.heap.size)
theorem Rd.only {w w' : World} {v : Value} {sz n : Nat} {xs : List Value} {R S : List Nat} (h : Rd w v sz n xs R) (ho : Only S w w') (hd : ∀ k ∈ R, k ∉ S) : Rd w' v sz n xs R := by
  by_cases hx : xs = []
  · subst hx
    exact ⟨sl_nil_any h.1, fun hh => absurd rfl hh⟩
  · exact ⟨h.1.only ho (fun k hk => hd k (h.2 hx k hk).1), fun _ k hk => ⟨(h.2 hx k hk).1, Nat.lt_of_lt_of_le (h.2 hx k hk).2 ho.size⟩⟩
theorem Rd.mono {w : World} {v : Value} {sz n : Nat} {xs : List Value} {R R' : List Nat} (h : Rd w v sz n xs R) (hr : ∀ k ∈ R, k ∈ R') : Rd w v sz n xs R' :=
  ⟨h.1, fun hx k hk => ⟨hr _ (h.2 hx k hk).1, (h.2 hx k hk).2⟩⟩
theorem Rd.nil (w : World) (sz : Nat) (R : List Nat) : Rd w (.slice none 0 0) sz 0 [] R :=
  ⟨⟨none, 0, rfl, by simp, Nat.le_refl _, Nat.zero_le _, fun j x hx => by simp at hx⟩, fun h => absurd rfl h⟩
def bst (l : List UInt8) : ByteArray := ⟨l.toArray⟩
theorem bst_size (l : List UInt8) : (bst l).size = l.length := by simp [bst, ByteArray.size]
def strs (l : List (List UInt8)) : List Value := l.map fun s => .string (bst s)
theorem strs_len (l : List (List UInt8)) : (strs l).length = l.length := by simp [strs]
theorem strs_one (l : List (List UInt8)) : ∀ v ∈ strs l, v.oneCell' = true := by
  intro v hv; simp only [strs, List.mem_map] at hv; obtain ⟨_, _, rfl⟩ := hv; rfl
def rwr (p : Nat × List UInt8) : List Value := [.int .i64 (p.1 : Int), .string (bst p.2)]
theorem rwr_one (l : List (Nat × List UInt8)) : ∀ v ∈ l.flatMap rwr, v.oneCell' = true := by
  intro v hv; simp only [List.mem_flatMap, rwr] at hv; obtain ⟨p, _, hv⟩ := hv; simp at hv; rcases hv with rfl | rfl <;> rfl
/-- the document's disk: the value v reads as d; R: the blocks that it reads -/
structure RefAt (w : World) (v : Value) (d : DM) (R : List Nat) : Prop where
  wf : d.Wf
  lies : ∃ vh vw vs surv, v = .agg #[vh, vw, .bool d.off, .int .i64 (if d.armed then d.left else -1), vs] ∧ Rd w vh 1 d.secs.length (strs d.secs) R ∧ Rd w vw 2 d.pend.length (d.pend.flatMap rwr) R ∧ Rd w vs 1 surv.length (surv.map Value.bool) R ∧ (d.armed = true → surv = d.surv)
theorem RefAt.only {w w' : World} {v : Value} {d : DM} {R S : List Nat} (h : RefAt w v d R) (ho : Only S w w') (hd : ∀ k ∈ R, k ∉ S) : RefAt w' v d R := by
  obtain ⟨hw, vh, vw, vs, sv, h1, h2, h3, h4, h5⟩ := h
  exact ⟨hw, vh, vw, vs, sv, h1, h2.only ho hd, h3.only ho hd, h4.only ho hd, h5⟩
theorem RefAt.mono {w : World} {v : Value} {d : DM} {R R' : List Nat} (h : RefAt w v d R) (hr : ∀ k ∈ R, k ∈ R') : RefAt w v d R' := by
  obtain ⟨hw, vh, vw, vs, sv, h1, h2, h3, h4, h5⟩ := h
  exact ⟨hw, vh, vw, vs, sv, h1, h2.mono hr, h3.mono hr, h4.mono hr, h5⟩
theorem own_pos {w : World} {b : Nat} {e : TypeId} {sz : Nat} {v : Value} {n : Nat} {xs : List Value} (h : w.ownsRow b e sz v n xs) (hn : 0 < n) : ∃ g cap cur, v = .slice (some ⟨g, 0, none⟩) n cap ∧ b ≤ g ∧ w.heap[g]? = some (.cells cur e (0, 0)) ∧ n ≤ cap ∧ cap ≤ maxLen ∧ cur.size = cap * sz ∧ cur.toList.take (n * sz) = xs := by
  rcases h.2 with ⟨_, h⟩ | h
  · omega
  · exact h
theorem eStrs : ElT Try.prog 60 9 1 16 (.string ⟨#[]⟩) := elT Try.underlying60 (by kernel_rfl) rfl (by decide)
theorem strs_set (l : List (List UInt8)) (n : Nat) (s : List UInt8) : (strs l).set n (.string (bst s)) = strs (l.set n s) := by simp [strs, List.map_set]
theorem with_at (v : Value) (l : List (List UInt8)) (n : Nat) (s : List UInt8) (w : World) (h : Sl w v 1 l.length (strs l)) (hn : n < l.length) (hl : l.length ≤ 256) :
    Calls Try.prog 79 #[v, .int .i64 n, .string (bst s)] w fun e w' => ∃ v', e = .returned v' ∧ w'.ownsRow w.heap.size 9 1 v' l.length (strs (l.set n s)) ∧ Only [] w w' := by
  have hsl : Sl (w.alloc (.cells #[] 9)) v 1 l.length (strs l) := h.only (S := []) (only_alloc _ _ _) (by simp)
  have hown : (w.alloc (.cells #[] 9)).ownsRow 0 9 1 (.slice (some ⟨w.heap.size, 0, none⟩) 0 0) 0 [] := World.ownsRow_made w #[] 0 (Nat.zero_le _) (by decide) (by simp)
  have HSL := Lib.hid hsl
  have HOWN := Lib.hid hown
  clear hsl hown h
  go_enter Try.func79, Try.ntmps79
  go_wp2_with ((with_reducible show wpList _ _ _ (⟨_, .call ⟨.builtin .append, _, _⟩, _, _, _, _⟩ :: _) _ _); go_must (refine append_row (s := .tmp 8) (x := .tmp 9) (v := .slice (some ⟨w.heap.size, 0, none⟩) 0 0) (xv := v) eStrs rfl rfl rfl HOWN.out rfl HSL.out (strs_one _) (by unfold maxLen; omega) (by omega) ?_; intro v' w' hq1 hq2 hq3; rw [Nat.zero_add, List.nil_append] at hq1; obtain ⟨g, cap, cur, rfl, _, q4, q5, q6, q7, q8⟩ := own_pos hq1 (by omega); have hc : w'.cell? ⟨g, n, none⟩ = some (.string (bst l[n])) := (by rw [cell_of_row _ _ _ _ _ _ q4]; have := congrArg (·[n]?) q8; simp [List.getElem?_take, strs, hn] at this; simpa using this); have hf : w'.frozen? ⟨g, n, none⟩ = false := (by simp [World.frozen?, q4]); have HQ2 := Lib.hid hq2; have HQ3 := Lib.hid hq3; have Q4 := Lib.hid q4; have Q7 := Lib.hid q7; have Q8 := Lib.hid q8; clear hq1 hq2 hq3 q4 q7 q8))
  go_ret
  have hg : w.heap.size ≤ g := by
    rcases HQ3.out g rfl with h | h
    · cases h; exact Nat.le_refl _
    · simp at h; omega
  refine ⟨_, rfl, ⟨by simp [strs_len], .inr ⟨g, cap, _, rfl, hg, heap_setCell_same _ _ n _ _ _ Q4.out, q5, q6, by simp [Q7.out], ?_⟩⟩, ?_⟩
  · have := Q8.out
    rw [← strs_set, ← this, Array.toList_setIfInBounds, List.take_set]
  · exact ((only_alloc [] _ _).trans' HQ2.out (fun x hx => .inr (by simp [Value.ownBlock] at hx; omega))).trans' (only_setCell (S := [g]) _ _ _ (by simp)) (fun z hz => .inr (by simp at hz; omega))
end Go.Proofs.Ytmcojfpomejnnaa
set_option linter.unusedSimpArgs false
set_option linter.unusedVariables false
namespace Go.Proofs.Ytmcojfpomejnnaa
open Go Go.RowKit Go.Own
/-- the document's disk: the value v reads as d -/
def RefS (s : Ro) (v : Value) (d : DM) : Prop := d.Wf ∧ ∃ ah ch aw cw sa sc lf surv,
  v = .agg #[.slice ah d.secs.length ch, .slice aw d.pend.length cw, .bool d.off, .int .i64 lf, .slice sa (List.length surv) sc] ∧
  SlS s (.slice ah d.secs.length ch) 1 d.secs.length (strs d.secs) ∧ SlS s (.slice aw d.pend.length cw) 2 d.pend.length (d.pend.flatMap rwr) ∧ SlS s (.slice sa surv.length sc) 1 surv.length (surv.map Value.bool) ∧
  (d.armed = true → lf = d.left ∧ surv = d.surv) ∧ (d.armed = false → lf = -1)
theorem RefS.mono {s s' : Ro} {v : Value} {d : DM} (h : RefS s v d) (hs : s.Le s') : RefS s' v d := by
  obtain ⟨hw, ah, ch, aw, cw, sa, sc, lf, surv, h1, h2, h3, h4, h5⟩ := h
  exact ⟨hw, ah, ch, aw, cw, sa, sc, lf, surv, h1, h2.mono hs, h3.mono hs, h4.mono hs, h5⟩
theorem Power_r {s : Ro} {w : World} {R : List Asn} {v : Value} {d : DM} (H : Holds s w R) (h : RefS s v d) :
    Calls Try.prog 31 #[v] w fun e w' => ∃ v', e = .returned v' ∧ RefS s v' d.power ∧ Holds s w' R := by
  obtain ⟨hw, ah, ch, aw, cw, sa, sc, lf, surv, rfl, h2, h3, h4, h5, h6⟩ := h
  refine enter Try.func31 rfl Try.ntmps31 rfl ?_
  repeat' (first | refine Z H ?_ | (refine Zc ?_ ?_ <;> intro hc <;> first | (exfalso; omega) | skip) | (refine Y ?_; try change C _ _ _ _ _ _) | (refine Zs H ?_; clear H; (try clear w); intro w H) | (refine Zn H ?_; clear H; (try clear w); intro _ w H) | (refine Ze H ?_; clear H; (try clear w); intro gv w H))
  exact ⟨_, resC 0 H rfl rfl rfl rfl, _, rfl, ⟨hw.power, ah, ch, none, 0, sa, sc, -1, surv, rfl, h2, SlS.nil _ _, h4, fun h => by simp [DM.power] at h, fun _ => rfl⟩, H.tail.tail⟩
theorem with_r {s : Ro} {w : World} {R : List Asn} {v : Value} {l : List (List UInt8)} {n : Nat} {x : List UInt8} (H : Holds s w R) {m : Nat} (h : SlS s v 1 m (strs l)) (hm : l.length = m) (hn : n < m) (hl : m ≤ 256) :
    Calls Try.prog 79 #[v, .int .i64 n, .string (bst x)] w fun e w' => ∃ aa cc, e = .returned (.slice aa m cc) ∧ Holds s w' (row 9 1 (.slice aa m cc) m (strs (l.set n x)) :: R) := by
  subst hm
  obtain ⟨va, vc, rfl, hv⟩ : ∃ a c, v = .slice a l.length c ∧ True := by obtain ⟨a, c, h, _⟩ := h; exact ⟨a, c, h, trivial⟩
  refine enter Try.func79 rfl Try.ntmps79 rfl ?_
  repeat' (first | refine Z H ?_ | (refine Zc ?_ ?_ <;> intro hc <;> first | (exfalso; omega) | skip) | (refine Y ?_; try change C _ _ _ _ _ _) | (refine Zs H ?_; clear H; (try clear w); intro w H) | (refine Zn H ?_; clear H; (try clear w); intro _ w H) | (refine Ze H ?_; clear H; (try clear w); intro gv w H))
  refine K.app0 0 H rfl (.ro h) (strs_one _) (by unfold maxLen; omega) (by omega) rfl rfl rfl ?_; clear H; intro aa cc w H; (try simp only [List.set_cons_zero, List.set_cons_succ, List.eraseIdx_cons_zero, List.eraseIdx_cons_succ] at H)
  obtain ⟨g, rfl, _⟩ := H.form (i := 0) rfl (by omega)
  repeat' (first | (refine K.storeR 0 H rfl rfl rfl (by conv => lhs; whnf) (by rfl) (by simp [strs_len]; omega) ?_; clear H; (try clear w); intro w H; (try simp only [List.set_cons_zero, List.set_cons_succ, List.eraseIdx_cons_zero, List.eraseIdx_cons_succ] at H)) | refine Z H ?_ | (refine Zc ?_ ?_ <;> intro hc <;> first | (exfalso; omega) | skip) | (refine Y ?_; try change C _ _ _ _ _ _) | (refine Zs H ?_; clear H; (try clear w); intro w H) | (refine Zn H ?_; clear H; (try clear w); intro _ w H) | (refine Ze H ?_; clear H; (try clear w); intro gv w H))
  rw [Nat.zero_add, Nat.mul_one, strs_set] at H
  exact ⟨_, resT rfl, _, _, rfl, H⟩
set_option maxRecDepth 100000 in
set_option maxHeartbeats 1000000 in
theorem laid_r {s : Ro} {w : World} {R : List Asn} {v : Value} {d : DM} {all : Bool} {ka : Option Addr} {kc : Nat} {sv : List Bool} (H : Holds s w R) (h : RefS s v d) (hk : SlS s (.slice ka sv.length kc) 1 sv.length (sv.map Value.bool)) (hpl : d.pend.length ≤ 1000000) :
    Calls Try.prog 70 #[v, .bool all, .slice ka sv.length kc] w fun e w' => ∃ s' v', e = .returned v' ∧ s.Le s' ∧ RefS s' v' (d.lay all sv) ∧ Holds s' w' R := by
  obtain ⟨hw, ah, ch, aw, cw, sa, sc, lf, surv, rfl, h2, h3, h4, h5, h6⟩ := h
  have h256 := hw.hi
  refine enter Try.func70 rfl Try.ntmps70 rfl ?_
  repeat' (first | refine Z H ?_ | (refine Zc ?_ ?_ <;> intro hc <;> first | (exfalso; omega) | skip) | (refine Y ?_; try change C _ _ _ _ _ _) | (refine Zs H ?_; clear H; (try clear w); intro w H) | (refine Zn H ?_; clear H; (try clear w); (first | ((fail_if_success (have := bl1)); intro bl1 w H) | ((fail_if_success (have := bl2)); intro bl2 w H) | intro _ w H)) | (refine Ze H ?_; clear H; (try clear w); intro gv w H))
  refine C.loopS [7, 8, 9, 10, 11, 12, 13, 14, 15, 16, 17, 18, 19, 20, 21, 22, 23, 24, 25, 26, 27, 28, 29, 30, 31, 32, 33, 34, 35, 36, 37, 38, 39, 40, 41, 42, 43] [7] rfl (fun m vs w => ∃ i : Nat, ∃ s' ah' ch', m = d.pend.length - i ∧ i ≤ d.pend.length ∧ vs = [.int .i64 (i : Int)] ∧ s.Le s' ∧ SlS s' (.slice ah' d.secs.length ch') 1 d.secs.length (strs (layT d all sv i)) ∧
    Holds s' w (var bl2 63 [.slice none 0 0, .slice none 0 0, .bool false, .int .i64 0, .slice none 0 0] :: var bl1 63 [.slice ah' d.secs.length ch', .slice aw d.pend.length cw, .bool d.off, .int .i64 lf, .slice sa surv.length sc] :: R)) d.pend.length ?_ ?_
  · exact ⟨0, s, ah, ch, rfl, Nat.zero_le _, rfl, Ro.Le.refl _, by simpa [layT, layAll, layS] using h2, H⟩
  · rintro m vs hv w ⟨i, s', ah', ch', rfl, hi, rfl, hs, hsec, H⟩
    by_cases hlt : i < d.pend.length
    · obtain ⟨gw, ow, cw_, hv3, _, _, hpin⟩ := elemS h3 (fun _ _ => rfl) (by decide) (by omega)
      cases hv3
      have p1 := (hpin i hlt 0 _ rfl).mono hs
      have p2 := (hpin i hlt 1 _ rfl).mono hs
      have hat := (hw.pnd _ (List.getElem_mem hlt)).1
      have hsucc := layT_succ d all sv hlt
      generalize d.pend[i] = pi at *
      repeat' (first | ((fail_if_success (with_reducible show C _ _ _ (Code.seq (Code.region 4 _ _) _) _ _)); refine Z H ?_) | (refine Zc ?_ ?_ <;> intro hc <;> first | (exfalso; omega) | skip) | (refine Y ?_; try change C _ _ _ _ _ _) | (refine Zs H ?_; clear H; (try clear w); intro w H) | (refine Zn H ?_; clear H; (try clear w); (first | ((fail_if_success (have := bl1)); intro bl1 w H) | ((fail_if_success (have := bl2)); intro bl2 w H) | intro _ w H)) | (refine Ze H ?_; clear H; (try clear w); intro gv w H))
      refine C.cut [15, 16, 17, 18, 19, 20, 21, 22, 23, 24, 25, 26, 27] [27] rfl (fun vs w => vs = [.bool (all || sv[i]?.getD false)] ∧ Holds s' w (var bl2 63 [.slice none 0 0, .slice none 0 0, .bool false, .int .i64 0, .slice none 0 0] :: var bl1 63 [.slice ah' d.secs.length ch', .slice (some ⟨gw, ow, none⟩) d.pend.length cw, .bool d.off, .int .i64 lf, .slice sa surv.length sc] :: R)) ?_ ?_
      · cases all with
        | true =>
          repeat' (first | refine Z H ?_ | (refine Zc ?_ ?_ <;> intro hc <;> first | (exfalso; omega) | skip) | (refine Y ?_; try change C _ _ _ _ _ _) | (refine Zs H ?_; clear H; (try clear w); intro w H) | (refine Zn H ?_; clear H; (try clear w); (first | ((fail_if_success (have := bl1)); intro bl1 w H) | ((fail_if_success (have := bl2)); intro bl2 w H) | intro _ w H)) | (refine Ze H ?_; clear H; (try clear w); intro gv w H))
          exact ⟨by (repeat (first | exact Agr.refl | exact Agr.hav | refine Agr.upd rfl ?_ | refine Agr.in rfl ?_)), by simp; rfl, H⟩
        | false =>
          by_cases hsv : i < sv.length
          · obtain ⟨gk, ok, _, hk', _, _, hkp⟩ := elemS1 hk (by omega)
            cases hk'
            have pk := (hkp i hsv).mono hs
            repeat' (first | (refine K.loadS H pk rfl rfl rfl (by omega) ?_) | refine Z H ?_ | (refine Zc ?_ ?_ <;> intro hc <;> first | (exfalso; omega) | skip) | (refine Y ?_; try change C _ _ _ _ _ _) | (refine Zs H ?_; clear H; (try clear w); intro w H) | (refine Zn H ?_; clear H; (try clear w); (first | ((fail_if_success (have := bl1)); intro bl1 w H) | ((fail_if_success (have := bl2)); intro bl2 w H) | intro _ w H)) | (refine Ze H ?_; clear H; (try clear w); intro gv w H))
            exact ⟨by (repeat (first | exact Agr.refl | exact Agr.hav | refine Agr.upd rfl ?_ | refine Agr.in rfl ?_)), by simp [hsv]; rfl, H⟩
          · repeat' (first | refine Z H ?_ | (refine Zc ?_ ?_ <;> intro hc <;> first | (exfalso; omega) | skip) | (refine Y ?_; try change C _ _ _ _ _ _) | (refine Zs H ?_; clear H; (try clear w); intro w H) | (refine Zn H ?_; clear H; (try clear w); (first | ((fail_if_success (have := bl1)); intro bl1 w H) | ((fail_if_success (have := bl2)); intro bl2 w H) | intro _ w H)) | (refine Ze H ?_; clear H; (try clear w); intro gv w H))
            exact ⟨by (repeat (first | exact Agr.refl | exact Agr.hav | refine Agr.upd rfl ?_ | refine Agr.in rfl ?_)), by simp [hsv]; rfl, H⟩
      · rintro vs h w ⟨rfl, H⟩
        refine C.ite rfl (fun hb => ?_) (fun hb => ?_)
        · rw [if_pos hb] at hsucc
          refine C.drawn1 [0, 1, 0, 1, 0, 0, 0, 1, 0, 1, 0, 0, 0, 1, 3, 0, 3] [0, 1, 0, 4, 0, 28, 60, 124, 0, 256, 0, 1792, 3840, 7936, 16383, 32767, 65535] (by kernel_rfl) ?_
          replace H := H.drew
          repeat' (first | (refine K.loadS H p1 rfl rfl rfl (by omega) ?_) | (refine K.loadS H p2 rfl rfl rfl (by omega) ?_) | refine Z H ?_ | (refine Zc ?_ ?_ <;> intro hc <;> first | (exfalso; omega) | skip) | (refine Y ?_; try change C _ _ _ _ _ _) | (refine Zs H ?_; clear H; (try clear w); intro w H) | (refine Zn H ?_; clear H; (try clear w); (first | ((fail_if_success (have := bl1)); intro bl1 w H) | ((fail_if_success (have := bl2)); intro bl2 w H) | intro _ w H)) | (refine Ze H ?_; clear H; (try clear w); intro gv w H))
          (refine K.call rfl rfl rfl ?_; refine (with_r H hsec (layT_len _ _ _ _) hat h256).mono ?_; (try clear H); rintro _ w ⟨aa, cc, rfl, H⟩; refine ⟨_, rfl, ?_⟩)
          obtain ⟨s2, hs2, H, hsec2⟩ := H.fixRow
          repeat' (first | refine Z H ?_ | (refine Zc ?_ ?_ <;> intro hc <;> first | (exfalso; omega) | skip) | (refine Y ?_; try change C _ _ _ _ _ _) | (refine Zs H ?_; clear H; (try clear w); intro w H) | (refine Zn H ?_; clear H; (try clear w); (first | ((fail_if_success (have := bl1)); intro bl1 w H) | ((fail_if_success (have := bl2)); intro bl2 w H) | intro _ w H)) | (refine Ze H ?_; clear H; (try clear w); intro gv w H))
          exact ⟨by (repeat (first | exact Agr.refl | exact Agr.hav | refine Agr.upd rfl ?_ | refine Agr.in rfl ?_)), d.pend.length - (i + 1), by omega, i + 1, s2, aa, cc, rfl, by omega, rfl, hs.trans hs2, by rw [hsucc]; exact hsec2, H⟩
        · rw [if_neg (by rw [hb]; simp)] at hsucc
          repeat' (first | refine Z H ?_ | (refine Zc ?_ ?_ <;> intro hc <;> first | (exfalso; omega) | skip) | (refine Y ?_; try change C _ _ _ _ _ _) | (refine Zs H ?_; clear H; (try clear w); intro w H) | (refine Zn H ?_; clear H; (try clear w); (first | ((fail_if_success (have := bl1)); intro bl1 w H) | ((fail_if_success (have := bl2)); intro bl2 w H) | intro _ w H)) | (refine Ze H ?_; clear H; (try clear w); intro gv w H))
          exact ⟨by (repeat (first | exact Agr.refl | exact Agr.hav | refine Agr.upd rfl ?_ | refine Agr.in rfl ?_)), d.pend.length - (i + 1), by omega, i + 1, s', ah', ch', rfl, by omega, rfl, hs, by rw [hsucc]; exact hsec, H⟩
    · have hi' : i = d.pend.length := by omega
      subst hi'
      repeat' (first | refine Z H ?_ | (refine Zc ?_ ?_ <;> intro hc <;> first | (exfalso; omega) | skip) | (refine Y ?_; try change C _ _ _ _ _ _) | (refine Zs H ?_; clear H; (try clear w); intro w H) | (refine Zn H ?_; clear H; (try clear w); (first | ((fail_if_success (have := bl1)); intro bl1 w H) | ((fail_if_success (have := bl2)); intro bl2 w H) | intro _ w H)) | (refine Ze H ?_; clear H; (try clear w); intro gv w H))
      rw [layT_all] at hsec
      have hsl : (d.lay all sv).secs.length = d.secs.length := by rw [← layT_all, layT_len]
      rw [← hsl] at hsec
      exact ⟨_, resC 0 H rfl rfl rfl rfl, s', _, rfl, hs, ⟨hw.lay _ _, ah', ch', none, 0, sa, sc, lf, surv, by rw [hsl]; rfl, hsec, SlS.nil _ _, h4.mono hs, h5, h6⟩, H.tail.tail⟩
end Go.Proofs.Ytmcojfpomejnnaa
set_option linter.unusedSimpArgs false
set_option linter.unusedVariables false
namespace Go.Proofs.Ytmcojfpomejnnaa
open Go Go.RowKit Go.Own
theorem bst_app (x y : List UInt8) : bst x ++ bst y = bst (x ++ y) := by
  apply ByteArray.ext
  simp [bst]
theorem Crash_r {s : Ro} {w : World} {R : List Asn} {v : Value} {d : DM} {ka : Option Addr} {kc : Nat} {sv : List Bool} (H : Holds s w R) (h : RefS s v d) (hk : SlS s (.slice ka sv.length kc) 1 sv.length (sv.map Value.bool)) (hpl : d.pend.length ≤ 1000000) :
    Calls Try.prog 29 #[v, .slice ka sv.length kc] w fun e w' => ∃ s' v', e = .returned v' ∧ s.Le s' ∧ RefS s' v' (d.crash sv) ∧ Holds s' w' R := by
  have h0 := h
  obtain ⟨hw, ah, ch, aw, cw, sa, sc, lf, surv, rfl, h2, h3, h4, h5, h6⟩ := h
  have hwc := hw.crash sv
  refine enter Try.func29 rfl Try.ntmps29 rfl ?_
  repeat' (first | refine Z H ?_ | (refine Zc ?_ ?_ <;> intro hc <;> first | (exfalso; omega) | skip) | (refine Y ?_; try change C _ _ _ _ _ _) | (refine Zs H ?_; clear H; (try clear w); intro w H) | (refine Zn H ?_; clear H; (try clear w); intro _ w H) | (refine Ze H ?_; clear H; (try clear w); intro gv w H))
  refine C.ite rfl (fun hb => ?_) (fun hb => ?_)
  · repeat' (first | refine Z H ?_ | (refine Zc ?_ ?_ <;> intro hc <;> first | (exfalso; omega) | skip) | (refine Y ?_; try change C _ _ _ _ _ _) | (refine Zs H ?_; clear H; (try clear w); intro w H) | (refine Zn H ?_; clear H; (try clear w); intro _ w H) | (refine Ze H ?_; clear H; (try clear w); intro gv w H))
    have e : d.crash sv = d := by simp [DM.crash, hb]
    rw [e]
    exact ⟨_, resC 0 H rfl rfl rfl rfl, s, _, rfl, Ro.Le.refl _, h0, H.tail.tail⟩
  · repeat' (first | refine Z H ?_ | (refine Zc ?_ ?_ <;> intro hc <;> first | (exfalso; omega) | skip) | (refine Y ?_; try change C _ _ _ _ _ _) | (refine Zs H ?_; clear H; (try clear w); intro w H) | (refine Zn H ?_; clear H; (try clear w); intro _ w H) | (refine Ze H ?_; clear H; (try clear w); intro gv w H))
    (refine K.call rfl rfl rfl ?_; refine (laid_r (all := false) H h0 hk hpl).mono ?_; (try clear H); rintro _ w ⟨s', v', rfl, hs, hr, H⟩; refine ⟨_, rfl, ?_⟩)
    obtain ⟨_, ah', ch', aw', cw', sa', sc', lf', surv', rfl, g2, g3, g4, g5, g6⟩ := hr
    repeat' (first | refine Z H ?_ | (refine Zc ?_ ?_ <;> intro hc <;> first | (exfalso; omega) | skip) | (refine Y ?_; try change C _ _ _ _ _ _) | (refine Zs H ?_; clear H; (try clear w); intro w H) | (refine Zn H ?_; clear H; (try clear w); intro _ w H) | (refine Ze H ?_; clear H; (try clear w); intro gv w H))
    have e : d.crash sv = { d.lay false sv with off := true, armed := false, left := 0, surv := [] } := by simp [DM.crash, hb, DM.lay]
    rw [e] at hwc ⊢
    exact ⟨_, resC 0 H rfl rfl rfl rfl, s', _, rfl, hs, ⟨hwc, ah', ch', aw', cw', sa', sc', -1, surv', rfl, g2, g3, g4, fun h => by simp at h, fun _ => rfl⟩, H.tail.tail⟩
theorem step_r {s : Ro} {w : World} {R : List Asn} {v : Value} {d : DM} (H : Holds s w R) (h : RefS s v d) (hpl : d.pend.length ≤ 1000000) :
    Calls Try.prog 77 #[v] w fun e w' => ∃ s' v', e = .returned (.tuple #[v', .bool d.powered.2]) ∧ s.Le s' ∧ RefS s' v' d.powered.1 ∧ Holds s' w' R := by
  have h0 := h
  obtain ⟨hw, ah, ch, aw, cw, sa, sc, lf, surv, rfl, h2, h3, h4, h5, h6⟩ := h
  have hl0 := hw.l0
  have hl1 := hw.l1
  have hwp := hw.powered
  have hlf : -1 ≤ lf ∧ lf ≤ 9223372036854775807 := by
    cases ha : d.armed
    · rw [h6 ha]; omega
    · rw [(h5 ha).1]; omega
  refine enter Try.func77 rfl Try.ntmps77 rfl ?_
  repeat' (first | refine Z H ?_ | (refine Zc ?_ ?_ <;> intro hc <;> first | (exfalso; omega) | skip) | (refine Y ?_; try change C _ _ _ _ _ _) | (refine Zs H ?_; clear H; (try clear w); intro w H) | (refine Zn H ?_; clear H; (try clear w); intro _ w H) | (refine Ze H ?_; clear H; (try clear w); intro gv w H))
  refine C.ite rfl (fun hb => ?_) (fun hb => ?_)
  · repeat' (first | refine Z H ?_ | (refine Zc ?_ ?_ <;> intro hc <;> first | (exfalso; omega) | skip) | (refine Y ?_; try change C _ _ _ _ _ _) | (refine Zs H ?_; clear H; (try clear w); intro w H) | (refine Zn H ?_; clear H; (try clear w); intro _ w H) | (refine Ze H ?_; clear H; (try clear w); intro gv w H))
    have e : d.powered = (d, false) := by simp [DM.powered, hb]
    rw [e]
    exact ⟨_, resCT 0 H rfl rfl rfl rfl, s, _, rfl, Ro.Le.refl _, h0, H.tail.tail⟩
  · repeat' (first | refine Z H ?_ | (refine Zc ?_ ?_ <;> intro hc <;> first | (exfalso; omega) | skip) | (refine Y ?_; try change C _ _ _ _ _ _) | (refine Zs H ?_; clear H; (try clear w); intro w H) | (refine Zn H ?_; clear H; (try clear w); intro _ w H) | (refine Ze H ?_; clear H; (try clear w); intro gv w H))
    · have ha : d.armed = true := by
        cases ha : d.armed
        · have := h6 ha; omega
        · rfl
      obtain ⟨rfl, rfl⟩ := h5 ha
      (refine K.call rfl rfl rfl ?_; refine (Crash_r H h0 h4 hpl).mono ?_; (try clear H); rintro _ w ⟨s', v', rfl, hs, hr, H⟩; refine ⟨_, rfl, ?_⟩)
      have hr0 := hr
      obtain ⟨_, ah', ch', aw', cw', sa', sc', lf', surv', rfl, g2, g3, g4, g5, g6⟩ := hr
      repeat' (first | refine Z H ?_ | (refine Zc ?_ ?_ <;> intro hc <;> first | (exfalso; omega) | skip) | (refine Y ?_; try change C _ _ _ _ _ _) | (refine Zs H ?_; clear H; (try clear w); intro w H) | (refine Zn H ?_; clear H; (try clear w); intro _ w H) | (refine Ze H ?_; clear H; (try clear w); intro gv w H))
      have e : d.powered = (d.crash d.surv, false) := by simp [DM.powered, hb, ha, hc]
      rw [e]
      exact ⟨_, resCT 0 H rfl rfl rfl rfl, s', _, rfl, hs, hr0, H.tail.tail⟩
    · have ha : d.armed = true := by
        cases ha : d.armed
        · have := h6 ha; omega
        · rfl
      obtain ⟨rfl, rfl⟩ := h5 ha
      have e : d.powered = ({ d with left := d.left - 1 }, true) := by simp [DM.powered, hb, ha]; omega
      rw [e] at hwp ⊢
      exact ⟨_, resCT 0 H rfl rfl rfl rfl, s, _, rfl, Ro.Le.refl _, ⟨hwp, ah, ch, aw, cw, sa, sc, d.left - 1, d.surv, rfl, h2, h3, h4, fun _ => ⟨rfl, rfl⟩, fun h => by simp [ha] at h⟩, H.tail.tail⟩
    · have ha : d.armed = false := by
        cases ha : d.armed
        · rfl
        · have := (h5 ha).1; omega
      have e : d.powered = (d, true) := by simp [DM.powered, hb, ha]
      rw [e]
      exact ⟨_, resCT 0 H rfl rfl rfl rfl, s, _, rfl, Ro.Le.refl _, h0, H.tail.tail⟩
theorem Flush_r {s : Ro} {w : World} {R : List Asn} {v : Value} {d : DM} (H : Holds s w R) (h : RefS s v d) (hpl : d.pend.length ≤ 1000000) :
    Calls Try.prog 59 #[v] w fun e w' => ∃ s' v', e = .returned (.tuple #[v', .int .i64 d.flush.2]) ∧ s.Le s' ∧ RefS s' v' d.flush.1 ∧ Holds s' w' R := by
  have h0 := h
  obtain ⟨hw, ah, ch, aw, cw, sa, sc, lf, surv, rfl, h2, h3, h4, h5, h6⟩ := h
  have hpp : d.powered.1.pend.length ≤ d.pend.length := by
    unfold DM.powered DM.crash
    (repeat' split) <;> simp
  refine enter Try.func59 rfl Try.ntmps59 rfl ?_
  repeat' (first | refine Z H ?_ | (refine Zc ?_ ?_ <;> intro hc <;> first | (exfalso; omega) | skip) | (refine Y ?_; try change C _ _ _ _ _ _) | (refine Zs H ?_; clear H; (try clear w); intro w H) | (refine Zn H ?_; clear H; (try clear w); intro _ w H) | (refine Ze H ?_; clear H; (try clear w); intro gv w H))
  (refine K.call rfl rfl rfl ?_; refine (step_r H h0 hpl).mono ?_; (try clear H); rintro _ w ⟨s', v', rfl, hs, hr, H⟩; refine ⟨_, rfl, ?_⟩)
  have hr0 := hr
  obtain ⟨_, ah', ch', aw', cw', sa', sc', lf', surv', rfl, g2, g3, g4, g5, g6⟩ := hr
  repeat' (first | refine Z H ?_ | (refine Zc ?_ ?_ <;> intro hc <;> first | (exfalso; omega) | skip) | (refine Y ?_; try change C _ _ _ _ _ _) | (refine Zs H ?_; clear H; (try clear w); intro w H) | (refine Zn H ?_; clear H; (try clear w); intro _ w H) | (refine Ze H ?_; clear H; (try clear w); intro gv w H))
  refine C.ite rfl (fun hb => ?_) (fun hb => ?_)
  · repeat' (first | refine Z H ?_ | (refine Zc ?_ ?_ <;> intro hc <;> first | (exfalso; omega) | skip) | (refine Y ?_; try change C _ _ _ _ _ _) | (refine Zs H ?_; clear H; (try clear w); intro w H) | (refine Zn H ?_; clear H; (try clear w); intro _ w H) | (refine Ze H ?_; clear H; (try clear w); intro gv w H))
    have e : d.flush = (d.powered.1, 9) := by simp at hb; simp [DM.flush, hb]
    rw [e]
    exact ⟨_, resCT 0 H rfl rfl rfl rfl, s', _, rfl, hs, hr0, H.tail.tail⟩
  · repeat' (first | refine Z H ?_ | (refine Zc ?_ ?_ <;> intro hc <;> first | (exfalso; omega) | skip) | (refine Y ?_; try change C _ _ _ _ _ _) | (refine Zs H ?_; clear H; (try clear w); intro w H) | (refine Zn H ?_; clear H; (try clear w); intro _ w H) | (refine Ze H ?_; clear H; (try clear w); intro gv w H))
    (refine K.call rfl rfl rfl ?_; refine (laid_r (all := true) (sv := []) H hr0 (SlS.nil _ _) (by omega)).mono ?_; (try clear H); rintro _ w ⟨s2, v2, rfl, hs2, hr2, H⟩; refine ⟨_, rfl, ?_⟩)
    have hr3 := hr2
    obtain ⟨_, ah2, ch2, aw2, cw2, sa2, sc2, lf2, surv2, rfl, k2, k3, k4, k5, k6⟩ := hr2
    repeat' (first | refine Z H ?_ | (refine Zc ?_ ?_ <;> intro hc <;> first | (exfalso; omega) | skip) | (refine Y ?_; try change C _ _ _ _ _ _) | (refine Zs H ?_; clear H; (try clear w); intro w H) | (refine Zn H ?_; clear H; (try clear w); intro _ w H) | (refine Ze H ?_; clear H; (try clear w); intro gv w H))
    have e : d.flush = (d.powered.1.lay true [], 0) := by simp at hb; simp [DM.flush, hb, DM.lay]
    rw [e]
    exact ⟨_, resCT 0 H rfl rfl rfl rfl, s2, _, rfl, hs.trans hs2, hr3, H.tail.tail⟩
theorem build_wr (n : Int) (b : ByteArray) (w : World) : (Instr.build 165 [(0, .int .i64 n), (1, .string b)].toArray).run Try.prog w = .ok (.agg #[.int .i64 n, .string b]) w := by kernel_rfl
theorem Write_r {s : Ro} {w : World} {R : List Asn} {v : Value} {d : DM} {n : Int} {b : List UInt8} (H : Holds s w R) (h : RefS s v d) (hpl : d.pend.length ≤ 100000) (hbl : b.length ≤ 140737488351232) :
    Calls Try.prog 57 #[v, .int .i64 n, .string (bst b)] w fun e w' => ∃ s' v', e = .returned (.tuple #[v', .int .i64 (d.write n b).2]) ∧ s.Le s' ∧ RefS s' v' (d.write n b).1 ∧ Holds s' w' R := by
  have h0 := h
  obtain ⟨hw, ah, ch, aw, cw, sa, sc, lf, surv, rfl, h2, h3, h4, h5, h6⟩ := h
  have h256 := hw.hi
  have hww := hw.write n b
  have hpp : d.powered.1.pend.length ≤ d.pend.length := by
    unfold DM.powered DM.crash
    (repeat' split) <;> simp
  have hbs : (bst b).size = b.length := bst_size b
  refine enter Try.func57 rfl Try.ntmps57 rfl ?_
  by_cases hin : 0 ≤ n ∧ n < d.secs.length
  · obtain ⟨hn0, hn1⟩ := hin
    have hib : d.inB n = true := by simp [DM.inB]; omega
    by_cases hl : b.length = 64
    · have hz : ((bst b).size : Int) = 64 := by rw [hbs, hl]; rfl
      repeat' (first | refine Z H ?_ | (refine Zc ?_ ?_ <;> intro hc <;> first | (exfalso; omega) | skip) | (refine Y ?_; try change C _ _ _ _ _ _) | (refine Zs H ?_; clear H; (try clear w); intro w H) | (refine Zn H ?_; clear H; (try clear w); intro _ w H) | (refine Ze H ?_; clear H; (try clear w); intro gv w H))
      (refine K.call rfl rfl rfl ?_; refine (step_r H h0 (by omega)).mono ?_; (try clear H); rintro _ w ⟨s', v', rfl, hs, hr, H⟩; refine ⟨_, rfl, ?_⟩)
      have hr0 := hr
      obtain ⟨hwp, ah', ch', aw', cw', sa', sc', lf', surv', rfl, g2, g3, g4, g5, g6⟩ := hr
      repeat' (first | refine Z H ?_ | (refine Zc ?_ ?_ <;> intro hc <;> first | (exfalso; omega) | skip) | (refine Y ?_; try change C _ _ _ _ _ _) | (refine Zs H ?_; clear H; (try clear w); intro w H) | (refine Zn H ?_; clear H; (try clear w); intro _ w H) | (refine Ze H ?_; clear H; (try clear w); intro gv w H))
      refine C.ite rfl (fun hb => ?_) (fun hb => ?_)
      · repeat' (first | refine Z H ?_ | (refine Zc ?_ ?_ <;> intro hc <;> first | (exfalso; omega) | skip) | (refine Y ?_; try change C _ _ _ _ _ _) | (refine Zs H ?_; clear H; (try clear w); intro w H) | (refine Zn H ?_; clear H; (try clear w); intro _ w H) | (refine Ze H ?_; clear H; (try clear w); intro gv w H))
        have e : d.write n b = (d.powered.1, 9) := by simp at hb; simp [DM.write, hib, hl, hb]
        rw [e]
        exact ⟨_, resCT 0 H rfl rfl rfl rfl, s', _, rfl, hs, hr0, H.tail.tail⟩
      · have e : d.write n b = ({ d.powered.1 with pend := d.powered.1.pend ++ [(n.toNat, b)] }, 0) := by simp at hb; simp [DM.write, hib, hl, hb]
        rw [e] at hww ⊢
        have hnn : ((n.toNat : Nat) : Int) = n := by omega
        generalize d.powered.1 = q at *
        repeat' (first | refine Z H ?_ | (refine Zc ?_ ?_ <;> intro hc <;> first | (exfalso; omega) | skip) | (refine Y ?_; try change C _ _ _ _ _ _) | (refine Zs H ?_; clear H; (try clear w); intro w H) | (refine Zn H ?_; clear H; (try clear w); intro _ w H) | (refine Ze H ?_; clear H; (try clear w); intro gv w H))
        refine K.app0 0 H rfl (.ro g3) (rwr_one _) (by unfold maxLen; omega) (by omega) rfl rfl rfl ?_; clear H; intro aa cc w H; (try simp only [List.set_cons_zero, List.set_cons_succ, List.eraseIdx_cons_zero, List.eraseIdx_cons_succ] at H)
        repeat' (first | refine Z H ?_ | (refine Zc ?_ ?_ <;> intro hc <;> first | (exfalso; omega) | skip) | (refine Y ?_; try change C _ _ _ _ _ _) | (refine Zs H ?_; clear H; (try clear w); intro w H) | (refine Zn H ?_; clear H; (try clear w); intro _ w H) | (refine Ze H ?_; clear H; (try clear w); intro gv w H))
        refine K.build [(0, .int .i64 n), (1, .string (bst b))] (.agg #[.int .i64 n, .string (bst b)]) (build_wr _ _) rfl rfl rfl ?_
        refine K.one H rfl rfl (by conv => lhs; whnf) (by rfl) (by rfl) ?_; clear H; (try clear w); intro g1 w H
        refine K.app 1 H rfl (.own 0 _ rfl) (by simp [Value.oneCell']) (by unfold maxLen; omega) (by omega) rfl rfl rfl ?_; clear H; intro a2 c2 w H; (try simp only [List.set_cons_zero, List.set_cons_succ, List.eraseIdx_cons_zero, List.eraseIdx_cons_succ] at H)
        replace H := H.tail
        have hcells : q.pend.flatMap rwr ++ [.int .i64 n, .string (bst b)] = (q.pend ++ [(n.toNat, b)]).flatMap rwr := by simp [rwr, hnn]
        rw [hcells] at H
        obtain ⟨s2, hs2, H, hp2⟩ := H.fixRow
        repeat' (first | refine Z H ?_ | (refine Zc ?_ ?_ <;> intro hc <;> first | (exfalso; omega) | skip) | (refine Y ?_; try change C _ _ _ _ _ _) | (refine Zs H ?_; clear H; (try clear w); intro w H) | (refine Zn H ?_; clear H; (try clear w); intro _ w H) | (refine Ze H ?_; clear H; (try clear w); intro gv w H))
        exact ⟨_, resCT 0 H rfl rfl rfl rfl, s2, _, rfl, hs.trans hs2, ⟨hww, ah', ch', a2, c2, sa', sc', lf', surv', by simp, g2.mono hs2, by simpa using hp2, g4.mono hs2, g5, g6⟩, H.tail.tail⟩
    · have e : d.write n b = (d, 1) := by simp [DM.write, hib, hl]
      rw [e]
      repeat' (first | refine Z H ?_ | (refine Zc ?_ ?_ <;> intro hc <;> first | (exfalso; omega) | skip) | (refine Y ?_; try change C _ _ _ _ _ _) | (refine Zs H ?_; clear H; (try clear w); intro w H) | (refine Zn H ?_; clear H; (try clear w); intro _ w H) | (refine Ze H ?_; clear H; (try clear w); intro gv w H))
      exact ⟨_, resCT 0 H rfl rfl rfl rfl, s, _, rfl, Ro.Le.refl _, h0, H.tail.tail⟩
  · have hib : d.inB n = false := by simp [DM.inB]; omega
    have e : d.write n b = (d, 4) := by simp [DM.write, hib]
    rw [e]
    repeat' (first | refine Z H ?_ | (refine Zc ?_ ?_ <;> intro hc <;> first | (exfalso; omega) | skip) | (refine Y ?_; try change C _ _ _ _ _ _) | (refine Zs H ?_; clear H; (try clear w); intro w H) | (refine Zn H ?_; clear H; (try clear w); intro _ w H) | (refine Ze H ?_; clear H; (try clear w); intro gv w H))
    all_goals exact ⟨_, resCT 0 H rfl rfl rfl rfl, s, _, rfl, Ro.Le.refl _, h0, H.tail.tail⟩
end Go.Proofs.Ytmcojfpomejnnaa
set_option linter.unusedSimpArgs false
set_option linter.unusedVariables false
namespace Go.Proofs.Ytmcojfpomejnnaa
open Go Go.RowKit Go.Own
theorem cur_curTo (d : DM) (n : Nat) : d.cur n = curTo d n d.pend.length := by unfold DM.cur curTo; rw [List.take_length]
theorem curTo_zero (d : DM) (n : Nat) : curTo d n 0 = d.sec n := by simp [curTo]
theorem Read_r {s : Ro} {w : World} {R : List Asn} {v : Value} {d : DM} {n : Int} (H : Holds s w R) (h : RefS s v d) (hpl : d.pend.length ≤ 1000000) :
    Calls Try.prog 58 #[v, .int .i64 n] w fun e w' => e = .returned (.tuple #[.string (bst (d.read n).1), .int .i64 (d.read n).2]) ∧ Holds s w' R := by
  obtain ⟨hw, ah, ch, aw, cw, sa, sc, lf, surv, rfl, h2, h3, h4, h5, h6⟩ := h
  have h256 := hw.hi
  have hlo := hw.lo
  refine enter Try.func58 rfl Try.ntmps58 rfl ?_
  by_cases hin : 0 ≤ n ∧ n < d.secs.length
  · obtain ⟨hn0, hn1⟩ := hin
    have hib : d.inB n = true := by simp [DM.inB]; omega
    obtain ⟨k, rfl⟩ := Int.eq_ofNat_of_zero_le hn0
    have hk : k < d.secs.length := by omega
    obtain ⟨gh, oh, _, hv2, _, _, hph⟩ := elemS1 h2 (by omega)
    cases hv2
    have ph := hph k hk
    repeat' (first | refine Z H ?_ | (refine Zc ?_ ?_ <;> intro hc <;> first | (exfalso; omega) | skip) | (refine Y ?_; try change C _ _ _ _ _ _) | (refine Zs H ?_; clear H; (try clear w); intro w H) | (refine Zn H ?_; clear H; (try clear w); (first | ((fail_if_success (have := bl1)); intro bl1 w H) | intro _ w H)) | (refine Ze H ?_; clear H; (try clear w); intro gv w H))
    refine C.ite rfl (fun hb => ?_) (fun hb => ?_)
    · have e : d.read (k : Int) = ([], 9) := by simp [DM.read, hib, hb]
      rw [e]
      repeat' (first | refine Z H ?_ | (refine Zc ?_ ?_ <;> intro hc <;> first | (exfalso; omega) | skip) | (refine Y ?_; try change C _ _ _ _ _ _) | (refine Zs H ?_; clear H; (try clear w); intro w H) | (refine Zn H ?_; clear H; (try clear w); (first | ((fail_if_success (have := bl1)); intro bl1 w H) | intro _ w H)) | (refine Ze H ?_; clear H; (try clear w); intro gv w H))
      exact ⟨_, resTT rfl, rfl, H.tail⟩
    · have e : d.read (k : Int) = (curTo d k d.pend.length, 0) := by simp [DM.read, hib, hb, cur_curTo]
      rw [e]
      repeat' (first | refine Z H ?_ | (refine Zc ?_ ?_ <;> intro hc <;> first | (exfalso; omega) | skip) | (refine Y ?_; try change C _ _ _ _ _ _) | (refine Zs H ?_; clear H; (try clear w); intro w H) | (refine Zn H ?_; clear H; (try clear w); (first | ((fail_if_success (have := bl1)); intro bl1 w H) | intro _ w H)) | (refine Ze H ?_; clear H; (try clear w); intro gv w H))
      refine C.loopS [4, 5, 6, 22, 23, 24, 25, 26, 27, 28, 29, 30, 31, 32, 33, 34, 35, 36, 37, 38, 39] [6] rfl (fun m vs w => ∃ i : Nat, m = i ∧ i ≤ d.pend.length ∧ vs = [.int .i64 ((i : Int) - 1)] ∧ curTo d k d.pend.length = curTo d k i ∧
        Holds s w (var bl1 63 [.slice (some ⟨gh, oh, none⟩) d.secs.length ch, .slice aw d.pend.length cw, .bool d.off, .int .i64 lf, .slice sa surv.length sc] :: R)) d.pend.length ?_ ?_
      · exact ⟨_, rfl, Nat.le_refl _, rfl, rfl, H⟩
      · rintro m vs hv w ⟨i, rfl, hi, rfl, hcur, H⟩
        by_cases h0 : 0 < m
        · obtain ⟨j, rfl⟩ : ∃ j, m = j + 1 := ⟨m - 1, by omega⟩
          obtain ⟨gw, ow, _, hv3, _, _, hpin⟩ := elemS h3 (fun _ _ => rfl) (by decide) (by omega)
          cases hv3
          have p1 := hpin j (by omega) 0 _ rfl
          have p2 := hpin j (by omega) 1 _ rfl
          have hsucc := curTo_succ d k (i := j) (by omega)
          have hj1 : ((j + 1 : Nat) : Int) - 1 = (j : Int) := by omega
          rw [hj1]
          generalize d.pend[j] = pj at *
          repeat' (first | (refine K.loadS H p1 rfl rfl rfl (by omega) ?_) | (refine K.loadS H p2 rfl rfl rfl (by omega) ?_) | refine Z H ?_ | (refine Zc ?_ ?_ <;> intro hc <;> first | (exfalso; omega) | skip) | (refine Y ?_; try change C _ _ _ _ _ _) | (refine Zs H ?_; clear H; (try clear w); intro w H) | (refine Zn H ?_; clear H; (try clear w); (first | ((fail_if_success (have := bl1)); intro bl1 w H) | intro _ w H)) | (refine Ze H ?_; clear H; (try clear w); intro gv w H))
          · have hpk : pj.1 = k := by omega
            rw [if_pos hpk] at hsucc
            exact ⟨_, resTT rfl, by rw [hcur, hsucc]; rfl, H.tail⟩
          · have hpk : ¬ pj.1 = k := by omega
            rw [if_neg hpk] at hsucc
            exact ⟨by (repeat (first | exact Agr.refl | exact Agr.hav | refine Agr.upd rfl ?_ | refine Agr.in rfl ?_)), j, by omega, j, rfl, by omega, rfl, by rw [hcur, hsucc], H⟩
        · have : m = 0 := by omega
          subst this
          repeat' (first | (refine K.loadS H ph rfl rfl rfl (by omega) ?_) | refine Z H ?_ | (refine Zc ?_ ?_ <;> intro hc <;> first | (exfalso; omega) | skip) | (refine Y ?_; try change C _ _ _ _ _ _) | (refine Zs H ?_; clear H; (try clear w); intro w H) | (refine Zn H ?_; clear H; (try clear w); (first | ((fail_if_success (have := bl1)); intro bl1 w H) | intro _ w H)) | (refine Ze H ?_; clear H; (try clear w); intro gv w H))
          refine ⟨_, resTT rfl, ?_, H.tail⟩
          rw [hcur, curTo_zero, DM.sec, List.getElem?_eq_getElem hk]
          rfl
  · have hib : d.inB n = false := by simp [DM.inB]; omega
    have e : d.read n = ([], 4) := by simp [DM.read, hib]
    rw [e]
    repeat' (first | refine Z H ?_ | (refine Zc ?_ ?_ <;> intro hc <;> first | (exfalso; omega) | skip) | (refine Y ?_; try change C _ _ _ _ _ _) | (refine Zs H ?_; clear H; (try clear w); intro w H) | (refine Zn H ?_; clear H; (try clear w); (first | ((fail_if_success (have := bl1)); intro bl1 w H) | intro _ w H)) | (refine Ze H ?_; clear H; (try clear w); intro gv w H))
    all_goals exact ⟨_, resTT rfl, rfl, H.tail⟩
theorem flat_take_succ {s : List (List UInt8)} {i : Nat} (h : i < s.length) : (s.take (i + 1)).flatten = (s.take i).flatten ++ s[i] := take_flat_succ h
theorem flat_take_len {d : DM} (hw : d.Wf) {i : Nat} (h : i ≤ d.secs.length) : (d.secs.take i).flatten.length = i * 64 := by
  rw [flat_len (fun x hx => hw.sec x (List.mem_of_mem_take hx)), List.length_take, Nat.min_eq_left h]
theorem Image_r {s : Ro} {w : World} {R : List Asn} {v : Value} {d : DM} (H : Holds s w R) (h : RefS s v d) :
    Calls Try.prog 36 #[v] w fun e w' => e = .returned (.string (bst d.image)) ∧ Holds s w' R := by
  obtain ⟨hw, ah, ch, aw, cw, sa, sc, lf, surv, rfl, h2, h3, h4, h5, h6⟩ := h
  have h256 := hw.hi
  refine enter Try.func36 rfl Try.ntmps36 rfl ?_
  repeat' (first | refine Z H ?_ | (refine Zc ?_ ?_ <;> intro hc <;> first | (exfalso; omega) | skip) | (refine Y ?_; try change C _ _ _ _ _ _) | (refine Zs H ?_; clear H; (try clear w); intro w H) | (refine Zn H ?_; clear H; (try clear w); (first | ((fail_if_success (have := bl1)); intro bl1 w H) | intro _ w H)) | (refine Ze H ?_; clear H; (try clear w); intro gv w H))
  refine C.loopS [3, 4, 5, 6, 7, 8, 9, 10, 11, 12, 13, 14, 15, 16, 17, 18] [3, 4] rfl (fun m vs w => ∃ i : Nat, m = d.secs.length - i ∧ i ≤ d.secs.length ∧ vs = [.string (bst (d.secs.take i).flatten), .int .i64 (i : Int)] ∧
        Holds s w (var bl1 63 [.slice ah d.secs.length ch, .slice aw d.pend.length cw, .bool d.off, .int .i64 lf, .slice sa surv.length sc] :: R)) d.secs.length ?_ ?_
  · exact ⟨0, rfl, Nat.zero_le _, rfl, H⟩
  · rintro m vs hv w ⟨i, rfl, hi, rfl, H⟩
    by_cases hlt : i < d.secs.length
    · obtain ⟨gh, oh, _, hv2, _, _, hph⟩ := elemS1 h2 (by omega)
      cases hv2
      have ph := hph i hlt
      have hsz : (bst (d.secs.take i).flatten).size = i * 64 := by rw [bst_size, flat_take_len hw hi]
      have hs2 : (bst d.secs[i]).size = 64 := by rw [bst_size]; exact hw.sec _ (List.getElem_mem hlt)
      repeat' (first | (refine K.loadS H ph rfl rfl rfl (by omega) ?_) | refine Z H ?_ | (refine Zc ?_ ?_ <;> intro hc <;> first | (exfalso; omega) | skip) | (refine Y ?_; try change C _ _ _ _ _ _) | (refine Zs H ?_; clear H; (try clear w); intro w H) | (refine Zn H ?_; clear H; (try clear w); (first | ((fail_if_success (have := bl1)); intro bl1 w H) | intro _ w H)) | (refine Ze H ?_; clear H; (try clear w); intro gv w H))
      refine ⟨by (repeat (first | exact Agr.refl | exact Agr.hav | refine Agr.upd rfl ?_ | refine Agr.in rfl ?_)), d.secs.length - (i + 1), by omega, i + 1, rfl, by omega, ?_, H⟩
      rw [flat_take_succ hlt, ← bst_app]
      rfl
    · have : i = d.secs.length := by omega
      subst this
      rw [List.take_length]
      repeat' (first | refine Z H ?_ | (refine Zc ?_ ?_ <;> intro hc <;> first | (exfalso; omega) | skip) | (refine Y ?_; try change C _ _ _ _ _ _) | (refine Zs H ?_; clear H; (try clear w); intro w H) | (refine Zn H ?_; clear H; (try clear w); (first | ((fail_if_success (have := bl1)); intro bl1 w H) | intro _ w H)) | (refine Ze H ?_; clear H; (try clear w); intro gv w H))
      exact ⟨_, resT rfl, rfl, H.tail⟩
def chunks (n : Nat) (img : List UInt8) : List (List UInt8) := (List.range n).map fun i => (img.drop (64 * i)).take 64
theorem chunks_len (n : Nat) (img : List UInt8) : (chunks n img).length = n := by simp [chunks]
def DM.load (d : DM) (img : List UInt8) : DM × Int := if img.length = 64 * d.secs.length then ({ d with secs := chunks d.secs.length img, pend := [] }, 0) else (d, 1)
theorem DM.Wf.load {d : DM} (h : d.Wf) (img : List UInt8) : (DM.load d img).1.Wf := by
  unfold DM.load
  split
  · rename_i hl
    refine ⟨fun x hx => ?_, fun p hp => by simp at hp, by simp [chunks_len]; exact h.lo, by simp [chunks_len]; exact h.hi, h.l0, h.l1⟩
    simp only [chunks, List.mem_map, List.mem_range] at hx
    obtain ⟨i, hi, rfl⟩ := hx
    simp; omega
  · exact h
theorem build_rd (n : Int) (w : World) : (Instr.build 63 [(3, .int .i64 n)].toArray).run Try.prog w = .ok (.agg #[.slice none 0 0, .slice none 0 0, .bool false, .int .i64 n, .slice none 0 0]) w := by kernel_rfl
theorem zs_bst (i : Nat) : zs i = bst (List.replicate i 0) := rfl
theorem New_r {s : Ro} {w : World} {R : List Asn} {n : Nat} (H : Holds s w R) (h1 : 1 ≤ n) (h2 : n ≤ 256) :
    Calls Try.prog 23 #[.int .i64 n] w fun e w' => ∃ s' v', e = .returned (.tuple #[v', .bool true]) ∧ s.Le s' ∧ RefS s' v' (DM.new n) ∧ Holds s' w' R := by
  refine enter Try.func23 rfl Try.ntmps23 rfl ?_
  repeat' (first | (refine K.build [(3, .int .i64 (-1))] (.agg #[.slice none 0 0, .slice none 0 0, .bool false, .int .i64 (-1), .slice none 0 0]) (build_rd _) rfl rfl rfl ?_) | refine Z H ?_ | (refine Zc ?_ ?_ <;> intro hc <;> first | (exfalso; omega) | skip) | (refine Y ?_; try change C _ _ _ _ _ _) | (refine Zs H ?_; clear H; (try clear w); intro w H) | (refine Zn H ?_; clear H; (try clear w); (first | ((fail_if_success (have := bl1)); intro bl1 w H) | ((fail_if_success (have := bl2)); intro bl2 w H) | intro _ w H)) | (refine Ze H ?_; clear H; (try clear w); intro gv w H))
  replace H := H.nilRow 9 1
  refine C.loopS [5, 14, 15, 16, 17, 18, 19, 20, 21, 22, 23, 24] [5] rfl (fun m vs w => ∃ i : Nat, ∃ aa cc, m = n - i ∧ i ≤ n ∧ vs = [.int .i64 (i : Int)] ∧
        Holds s w (row 9 1 (.slice aa i cc) i (strs (List.replicate i (List.replicate 64 0))) :: var bl2 63 [.slice aa i cc, .slice none 0 0, .bool false, .int .i64 (-1), .slice none 0 0] :: var bl1 63 [.slice none 0 0, .slice none 0 0, .bool false, .int .i64 0, .slice none 0 0] :: R)) n ?_ ?_
  · exact ⟨0, none, 0, rfl, Nat.zero_le _, rfl, H⟩
  · rintro m vs hv w ⟨i, aa, cc, rfl, hi, rfl, H⟩
    by_cases hlt : i < n
    · repeat' (first | refine Z H ?_ | (refine Zc ?_ ?_ <;> intro hc <;> first | (exfalso; omega) | skip) | (refine Y ?_; try change C _ _ _ _ _ _) | (refine Zs H ?_; clear H; (try clear w); intro w H) | (refine Zn H ?_; clear H; (try clear w); (first | ((fail_if_success (have := bl1)); intro bl1 w H) | ((fail_if_success (have := bl2)); intro bl2 w H) | intro _ w H)) | (refine Ze H ?_; clear H; (try clear w); intro gv w H))
      refine C.drawn2 [bl2] [0, 1, 2, 2, 3, 0, 3] [3, 1] [0, 1, 0, 4, 15, 31, 63] (by kernel_rfl) ?_
      replace H := H.drew
      simp only [segL, List.take_succ_cons, List.take_zero, List.drop_succ_cons, List.drop_zero]
      repeat' (first | refine Z H ?_ | (refine Zc ?_ ?_ <;> intro hc <;> first | (exfalso; omega) | skip) | (refine Y ?_; try change C _ _ _ _ _ _) | (refine Zs H ?_; clear H; (try clear w); intro w H) | (refine Zn H ?_; clear H; (try clear w); (first | ((fail_if_success (have := bl1)); intro bl1 w H) | ((fail_if_success (have := bl2)); intro bl2 w H) | intro _ w H)) | (refine Ze H ?_; clear H; (try clear w); intro gv w H))
      refine K.call rfl rfl rfl ?_
      refine (Noughts_at _).mono ?_
      rintro _ w' ⟨rfl, rfl⟩
      refine ⟨_, rfl, ?_⟩
      refine L.nil ?_
      refine ⟨rfl, rfl, (by intro q hq; first | exact hq | exact (List.not_mem_nil hq).elim), keep_same, ?_⟩
      refine K.one H rfl rfl (by conv => lhs; whnf) (by rfl) (by rfl) ?_
      intro g1 w1 H1
      refine L.nil ?_
      refine ⟨rfl, rfl, (by intro q hq; first | exact hq | exact (List.not_mem_nil hq).elim), keep_var H H1 (i := 1) (j := 2) rfl rfl, ?_⟩
      clear H
      refine K.app 1 H1 rfl (.own 0 _ rfl) (by simp [Value.oneCell']) (by unfold maxLen; omega) (by omega) rfl rfl rfl ?_; clear H1; intro a2 c2 w H; (try simp only [List.set_cons_zero, List.set_cons_succ, List.eraseIdx_cons_zero, List.eraseIdx_cons_succ] at H)
      replace H := H.tail
      repeat' (first | refine Z H ?_ | (refine Zc ?_ ?_ <;> intro hc <;> first | (exfalso; omega) | skip) | (refine Y ?_; try change C _ _ _ _ _ _) | (refine Zs H ?_; clear H; (try clear w); intro w H) | (refine Zn H ?_; clear H; (try clear w); (first | ((fail_if_success (have := bl1)); intro bl1 w H) | ((fail_if_success (have := bl2)); intro bl2 w H) | intro _ w H)) | (refine Ze H ?_; clear H; (try clear w); intro gv w H))
      refine ⟨rfl, rfl, (by intro q hq; first | exact hq | exact (List.not_mem_nil hq).elim), keep_same, ?_⟩
      repeat' (first | refine Z H ?_ | (refine Zc ?_ ?_ <;> intro hc <;> first | (exfalso; omega) | skip) | (refine Y ?_; try change C _ _ _ _ _ _) | (refine Zs H ?_; clear H; (try clear w); intro w H) | (refine Zn H ?_; clear H; (try clear w); (first | ((fail_if_success (have := bl1)); intro bl1 w H) | ((fail_if_success (have := bl2)); intro bl2 w H) | intro _ w H)) | (refine Ze H ?_; clear H; (try clear w); intro gv w H))
      refine ⟨by (repeat (first | exact Agr.refl | exact Agr.hav | refine Agr.upd rfl ?_ | refine Agr.in rfl ?_)), n - (i + 1), by omega, i + 1, a2, c2, rfl, by omega, rfl, ?_⟩
      rw [List.replicate_succ']
      simpa [strs, zs_bst] using H
    · have : i = n := by omega
      subst this
      obtain ⟨s2, hs2, H, hp2⟩ := H.fixRow
      repeat' (first | refine Z H ?_ | (refine Zc ?_ ?_ <;> intro hc <;> first | (exfalso; omega) | skip) | (refine Y ?_; try change C _ _ _ _ _ _) | (refine Zs H ?_; clear H; (try clear w); intro w H) | (refine Zn H ?_; clear H; (try clear w); (first | ((fail_if_success (have := bl1)); intro bl1 w H) | ((fail_if_success (have := bl2)); intro bl2 w H) | intro _ w H)) | (refine Ze H ?_; clear H; (try clear w); intro gv w H))
      exact ⟨_, resCT 1 H rfl rfl rfl rfl, s2, _, rfl, hs2, ⟨DM.Wf.new h1 h2, aa, cc, none, 0, none, 0, -1, [], by simp [DM.new], by simpa [DM.new] using hp2, SlS.nil _ _, SlS.nil _ _, fun h => by simp [DM.new] at h, fun _ => rfl⟩, H.tail.tail⟩
end Go.Proofs.Ytmcojfpomejnnaa
set_option linter.unusedSimpArgs false
set_option linter.unusedVariables false
namespace Go.Proofs.Ytmcojfpomejnnaa
open Go Go.RowKit Go.Own
section
variable {s : Ro} {w : World} {R : List Asn} {b : Nat} {d : DM}
def ats (l : List (Nat × List UInt8)) : List Value := l.map fun p => .int .i64 (p.1 : Int)
end
end Go.Proofs.Ytmcojfpomejnnaa

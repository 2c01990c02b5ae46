/- MODE 8 with a tail whose last operations may come in any order, as they only hand values on. Over any program. -/
import Derived.Test.YtmcojfpomejnnaaQpK8f
set_option linter.unusedSimpArgs false
set_option linter.unusedVariables false
namespace Go.Own
open Go Go.RowKit
def readB (o : Oper) : Option Nat := match o.op with
  | .move (.tmp t) => some t
  | .assign (.tmp t) => some t
  | .extract (.tmp t) _ => some t
  | _ => none
def valB (o : Oper) (x : Value) : Option Value := match o.op with
  | .extract _ i => match x with
    | .tuple vs => vs[i]?
    | _ => none
  | _ => some x
def pureB (o : Oper) : Bool := o.guard.isNone && (readB o).isSome && o.dst.isSome
def commB (p o : Oper) : Bool := pureB p && pureB o && p.dst != o.dst && readB o != p.dst && readB p != o.dst
section
variable {P : Program} {ops : Array Oper}
theorem pure_run {o : Oper} {a : Act} {t : Nat} (w : World) (hr : readB o = some t) : (∃ v, valB o (a.tmps.getD t undef) = some v ∧ (execOp a.eval o).run P w = .ok (.value v) w) ∨ (valB o (a.tmps.getD t undef) = none ∧ ∀ n w', (execOp a.eval o).run P w ≠ .ok n w') := by
  unfold readB at hr
  unfold valB execOp
  split at hr
  · rename_i t' ho
    cases hr
    left
    exact ⟨a.tmps.getD t undef, by simp only [ho], by simp only [ho]; rfl⟩
  · rename_i t' ho
    cases hr
    left
    exact ⟨a.tmps.getD t undef, by simp only [ho], by simp only [ho]; rfl⟩
  · rename_i t' i ho
    cases hr
    simp only [ho]
    have e : a.eval (.tmp t) = a.tmps.getD t undef := rfl
    rw [e]
    cases hv : a.tmps.getD t undef with
    | tuple vs =>
      simp only
      cases hi : vs[i]? with
      | some v => left; exact ⟨v, rfl, by simp [Instr.extract, hi]⟩
      | none => right; exact ⟨rfl, by simp [Instr.extract, hi]⟩
    | _ => right; exact ⟨rfl, by simp [Instr.extract]⟩
  · cases hr
theorem pure_inv {o : Oper} {a : Act} {w : World} {R : Act → World → Prop} {r : List Oper} {t k : Nat} (hk : ops[k]? = some o) (hg : o.guard = none) (hr : readB o = some t) (h : wpList P ops (Reg.onN R) (o :: r) a w) : ∃ v, valB o (a.tmps.getD t undef) = some v ∧ wpList P ops (Reg.onN R) r (a.put o.dst v) w := by
  have h2 := Reg.wp_to_stp (P := P) hk (K := wpList P ops (Reg.onN R) r) (R := R) h
  unfold Reg.stp at h2
  simp only [hk, Region.wanted, hg, if_true] at h2
  unfold Oper.wp at h2
  rcases pure_run (P := P) (a := a) w hr with ⟨v, h3, h4⟩ | ⟨_, h4⟩
  · rw [h4] at h2
    exact ⟨v, h3, h2⟩
  · exfalso
    generalize (execOp a.eval o).run P w = x at *
    cases x with
    | ok n w' => exact h4 n w' rfl
    | halt x w' => cases x <;> simp only [Oper.upon] at h2 <;> exact False.elim h2
theorem pure_mk {o : Oper} {a : Act} {w : World} {R : Act → World → Prop} {r : List Oper} {t : Nat} {v : Value} (hg : o.guard = none) (hr : readB o = some t) (hv : valB o (a.tmps.getD t undef) = some v) (h : wpList P ops (Reg.onN R) r (a.put o.dst v) w) : wpList P ops (Reg.onN R) (o :: r) a w := by
  unfold wpList
  rw [if_pos (by simp [Region.wanted, hg])]
  left
  unfold Oper.wp
  rcases pure_run (P := P) (a := a) w hr with ⟨v', h3, h4⟩ | ⟨h3, _⟩
  · rw [hv] at h3; cases h3
    rw [h4]; exact h
  · rw [hv] at h3; cases h3
theorem put_get {a : Act} {d t : Nat} {v : Value} (h : t ≠ d) : (a.put (some d) v).tmps.getD t undef = a.tmps.getD t undef := by
  simp only [Act.put, Array.getD_eq_getD_getElem?]
  rw [Array.getElem?_setIfInBounds_ne (fun e => h e.symm)]
theorem put_comm {a : Act} {d d' : Nat} {v v' : Value} (h : d ≠ d') : (a.put (some d) v).put (some d') v' = (a.put (some d') v').put (some d) v := by
  simp only [Act.put]
  congr 1
  exact Array.setIfInBounds_comm _ _ h
/-- an operation that only hands a value on comes ahead of others -/
theorem pure_swap {R : Act → World → Prop} {o : Oper} {i : Nat} (ho : ops[i]? = some o) (w : World) {B : List Oper} : ∀ (A : List Oper), (∀ p ∈ A, commB p o = true ∧ ∃ k : Nat, ops[k]? = some p) → ∀ (a : Act), pureB o = true → wpList P ops (Reg.onN R) (A ++ o :: B) a w → wpList P ops (Reg.onN R) (o :: (A ++ B)) a w
  | [], _, a, _, h => h
  | p :: A, hA, a, hp, h => by
    obtain ⟨hc, k, hk⟩ := hA p (by simp)
    unfold commB at hc
    simp only [Bool.and_eq_true, bne_iff_ne, ne_eq] at hc
    obtain ⟨⟨⟨⟨c1, c2⟩, c3⟩, c4⟩, c5⟩ := hc
    unfold pureB at c1 c2
    simp only [Bool.and_eq_true, Option.isNone_iff_eq_none, Option.isSome_iff_exists] at c1 c2
    obtain ⟨⟨g1, t1, r1⟩, d1, e1⟩ := c1
    obtain ⟨⟨g2, t2, r2⟩, d2, e2⟩ := c2
    rw [e1, e2] at c3
    rw [r2, e1] at c4
    rw [r1, e2] at c5
    have n3 : d1 ≠ d2 := fun e => c3 (by rw [e])
    have n4 : t2 ≠ d1 := fun e => c4 (by rw [e])
    have n5 : t1 ≠ d2 := fun e => c5 (by rw [e])
    obtain ⟨v1, hv1, h1⟩ := pure_inv hk g1 r1 h
    have h2 := pure_swap ho w A (fun q hq => hA q (by simp [hq])) _ hp h1
    obtain ⟨v2, hv2, h3⟩ := pure_inv ho g2 r2 h2
    rw [e1] at hv2 h3
    rw [put_get n4] at hv2
    refine pure_mk g2 r2 hv2 (pure_mk g1 r1 (v := v1) (by rw [e2, put_get n5]; exact hv1) ?_)
    rw [e2] at h3 ⊢
    rw [e1, put_comm (fun e => n3 e.symm)]
    exact h3
end
def okT (P : Program) (l : List Oper) (ats ats2 : List Nat) (deps uses : List (List Nat)) : Bool :=
  P.follows .mixedOrders && Reg.lowB l.toArray && Nat.ble ats.length l.length && Nat.beq ats2.length ats.length && Nat.beq deps.length ats.length && Nat.beq uses.length ats.length && decide ((dstsOf l).Nodup) && decide (uses.flatten.Nodup) && Reg.masksOk l.toArray (ancB l) &&
  ((List.range l.length).all fun k => Nat.blt k ats.length || (List.range k).all fun j => ((ancB l).getD k 0).testBit j || (Nat.ble ats.length j && match l[j]?, l[k]? with | some p, some o => commB p o | _, _ => false)) &&
  (List.range ats.length).all fun i => match l[i]? with
    | none => true
    | some o => (deps.getD i []).all (directB o) && (uses.getD i []).all (directB o) && fromB l ats.length o (ats.getD i 0) && fromB l ats.length o (ats2.getD i 0)
def remB (l : List Oper) (listed : Array Bool) : List Nat := (List.range l.length).filter fun k => !(listed.getD k false)
section
variable {P : Program} {n : Nat} {Q : Post} {e : Env} {w : World} {s : Ro} {R : List Asn}
theorem rem_split {l : List Oper} {listed : Array Bool} {i : Nat} (hi : i < l.length) (hs : i < listed.size) (hl : listed.getD i false = false) : ∃ A B, remB l listed = A ++ i :: B ∧ remB l (listed.setIfInBounds i true) = A ++ B ∧ ∀ k ∈ A, k < i ∧ listed.getD k false = false := by
  obtain ⟨A, B, h⟩ := List.append_of_mem (List.mem_range.2 hi)
  have hp := List.pairwise_lt_range (n := l.length)
  rw [h, List.pairwise_append] at hp
  obtain ⟨_, hp2, hp3⟩ := hp
  have hne : ∀ k, k ≠ i → (listed.setIfInBounds i true).getD k false = listed.getD k false := by
    intro k hk
    simp only [Array.getD_eq_getD_getElem?, Array.getElem?_setIfInBounds_ne (fun e => hk e.symm)]
  have hA : ∀ k ∈ A, k < i := fun k hk => hp3 k hk i (by simp)
  have hB : ∀ k ∈ B, i < k := fun k hk => (List.pairwise_cons.1 hp2).1 k hk
  refine ⟨A.filter (fun k => !(listed.getD k false)), B.filter (fun k => !(listed.getD k false)), ?_, ?_, fun k hk => ?_⟩
  · unfold remB
    rw [h, List.filter_append, List.filter_cons, if_pos (by rw [hl]; rfl)]
  · unfold remB
    have hii : (listed.setIfInBounds i true).getD i false = true := by simp [hs]
    rw [h, List.filter_append, List.filter_cons, if_neg (by rw [hii]; decide)]
    congr 1
    · exact List.filter_congr fun k hk => by rw [hne k (by have := hA k hk; omega)]
    · exact List.filter_congr fun k hk => by rw [hne k (by have := hB k hk; omega)]
  · obtain ⟨h1, h2⟩ := List.mem_filter.1 hk
    exact ⟨hA k h1, by simpa using h2⟩
theorem range_tail : ∀ (L m : Nat), m ≤ L → (List.range L).filter (fun k => decide (m ≤ k)) = List.range' m (L - m)
  | 0, m, h => by
    have : m = 0 := by omega
    subst this; rfl
  | L + 1, m, h => by
    rw [List.range_succ, List.filter_append]
    by_cases hm : m = L + 1
    · subst hm
      rw [List.filter_eq_nil_iff.2 (fun k hk => by have := List.mem_range.1 hk; simp; omega)]
      simp
    · rw [range_tail L m (by omega), show L + 1 - m = (L - m) + 1 by omega, List.range'_1_concat]
      simp [show m ≤ L by omega]
theorem range_drop {α : Type} (l : List α) : ∀ (j m : Nat), m + j = l.length → (List.range' m j).filterMap (fun k => l[k]?) = l.drop m
  | 0, m, h => by simp [List.drop_of_length_le (show l.length ≤ m by omega)]
  | j + 1, m, h => by
    rw [List.range'_succ, List.filterMap_cons, List.getElem?_eq_getElem (show m < l.length by omega)]
    simp only
    rw [range_drop l j (m + 1) (by omega), ← List.drop_eq_getElem_cons]
theorem rem_drop {l : List Oper} {listed : Array Bool} {m : Nat} (hm : m ≤ l.length) (h1 : ∀ k, k < m → listed.getD k false = true) (h2 : ∀ k, m ≤ k → listed.getD k false = false) : ((remB l listed).filterMap fun k => l[k]?) = l.drop m := by
  have : remB l listed = List.range' m (l.length - m) := by
    rw [← range_tail l.length m hm]
    unfold remB
    refine List.filter_congr fun k _ => ?_
    by_cases hk : m ≤ k
    · rw [h2 k hk, decide_eq_true hk]; rfl
    · rw [h1 k (by omega), decide_eq_false hk]; rfl
  rw [this]
  exact range_drop l _ m (by omega)
/-- MODE 8, with pieces that were there; the last operations of the tail may hand values on in any order -/
theorem C.flowT {id : Nat} {l : List Oper} (fs : List FS) (outs live : List Nat) (H : Holds s w (((List.range fs.length).flatMap fun i => (fsAt fs i).pre) ++ R)) (hok : okT P l (fs.map (·.at_)) (fs.map (·.at2)) (fs.map (·.deps)) (fs.map (·.uses)) = true)
    (hlive : ((List.range fs.length).filter fun i => !(((fs.map (·.uses)).flatten).contains i)) = live) (houts : outs.all (fun j => Nat.blt j fs.length) = true)
    (hsteps : StepsF P n l.toArray (dstsOf l) e s R fs fs l)
    (hend : ∀ (s' : Ro) (h : Env) (w' : World), s.Le s' → allF (outs.map fun j => (fsAt fs j).fact) s' fun vs =>
      Holds s' w' (live.flatMap (fun j => (fsAt fs j).own (upds (outs.map fun j => (fsAt fs j).at_) vs (hav (dstsOf l) h e) (fsAt fs j).at_) (upds (outs.map fun j => (fsAt fs j).at_) vs (hav (dstsOf l) h e) (fsAt fs j).at2)) ++ R) →
      L P n l.toArray (fun x e w => x = .normal ∧ Q .normal e w) (l.drop fs.length) (upds (outs.map fun j => (fsAt fs j).at_) vs (hav (dstsOf l) h e)) w') : C P n Q (.region id l.toArray true) e w := by
  obtain ⟨⟨hms, htail⟩, hm, hlow, hlen, hnd, hund, hops⟩ : (Reg.masksOk l.toArray (ancB l) = true ∧ ∀ k, k < l.length → fs.length ≤ k → ∀ j, j < k → ((ancB l).getD k 0).testBit j = true ∨ (fs.length ≤ j ∧ ∃ p o, l[j]? = some p ∧ l[k]? = some o ∧ commB p o = true)) ∧ P.follows .mixedOrders = true ∧ Reg.lowB l.toArray = true ∧ fs.length ≤ l.length ∧ (dstsOf l).Nodup ∧ ((fs.map (·.uses)).flatten).Nodup ∧ ∀ i o, i < fs.length → l[i]? = some o → (∀ j ∈ (fsAt fs i).deps, directB o j = true) ∧ (∀ j ∈ (fsAt fs i).uses, directB o j = true) ∧ (o.dst = some (fsAt fs i).at_ ∨ ∃ j p, directB o j = true ∧ l[j]? = some p ∧ p.dst = some (fsAt fs i).at_) ∧ (o.dst = some (fsAt fs i).at2 ∨ ∃ j p, directB o j = true ∧ l[j]? = some p ∧ p.dst = some (fsAt fs i).at2) := by
    simp only [okT, Bool.and_eq_true, Nat.beq_eq, Nat.ble_eq, decide_eq_true_eq, List.length_map] at hok
    obtain ⟨⟨⟨⟨⟨⟨⟨⟨⟨⟨h1, h2⟩, h3⟩, _⟩, _⟩, _⟩, h4⟩, h5⟩, h7⟩, h8⟩, h6⟩ := hok
    refine ⟨⟨h7, fun k hk hmk j hj => ?_⟩, h1, h2, h3, h4, h5, fun i o hfi ho => ?_⟩
    · have := List.all_eq_true.1 h8 k (List.mem_range.2 hk)
      rw [Bool.or_eq_true] at this
      rcases this with h | h
      · simp only [Nat.blt_eq] at h; omega
      · have h2 := List.all_eq_true.1 h j (List.mem_range.2 hj)
        rw [Bool.or_eq_true] at h2
        rcases h2 with h2 | h2
        · exact .inl h2
        · rw [Bool.and_eq_true] at h2
          obtain ⟨h3, h4⟩ := h2
          refine .inr ⟨Nat.le_of_ble_eq_true h3, ?_⟩
          split at h4
          · rename_i p o hp ho
            exact ⟨p, o, hp, ho, h4⟩
          · cases h4
    have hil : i < l.length := (List.getElem?_eq_some_iff.1 ho).1
    have := List.all_eq_true.1 h6 i (List.mem_range.2 hfi)
    have e0 : fsAt fs i = fs[i] := by unfold fsAt; simp [hfi]
    simp only [ho, Bool.and_eq_true, List.all_eq_true, List.getD_eq_getElem?_getD, List.getElem?_map, List.getElem?_eq_getElem hfi, Option.map_some, Option.getD_some] at this
    obtain ⟨⟨⟨g1, g2⟩, g3⟩, g4⟩ := this
    have hfr : ∀ {t : Nat}, fromB l fs.length o t = true → (o.dst = some t ∨ ∃ j p, directB o j = true ∧ l[j]? = some p ∧ p.dst = some t) := by
      intro t h
      unfold fromB at h
      rw [Bool.or_eq_true] at h
      rcases h with h | h
      · exact .inl (by simpa using h)
      · simp only [List.any_eq_true, Bool.and_eq_true] at h
        obtain ⟨j, _, hj, hp⟩ := h
        refine .inr ⟨j, ?_⟩
        cases hp2 : l[j]? with
        | none => rw [hp2] at hp; cases hp
        | some p =>
          rw [hp2] at hp
          exact ⟨p, hj, rfl, by simpa using hp⟩
    rw [e0]
    exact ⟨g1, g2, hfr g3, hfr g4⟩
  have hlowS := (Reg.low_spec hlow).1
  have hdir : ∀ {o : Oper} {j : Nat}, directB o j = true → ∃ e ∈ o.after, Region.binds .any e = true ∧ e.on = j := by
    intro o j h
    unfold directB at h
    obtain ⟨e, he, h2⟩ := Array.any_eq_true'.1 h
    simp only [Bool.and_eq_true, Nat.beq_eq] at h2
    exact ⟨e, he, h2.1, h2.2⟩
  have hat : ∀ {o : Oper} {i : Nat}, l[i]? = some o → l.toArray[i]? = some o := fun h => by simpa using h
  have husd : ∀ k, k ∈ (fs.map (·.uses)).flatten ↔ ∃ i, i < fs.length ∧ k ∈ (fsAt fs i).uses := by
    intro k
    simp only [List.mem_flatten, List.mem_map]
    constructor
    · rintro ⟨_, ⟨f, hf, rfl⟩, hk⟩
      obtain ⟨i, hi, rfl⟩ := List.mem_iff_getElem.1 hf
      exact ⟨i, hi, by unfold fsAt; simpa [hi] using hk⟩
    · rintro ⟨i, hfi, hk⟩
      exact ⟨_, ⟨fs[i], List.getElem_mem _, rfl⟩, by unfold fsAt at hk; simpa [hfi] using hk⟩
  have hback : ∀ {listed : Array Bool} {k : Nat} {o : Oper}, l[k]? = some o → Reg.Closed l.toArray listed → (∀ e ∈ o.after, Region.binds .any e = true → listed.getD e.on false = true) → fs.length ≤ k → ∀ j, j < k → listed.getD j false = true ∨ (fs.length ≤ j ∧ ∃ p, l[j]? = some p ∧ commB p o = true) := by
    intro listed k o ho hc hall hk j hj
    have hkl : k < l.length := (List.getElem?_eq_some_iff.1 ho).1
    rcases htail k hkl hk j hj with h | ⟨h1, p, o', h2, h3, h4⟩
    rotate_left
    · rw [ho] at h3; cases h3
      exact .inr ⟨h1, p, h2, h4⟩
    left
    obtain ⟨f, hrf⟩ := Reg.masks_reach hms hlowS k j (by simpa using hkl) h
    exact Reg.reach_listed hc f k j hrf (fun o' ho' e' he' hb' => by
      rw [hat ho] at ho'; cases ho'; exact hall e' he' hb')
  let JE : Array Bool → Act → World → Prop := fun listed a w => ∃ e1, Fr n a e1 ∧ ∃ s1, s.Le s1 ∧ Agr (dstsOf l) e e1 ∧ (∀ i, listed.getD i false = true → (fsAt fs i).fact s1 (e1 (fsAt fs i).at_)) ∧
    ∃ U : List Nat, U.Nodup ∧ (∀ k, k ∈ U ↔ (k < fs.length ∧ listed.getD k false = false)) ∧ ∃ L : List Nat, L.Nodup ∧ (∀ k, k ∈ L ↔ (listed.getD k false = true ∧ ¬ ∃ i, listed.getD i false = true ∧ k ∈ (fsAt fs i).uses)) ∧ Holds s1 w ((R ++ U.flatMap fun k => (fsAt fs k).pre) ++ L.flatMap (fun k => (fsAt fs k).own (e1 (fsAt fs k).at_) (e1 (fsAt fs k).at2)))
  let QN : Act → World → Prop := fun a w => lift n Q .normal a w
  let JT : Array Bool → Act → World → Prop := fun listed a w => (∀ k, k < fs.length → listed.getD k false = true) ∧ wpList P l.toArray (Reg.onN QN) ((remB l listed).filterMap fun k => l[k]?) a w
  have hfinal : ∀ (listed : Array Bool) (a : Act) (w : World), (∀ k, fs.length ≤ k → listed.getD k false = false) → (∀ k, k < fs.length → listed.getD k false = true) → JE listed a w → wpList P l.toArray (Reg.onN QN) (l.drop fs.length) a w := by
    rintro listed a w hnone hdn ⟨e1, fr, s1, hs1, hag, hfacts, U, _, hUm, L, hLn, hLm, H⟩
    have hU0 : U = [] := List.eq_nil_iff_forall_not_mem.2 fun k hk => by
      have := (hUm k).1 hk
      rw [hdn k this.1] at this; cases this.2
    rw [hU0, List.flatMap_nil, List.append_nil] at H
    have hend2 := allF_go (e := e1) (s := s1) (outs.map fun j => ((fsAt fs j).at_, (fsAt fs j).fact)) (k := _) (by
      rw [List.map_map]
      exact hend s1 e1 w hs1) (by
      intro x hx
      obtain ⟨j, hj, rfl⟩ := List.mem_map.1 hx
      exact hfacts j (hdn j (by have := List.all_eq_true.1 houts j hj; simpa using this)))
    rw [List.map_map] at hend2
    have henv : upds (outs.map fun j => (fsAt fs j).at_) (outs.map ((fun x => e1 x.1) ∘ fun j => ((fsAt fs j).at_, (fsAt fs j).fact))) (hav (dstsOf l) e1 e) = e1 := by
      rw [← hag.eq]
      have : (outs.map ((fun x => e1 x.1) ∘ fun j => ((fsAt fs j).at_, (fsAt fs j).fact))) = (outs.map fun j => (fsAt fs j).at_).map e1 := by rw [List.map_map]; rfl
      rw [this, upds_map e1]
    rw [henv] at hend2
    refine wpList_post ?_ ((hend2 (H.perm ?_)).go a fr)
    · rintro x a' w' ⟨e2, fr2, rfl, hq⟩
      exact ⟨e2, fr2, hq⟩
    refine List.perm_append_comm.trans (List.Perm.append_right _ ?_)
    refine List.Perm.flatMap_right _ ?_
    refine (List.perm_ext_iff_of_nodup hLn (by rw [← hlive]; exact List.nodup_range.filter _)).2 fun k => ?_
    have hlt : ∀ k, listed.getD k false = true → k < fs.length := fun k hk => by
      rcases Nat.lt_or_ge k fs.length with h' | h'
      · exact h'
      · rw [hnone k h'] at hk; cases hk
    rw [← hlive, hLm]
    simp only [List.mem_filter, List.mem_range, Bool.not_eq_true', List.contains_eq_mem, decide_eq_false_iff_not, husd]
    constructor
    · rintro ⟨h1, h2⟩
      exact ⟨hlt k h1, fun ⟨i, hi, hk⟩ => h2 ⟨i, hdn i hi, hk⟩⟩
    · rintro ⟨h1, h2⟩
      exact ⟨hdn k h1, fun ⟨i, hi, hk⟩ => h2 ⟨i, hlt i hi, hk⟩⟩
  have hdnS : ∀ {listed : Array Bool} {i : Nat}, i < listed.size → ∀ k, (listed.setIfInBounds i true).getD k false = true ↔ (k = i ∨ listed.getD k false = true) := by
    intro listed i his k
    by_cases hk : i = k
    · subst hk; simp [his]
    · simp only [Array.getD_eq_getD_getElem?, Array.getElem?_setIfInBounds_ne hk]
      exact ⟨.inr, fun h => h.resolve_left fun h => hk h.symm⟩
  have hno : ∀ {b : Bool}, ¬ b = true → b = false := fun h => by simpa using h
  refine ⟨fun a ha => Reg.region8 hm hlow (fun listed a w => listed.size = l.length ∧ ((∀ k, fs.length ≤ k → listed.getD k false = false) ∧ JE listed a w ∨ JT listed a w)) ?_ ?_ ?_⟩
  · refine ⟨by simp, .inl ⟨fun k _ => Reg.rep_f _ _, e, ha, s, Ro.Le.refl _, Agr.refl, fun i hi => ?_, List.range fs.length, List.nodup_range, fun k => by rw [Reg.rep_f]; simp, [], List.nodup_nil, fun k => ?_, by rw [List.flatMap_nil, List.append_nil]; exact H.drew.perm List.perm_append_comm⟩⟩
    · rw [Reg.rep_f] at hi; cases hi
    · constructor
      · intro h; simp at h
      · rintro ⟨hi, _⟩
        rw [Reg.rep_f] at hi; cases hi
  · rintro listed i o a w ho hsz hun hc hall ⟨_, hJ⟩
    have hol : l[i]? = some o := by simpa using ho
    have hil : i < l.length := (List.getElem?_eq_some_iff.1 hol).1
    have his : i < listed.size := by rw [hsz]; simpa using hil
    have hnl0 : listed.getD i false = false := Reg.getD_both hun
    have htl : fs.length ≤ i → (∀ k, k < fs.length → listed.getD k false = true) → wpList P l.toArray (Reg.onN QN) ((remB l listed).filterMap fun k => l[k]?) a w → wpOp P l.toArray (lift n Q) i (fun a w => (listed.setIfInBounds i true).size = l.length ∧ ((∀ k, fs.length ≤ k → (listed.setIfInBounds i true).getD k false = false) ∧ JE (listed.setIfInBounds i true) a w ∨ JT (listed.setIfInBounds i true) a w)) a w := by
      intro hfc hc1 hw
      obtain ⟨A, B, q1, q2, hA⟩ := rem_split hil his hnl0
      rw [q1, List.filterMap_append, List.filterMap_cons, hol] at hw
      dsimp only at hw
      have hw2 : wpList P l.toArray (Reg.onN QN) (o :: (A.filterMap (fun k => l[k]?) ++ B.filterMap fun k => l[k]?)) a w := by
        have hcm : ∀ p ∈ A.filterMap (fun k => l[k]?), commB p o = true ∧ ∃ k : Nat, l.toArray[k]? = some p := by
          intro p hp
          obtain ⟨k, hk, hpk⟩ := List.mem_filterMap.1 hp
          obtain ⟨hk1, hk2⟩ := hA k hk
          refine ⟨?_, k, by simpa using hpk⟩
          rcases hback hol hc hall hfc k hk1 with h | ⟨_, p', h1, h2⟩
          · rw [hk2] at h; cases h
          · rw [hpk] at h1; cases h1; exact h2
        generalize A.filterMap (fun k => l[k]?) = AA at *
        cases AA with
        | nil => exact hw
        | cons p AA =>
          have := (hcm p (by simp)).1
          unfold commB at this
          simp only [Bool.and_eq_true] at this
          exact pure_swap ho w _ hcm a this.1.1.1.2 hw
      refine Reg.wpOp_of_stp (Reg.stp_mono (fun a w hk => ⟨by simp [hsz], .inr ⟨fun k hk => (hdnS his k).2 (.inr (hc1 k hk)), ?_⟩⟩) (Reg.wp_to_stp (R := QN) ho hw2))
      rw [q2, List.filterMap_append]
      exact hk
    rcases hJ with ⟨hnone, hJE⟩ | ⟨hc1, hw⟩
    rotate_left
    · refine htl ?_ hc1 hw
      rcases Nat.lt_or_ge i fs.length with h' | h'
      · rw [hc1 i h'] at hnl0; cases hnl0
      · exact h'
    by_cases hfi : i < fs.length
    rotate_left
    · have hallb : ∀ k, k < fs.length → listed.getD k false = true := fun k hk => by
        rcases hback hol hc hall (by omega) k (by omega) with h | ⟨h, _⟩
        · exact h
        · omega
      refine htl (by omega) hallb ?_
      rw [rem_drop hlen hallb hnone]
      exact hfinal listed a w hnone hallb hJE
    obtain ⟨e1, fr, s1, hs1, hag, hfacts, U, hUn, hUm, L, hLn, hLm, H⟩ := hJE
    have hlt : ∀ k, listed.getD k false = true → k < fs.length := fun k hk => by
      rcases Nat.lt_or_ge k fs.length with h' | h'
      · exact h'
      · rw [hnone k h'] at hk; cases hk
    have e0 : fs[i]? = some (fsAt fs i) := by unfold fsAt; simp [hfi]
    obtain ⟨hd1, hd2, _⟩ := hops i o hfi hol
    have hst := stepsF_get fs l i (fsAt fs i) o hsteps e0 hol
    have hnl : listed.getD i false = false := Reg.getD_both hun
    have hdl : ∀ {j}, directB o j = true → listed.getD j false = true := by
      intro j h
      obtain ⟨ed, he, hb, rfl⟩ := hdir h
      exact hall ed he hb
    generalize hf : fsAt fs i = f at *
    have hLp : L.Perm (f.uses ++ L.filter fun k => !(f.uses.contains k)) := by
      have hun2 : f.uses.Nodup := by
        have : f ∈ fs := by rw [← hf]; unfold fsAt; simp [hfi]
        exact List.Nodup.sublist (List.sublist_flatten_of_mem (List.mem_map_of_mem this)) hund
      refine (List.perm_ext_iff_of_nodup hLn ?_).2 fun k => ?_
      · rw [List.nodup_append]
        exact ⟨hun2, hLn.filter _, fun a ha b hb => by
          simp only [List.mem_filter, Bool.not_eq_true', List.contains_eq_mem, decide_eq_false_iff_not] at hb
          rintro rfl; exact hb.2 ha⟩
      · simp only [List.mem_append, List.mem_filter, Bool.not_eq_true', List.contains_eq_mem, decide_eq_false_iff_not]
        constructor
        · intro h
          by_cases hk : k ∈ f.uses
          · exact .inl hk
          · exact .inr ⟨h, hk⟩
        · rintro (h | h)
          · refine (hLm k).2 ⟨hdl (hd2 k h), ?_⟩
            rintro ⟨j, hj, hkj⟩
            have hji : j ≠ i := by rintro rfl; rw [hnl] at hj; cases hj
            have hjf : j < fs.length := hlt j hj
            have hkj2 : k ∈ ((fs.map (·.uses))[j]?).getD [] := by rw [List.getElem?_map]; unfold fsAt at hkj; simpa [hjf] using hkj
            exact flatten_once (fs.map (·.uses)) hund (i := j) (j := i) (k := k) hji hkj2 (by rw [List.getElem?_map, e0]; simpa using h)
          · exact h.1
    have hst2 := allF_go (e := e1) (s := s1) (f.deps.map fun j => ((fsAt fs j).at_, (fsAt fs j).fact)) (k := _) (by
      rw [List.map_map]
      exact hst s1 e1 w (((U.erase i).flatMap fun k => (fsAt fs k).pre) ++ (L.filter fun k => !(f.uses.contains k)).flatMap (fun k => (fsAt fs k).own (e1 (fsAt fs k).at_) (e1 (fsAt fs k).at2))) hs1) (by
      intro x hx
      obtain ⟨j, hj, rfl⟩ := List.mem_map.1 hx
      exact hfacts j (hdl (hd1 j hj)))
    rw [List.map_map] at hst2
    have henv : upds (f.deps.map fun j => (fsAt fs j).at_) (f.deps.map ((fun x => e1 x.1) ∘ fun j => ((fsAt fs j).at_, (fsAt fs j).fact))) (hav (dstsOf l) e1 e) = e1 := by
      rw [← hag.eq]
      have : (f.deps.map ((fun x => e1 x.1) ∘ fun j => ((fsAt fs j).at_, (fsAt fs j).fact))) = (f.deps.map fun j => (fsAt fs j).at_).map e1 := by rw [List.map_map]; rfl
      rw [this, upds_map e1]
    rw [henv] at hst2
    have hUp : (U.flatMap fun k => (fsAt fs k).pre).Perm (f.pre ++ (U.erase i).flatMap fun k => (fsAt fs k).pre) := by
      have := (List.perm_cons_erase ((hUm i).2 ⟨hfi, hnl⟩)).flatMap_right (fun k => (fsAt fs k).pre)
      rw [List.flatMap_cons, hf] at this
      exact this
    have hst3 := hst2 (H.perm (by
      refine (((List.Perm.refl R).append hUp).append (hLp.flatMap_right _)).trans ?_
      rw [List.flatMap_append]
      generalize (List.flatMap (fun k => (fsAt fs k).own (e1 (fsAt fs k).at_) (e1 (fsAt fs k).at2)) f.uses) = A1
      generalize (List.flatMap (fun k => (fsAt fs k).own (e1 (fsAt fs k).at_) (e1 (fsAt fs k).at2)) (L.filter fun k => !(f.uses.contains k))) = A2
      generalize (List.flatMap (fun k => (fsAt fs k).pre) (U.erase i)) = A3
      generalize f.pre = A4
      rw [← List.append_assoc]
      refine (List.perm_append_comm.append_right A2).trans ?_
      rw [List.append_assoc]
      refine List.Perm.append_left A1 ?_
      simp only [← List.append_assoc]
      exact (List.perm_append_comm.append_right A3).append_right A2))
    refine Reg.wpOp_of_stp (Reg.wp_to_stp (R := fun a w => (listed.setIfInBounds i true).size = l.length ∧ ((∀ k, fs.length ≤ k → (listed.setIfInBounds i true).getD k false = false) ∧ JE (listed.setIfInBounds i true) a w ∨ JT (listed.setIfInBounds i true) a w)) ho ?_)
    refine wpList_post (Q := lift n (stepQ f o.dst.toList (R ++ (((U.erase i).flatMap fun k => (fsAt fs k).pre) ++ (L.filter fun k => !(f.uses.contains k)).flatMap (fun k => (fsAt fs k).own (e1 (fsAt fs k).at_) (e1 (fsAt fs k).at2)))) s1 e1)) (Q' := Reg.onN _) ?_ (hst3.go a fr)
    rintro x a' w' ⟨e2, fr2, rfl, hag2, s2, hs2, hf2, H2⟩
    have hdn := hdnS his
    have hstab0 : ∀ k, k ≠ i → listed.getD k false = true → ∀ t, (∃ o2, l[k]? = some o2 ∧ (o2.dst = some t ∨ ∃ j p, directB o2 j = true ∧ l[j]? = some p ∧ p.dst = some t)) → e2 t = e1 t := by
      rintro k hki hk t ⟨o2, ho2, hd3k⟩
      refine hag2.at_ _ ?_
      cases hd : o.dst with
      | none => rfl
      | some d =>
        have hkf := hlt k hk
        have hkl : k < l.length := by omega
        simp only [Option.toList_some, List.any_cons, List.any_nil, Bool.or_false]
        cases hq : Nat.beq t d with
        | false => rfl
        | true =>
          exfalso
          have hqe := Nat.eq_of_beq_eq_true hq
          rcases hd3k with h | ⟨j, p, hj, hp, hpd⟩
          · exact hki (dst_once l hnd (i := k) (j := i) (o := o2) ho2 hol (by rw [h, hqe]) hd)
          · have hji : j = i := dst_once l hnd hp hol (by rw [hpd, hqe]) hd
            subst hji
            obtain ⟨ed, he, hb, hon⟩ := hdir hj
            have := hc k o2 (hat ho2) hk ed he hb
            rw [hon, hnl] at this; cases this
    have hstab : ∀ k, k ≠ i → listed.getD k false = true → e2 (fsAt fs k).at_ = e1 (fsAt fs k).at_ := by
      intro k hki hk
      have hkf := hlt k hk
      have hkl : k < l.length := by omega
      have ho2 : l[k]? = some l[k] := by simp [hkl]
      exact hstab0 k hki hk _ ⟨l[k], ho2, (hops k l[k] hkf ho2).2.2.1⟩
    have hstab2 : ∀ k, k ≠ i → listed.getD k false = true → e2 (fsAt fs k).at2 = e1 (fsAt fs k).at2 := by
      intro k hki hk
      have hkf := hlt k hk
      have hkl : k < l.length := by omega
      have ho2 : l[k]? = some l[k] := by simp [hkl]
      exact hstab0 k hki hk _ ⟨l[k], ho2, (hops k l[k] hkf ho2).2.2.2⟩
    refine ⟨by simp [hsz], .inl ⟨fun k hk => hno fun h => ?_, e2, fr2, s2, hs1.trans hs2, ?_, ?_, U.erase i, hUn.erase i, fun k => ?_, i :: L.filter (fun k => !(f.uses.contains k)), ?_, ?_, ?_⟩⟩
    · rcases (hdn k).1 h with h | h
      · omega
      · rw [hnone k hk] at h; cases h
    · refine hag.trans ⟨fun t ht => hag2.at_ t ?_⟩
      cases hd : o.dst with
      | none => rfl
      | some d =>
        simp only [Option.toList_some, List.any_cons, List.any_nil, Bool.or_false]
        cases hq : Nat.beq t d with
        | false => rfl
        | true =>
          have := Nat.eq_of_beq_eq_true hq
          subst this
          have hmem : t ∈ dstsOf l := List.mem_filterMap.2 ⟨o, List.mem_of_getElem? hol, hd⟩
          have : (dstsOf l).any (Nat.beq t) = true := List.any_eq_true.2 ⟨t, hmem, by simp⟩
          rw [this] at ht; cases ht
    · intro k hk
      by_cases hki : k = i
      · subst hki; rw [hf]; exact hf2
      · have hk' := ((hdn k).1 hk).resolve_left hki
        rw [hstab k hki hk']
        exact (fsAt fs k).mono hs2 (hfacts k hk')
    · rw [hUn.mem_erase_iff, hUm]
      constructor
      · rintro ⟨h1, h2, h3⟩
        exact ⟨h2, hno fun h => ((hdn k).1 h).elim h1 (fun h => by rw [h3] at h; cases h)⟩
      · rintro ⟨h1, h2⟩
        exact ⟨fun h => (by rw [(hdn k).2 (.inl h)] at h2; cases h2), h1, hno fun h => (by rw [(hdn k).2 (.inr h)] at h2; cases h2)⟩
    · rw [List.nodup_cons]
      refine ⟨fun h => ?_, hLn.filter _⟩
      have := ((hLm i).1 (List.mem_filter.1 h).1).1
      rw [hnl] at this; cases this
    · intro k
      simp only [List.mem_cons, List.mem_filter, Bool.not_eq_true', List.contains_eq_mem, decide_eq_false_iff_not, hdn]
      constructor
      · rintro (rfl | ⟨hk, hku⟩)
        · refine ⟨.inl rfl, ?_⟩
          rintro ⟨j, hj, hkj⟩
          have hself : ∀ j, k ∈ (fsAt fs j).uses → j < fs.length → directB (l.getD j o) k = true := fun j h hjl => (hops j (l.getD j o) hjl (by simp [Nat.lt_of_lt_of_le hjl hlen])).2.1 k h
          rcases hj with rfl | hj
          · rw [hf] at hkj
            obtain ⟨ed, he, hb, hon⟩ := hdir (hd2 _ hkj)
            have := hlowS _ o ho ed he hb
            omega
          · have hjl := hlt j hj
            have hjl2 : j < l.length := by omega
            obtain ⟨ed, he, hb, hon⟩ := hdir (hself j hkj hjl)
            have := hc j (l.getD j o) (by simp [hjl2]) hj ed he hb
            rw [hon, hnl] at this; cases this
        · obtain ⟨h1, h2⟩ := (hLm k).1 hk
          refine ⟨.inr h1, ?_⟩
          rintro ⟨j, rfl | hj, hkj⟩
          · rw [hf] at hkj; exact hku hkj
          · exact h2 ⟨j, hj, hkj⟩
      · rintro ⟨rfl | hk, hno⟩
        · exact .inl rfl
        · by_cases hki : k = i
          · exact .inl hki
          · exact .inr ⟨(hLm k).2 ⟨hk, fun ⟨j, hj, hkj⟩ => hno ⟨j, .inr hj, hkj⟩⟩, fun h => hno ⟨i, .inl rfl, by rw [hf]; exact h⟩⟩
    · rw [List.flatMap_cons, hf]
      have hcg : (L.filter fun k => !(f.uses.contains k)).flatMap (fun k => (fsAt fs k).own (e2 (fsAt fs k).at_) (e2 (fsAt fs k).at2)) = (L.filter fun k => !(f.uses.contains k)).flatMap (fun k => (fsAt fs k).own (e1 (fsAt fs k).at_) (e1 (fsAt fs k).at2)) := by
        apply flatMap_congr'
        intro k hk
        have hkl := ((hLm k).1 (List.mem_filter.1 hk).1).1
        rw [hstab k (by rintro rfl; rw [hnl] at hkl; cases hkl) hkl, hstab2 k (by rintro rfl; rw [hnl] at hkl; cases hkl) hkl]
      rw [hcg]
      refine H2.perm ?_
      generalize (List.flatMap (fun k => (fsAt fs k).own (e1 (fsAt fs k).at_) (e1 (fsAt fs k).at2)) (L.filter fun k => !(f.uses.contains k))) = A2
      generalize (List.flatMap (fun k => (fsAt fs k).pre) (U.erase i)) = A3
      generalize f.own (e2 f.at_) (e2 f.at2) = A0
      have q1 : A0 ++ (R ++ (A3 ++ A2)) = (A0 ++ (R ++ A3)) ++ A2 := by simp
      have q2 : (R ++ A3) ++ (A0 ++ A2) = ((R ++ A3) ++ A0) ++ A2 := by simp
      rw [q1, q2]
      exact List.perm_append_comm.append_right _
  · rintro listed a w hdone ⟨hsz, hJ⟩
    have hdn : ∀ k, k < l.length → listed.getD k false = true := fun k hk => hdone k (by simpa using hk)
    have h0 : remB l listed = [] := by
      unfold remB
      rw [List.filter_eq_nil_iff]
      intro k hk
      rw [hdn k (List.mem_range.1 hk)]
      simp
    have hq : wpList P l.toArray (Reg.onN QN) ((remB l listed).filterMap fun k => l[k]?) a w → lift n Q .normal a w := by
      intro hw
      rw [h0] at hw
      exact hw
    rcases hJ with ⟨hnone, hJE⟩ | ⟨_, hw⟩
    · refine hq ?_
      have hallb : ∀ k, k < fs.length → listed.getD k false = true := fun k hk => hdn k (by omega)
      rw [rem_drop hlen hallb hnone]
      exact hfinal listed a w hnone hallb hJE
    · exact hq hw
theorem C.flow2 {id : Nat} {l : List Oper} (fs : List FS) (outs live : List Nat) (H : Holds s w R) (hok : okT P l (fs.map (·.at_)) (fs.map (·.at2)) (fs.map (·.deps)) (fs.map (·.uses)) = true)
    (hlive : ((List.range fs.length).filter fun i => !(((fs.map (·.uses)).flatten).contains i)) = live) (houts : outs.all (fun j => Nat.blt j fs.length) = true)
    (hsteps : StepsF P n l.toArray (dstsOf l) e s R fs fs l)
    (hend : ∀ (s' : Ro) (h : Env) (w' : World), s.Le s' → allF (outs.map fun j => (fsAt fs j).fact) s' fun vs =>
      Holds s' w' (live.flatMap (fun j => (fsAt fs j).own (upds (outs.map fun j => (fsAt fs j).at_) vs (hav (dstsOf l) h e) (fsAt fs j).at_) (upds (outs.map fun j => (fsAt fs j).at_) vs (hav (dstsOf l) h e) (fsAt fs j).at2)) ++ R) →
      L P n l.toArray (fun x e w => x = .normal ∧ Q .normal e w) (l.drop fs.length) (upds (outs.map fun j => (fsAt fs j).at_) vs (hav (dstsOf l) h e)) w') (hpre : ((List.range fs.length).flatMap fun i => (fsAt fs i).pre) = [] := by rfl) : C P n Q (.region id l.toArray true) e w :=
  C.flowT fs outs live (by rw [hpre]; exact H) hok hlive houts hsteps hend
end
end Go.Own

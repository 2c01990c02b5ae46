/- law15.slots, and what a round of slots does. -/
import Derived.Test.YtmcojfpomejnnaaIoI
set_option linter.unusedSimpArgs false
set_option linter.unusedVariables false
namespace Go.Proofs.Ytmcojfpomejnnaa
open Go Go.RowKit Go.Own

def cntS (l : List Int) (p : Int) : Nat := l.countP (fun v => decide (v = p))
theorem cntS_succ (l : List Int) (p : Int) (i : Nat) (h : i < l.length) : cntS (l.take (i + 1)) p = cntS (l.take i) p + if l[i] = p then 1 else 0 := by
  unfold cntS
  rw [List.take_succ_eq_append_getElem h, List.countP_append]
  by_cases e : l[i] = p <;> simp [e]
theorem cntS_le (l : List Int) (p : Int) (i : Nat) : cntS (l.take i) p ≤ i := Nat.le_trans List.countP_le_length (by rw [List.length_take]; omega)
/-- how often p's slot passes in i slots from place n on -/
def cyc (l : List Int) (p : Int) (n : Nat) : Nat → Nat
  | 0 => 0
  | i + 1 => cyc l p n i + if l[(n + i) % l.length]? = some p then 1 else 0
theorem cyc_add (l : List Int) (p : Int) (n i j : Nat) : cyc l p n (i + j) = cyc l p n i + cyc l p (n + i) j := by
  induction j with
  | zero => rfl
  | succ j ih =>
    show cyc l p n (i + j) + (if l[(n + (i + j)) % l.length]? = some p then 1 else 0) = cyc l p n i + (cyc l p (n + i) j + if l[(n + i + j) % l.length]? = some p then 1 else 0)
    rw [ih, Nat.add_assoc, Nat.add_assoc n i j]
theorem cyc_zero (l : List Int) (p : Int) : ∀ i, i ≤ l.length → cyc l p 0 i = cntS (l.take i) p := by
  intro i
  induction i with
  | zero => intro _; rfl
  | succ i ih =>
    intro hi
    show cyc l p 0 i + _ = _
    rw [ih (by omega), cntS_succ l p i (by omega), Nat.zero_add, Nat.mod_eq_of_lt (by omega), List.getElem?_eq_getElem (by omega)]
    simp
theorem cyc_len (l : List Int) (p : Int) (n : Nat) : cyc l p n l.length = cntS l p := by
  induction n with
  | zero => rw [cyc_zero l p _ (Nat.le_refl _), List.take_length]
  | succ n ih =>
    have h1 := cyc_add l p n 1 l.length
    have h2 := cyc_add l p n l.length 1
    rw [Nat.add_comm 1 l.length, h2] at h1
    have e1 : cyc l p n 1 = if l[n % l.length]? = some p then 1 else 0 := by simp [cyc]
    have e2 : cyc l p (n + l.length) 1 = if l[n % l.length]? = some p then 1 else 0 := by simp [cyc]
    rw [e1, e2] at h1
    omega
theorem cyc_rounds (l : List Int) (p : Int) (n r : Nat) : cyc l p n (r * l.length) = r * cntS l p := by
  induction r with
  | zero => simp [cyc]
  | succ r ih => rw [Nat.succ_mul, cyc_add, ih, cyc_len, Nat.succ_mul]
/-- what the counts of one partition are -/
structure Sane (m : SM) : Prop where
  ext : ∀ (j : Nat) p, m.parts[j]? = some p → p.q ≠ [] → p.ext ≠ none
  nxt : m.next < m.slots.length ∨ m.slots = []
def SM.wait (m : SM) (j : Nat) : Nat := ((m.parts[j]?).map fun p => p.q.length).getD 0
def SM.serv (m : SM) (j : Nat) : Nat := ((m.parts[j]?).map fun p => p.served).getD 0
theorem waiting_wait (m : SM) (j : Nat) : m.waiting (j : Int) = m.wait j := by simp [SM.waiting, SM.wait]
theorem servedN_serv (m : SM) (j : Nat) : m.servedN (j : Int) = m.serv j := by simp [SM.servedN, SM.serv]
structure Slotted (m m' : SM) : Prop where
  sane : Sane m'
  slots : m'.slots = m.slots
  len : m'.parts.length = m.parts.length
  next : m'.next = (m.next + 1) % m.slots.length
  wait : ∀ j, m'.wait j = m.wait j - if m.slots[m.next]? = some (j : Int) then 1 else 0
  serv : ∀ j, m'.serv j = m.serv j + if m.slots[m.next]? = some (j : Int) ∧ 0 < m.wait j then 1 else 0
theorem slot_counts {m : SM} (h : Sane m) (hn : m.next < m.slots.length) (d : DM) : Slotted m (m.slot d).1 := by
  have hst : Sane m.step := ⟨h.ext, .inl (Nat.mod_lt _ (by omega))⟩
  have hnone : (∀ j : Nat, m.slots[m.next]? = some (j : Int) → m.wait j = 0) → Slotted m m.step := fun hw => by
    refine ⟨hst, rfl, rfl, rfl, fun j => ?_, fun j => ?_⟩
    · show m.wait j = _
      split
      · rename_i e; rw [hw j e]
      · rfl
    · show m.serv j = _
      rw [if_neg (fun ⟨e, e2⟩ => by rw [hw j e] at e2; omega), Nat.add_zero]
  unfold SM.slot
  rw [List.getElem?_eq_getElem hn] at hnone ⊢
  simp only
  split
  · rename_i hneg
    exact hnone (fun j e => by injection e with e; omega)
  · rename_i hpos
    split
    · rename_i hp
      refine hnone (fun j e => ?_)
      injection e with e
      rw [e, Int.toNat_natCast] at hp
      simp [SM.wait, hp]
    · rename_i p hp
      split
      · rename_i r rest x hq hx
        obtain ⟨i, hi⟩ := Int.eq_ofNat_of_zero_le (a := m.slots[m.next]) (by omega)
        rw [hi, Int.toNat_natCast] at hp ⊢
        have hil : i < m.parts.length := (List.getElem?_eq_some_iff.1 hp).1
        have hpe : m.parts[i] = p := (List.getElem?_eq_some_iff.1 hp).2
        refine ⟨⟨fun j q hq2 hne => ?_, .inl (Nat.mod_lt _ (by omega))⟩, rfl, by simp [SM.step], rfl, fun j => ?_, fun j => ?_⟩
        · simp only [List.getElem?_set] at hq2
          split at hq2
          · cases hq2; simp only; rw [hx]; simp
          · exact h.ext j q hq2 hne
        · simp only [SM.wait, List.getElem?_set]
          by_cases e : i = j
          · subst e
            simp [hil, hpe, hq, List.getElem?_eq_getElem hn, hi]
          · have e' : ¬ ((i : Int) = (j : Int)) := by omega
            simp [e, e', List.getElem?_eq_getElem hn, hi]
        · simp only [SM.serv, SM.wait, List.getElem?_set]
          by_cases e : i = j
          · subst e
            simp [hil, hpe, hq, List.getElem?_eq_getElem hn, hi]
          · have e' : ¬ ((i : Int) = (j : Int)) := by omega
            simp [e, e', List.getElem?_eq_getElem hn, hi]
      · rename_i hno
        refine hnone (fun j e => ?_)
        injection e with e
        rw [e, Int.toNat_natCast] at hp
        by_cases hq : p.q = []
        · simp [SM.wait, hp, hq]
        · exfalso
          have hx := h.ext j p hp hq
          cases hqq : p.q with
          | nil => exact hq hqq
          | cons r rest =>
            cases hxx : p.ext with
            | none => exact hx hxx
            | some x => exact hno r rest x hqq hxx
section
variable {s : Ro} {w : World} {R : List Asn}
set_option maxRecDepth 100000 in
set_option maxHeartbeats 1000000 in
theorem slots_s {l : List Int} {la : Option Addr} {lc : Nat} {p : Int} (H : Holds s w R) (hl : SlS s (.slice la l.length lc) 1 l.length (l.map (Value.int .i64))) (bl : l.length ≤ 1000) : Calls Try.prog 43 #[.slice la l.length lc, .int .i64 p] w fun e w' => e = .returned (.int .i64 (cntS l p : Int)) ∧ Holds s w' R := by
  refine enter Try.func43 rfl Try.ntmps43 rfl ?_
  repeat' (first | refine Z H ?_ | (refine Zc ?_ ?_ <;> intro hc <;> first | (exfalso; omega) | skip) | (refine Y ?_; try change C _ _ _ _ _ _) | (refine Zs H ?_; clear H; (try clear w); intro w H) | (refine Zn H ?_; clear H; (try clear w); intro _ w H) | (refine Ze H ?_; clear H; (try clear w); intro gv w H))
  refine C.loopH H [5, 6, 7, 8, 9, 10, 11, 12, 13, 14, 15, 16, 17, 18, 19, 20] [5, 6] rfl (fun m vs => ∃ i : Nat, m = l.length - i ∧ i ≤ l.length ∧ vs = [.int .i64 (cntS (l.take i) p : Int), .int .i64 (i : Int)]) l.length ⟨0, rfl, Nat.zero_le _, rfl⟩ ?_
  clear H
  rintro m vs hv w ⟨i, rfl, hi, rfl⟩ H
  by_cases hlt : i < l.length
  · obtain ⟨g, o, rfl, hpin⟩ := int_pin hl (by omega)
    have pi := hpin i hlt
    have hsn := cntS_succ l p i hlt
    have hle := cntS_le l p i
    generalize l[i] = v at *
    by_cases e : v = p
    · subst e
      rw [if_pos rfl] at hsn
      repeat' (first | refine Z H ?_ | (refine Zc ?_ ?_ <;> intro hc <;> first | (exfalso; omega) | skip) | (refine Y ?_; try change C _ _ _ _ _ _) | (refine Zs H ?_; clear H; (try clear w); intro w H) | (refine Zn H ?_; clear H; (try clear w); intro _ w H) | (refine Ze H ?_; clear H; (try clear w); intro gv w H))
      exact ⟨by (repeat (first | exact Agr.refl | exact Agr.hav | refine Agr.upd rfl ?_ | refine Agr.in rfl ?_)), l.length - (i + 1), by omega, ⟨i + 1, rfl, by omega, by rw [hsn]; rfl⟩, H⟩
    · rw [if_neg e] at hsn
      repeat' (first | refine Z H ?_ | (refine Zc ?_ ?_ <;> intro hc <;> first | (exfalso; omega) | skip) | (refine Y ?_; try change C _ _ _ _ _ _) | (refine Zs H ?_; clear H; (try clear w); intro w H) | (refine Zn H ?_; clear H; (try clear w); intro _ w H) | (refine Ze H ?_; clear H; (try clear w); intro gv w H))
      exact ⟨by (repeat (first | exact Agr.refl | exact Agr.hav | refine Agr.upd rfl ?_ | refine Agr.in rfl ?_)), l.length - (i + 1), by omega, ⟨i + 1, rfl, by omega, by rw [hsn]; rfl⟩, H⟩
  · have : i = l.length := by omega
    subst this
    rw [List.take_length] 
    repeat' (first | refine Z H ?_ | (refine Zc ?_ ?_ <;> intro hc <;> first | (exfalso; omega) | skip) | (refine Y ?_; try change C _ _ _ _ _ _) | (refine Zs H ?_; clear H; (try clear w); intro w H) | (refine Zn H ?_; clear H; (try clear w); intro _ w H) | (refine Ze H ?_; clear H; (try clear w); intro gv w H))
    exact ⟨_, resT rfl, rfl, H⟩
end
end Go.Proofs.Ytmcojfpomejnnaa

/- IoschedWithin: the plain law. -/
import Derived.Test.YtmcojfpomejnnaaIoL
set_option linter.unusedSimpArgs false
set_option linter.unusedVariables false
namespace Go.Proofs.Ytmcojfpomejnnaa
open Go Go.RowKit Go.Own

theorem may0' {xs : List Ext} {rooms slots : List Int} (h : mayM 16 xs rooms slots = 0) : (rooms.length = xs.length ∧ xs.length ≤ 8 ∧ slots.length ≤ 32) ∧ ∀ x ∈ xs, x.2 ≠ 0 → 0 ≤ x.1 ∧ 0 ≤ x.2 ∧ x.1 + x.2 ≤ 16 := by
  unfold mayM at h
  split at h
  · cases h
  · rename_i h1
    split at h
    · cases h
    · split at h
      · cases h
      · split at h
        · cases h
        · rename_i h4
          refine ⟨Classical.not_not.1 h1, fun x hx h0 => ?_⟩
          have := Classical.not_not.1 h4 x hx h0
          unfold liesM at this
          have := of_decide_eq_true this
          omega
structure Asked (m m' : SM) : Prop where
  sane : Sane m'
  slots : m'.slots = m.slots
  len : m'.parts.length = m.parts.length
  next : m'.next = m.next
  wait : ∀ j, m.wait j ≤ m'.wait j
  serv : ∀ j, m'.serv j = m.serv j
theorem Asked.same {m : SM} (h : Sane m) : Asked m m := ⟨h, rfl, rfl, rfl, fun _ => Nat.le_refl _, fun _ => rfl⟩
theorem askP_all (p : PM) (k a : Int) (l : List UInt8) : p.q.length ≤ (askP p k a l).1.q.length ∧ (askP p k a l).1.served = p.served ∧ (askP p k a l).1.ext = p.ext ∧ ((askP p k a l).1.q ≠ [] → p.q ≠ [] ∨ p.ext ≠ none) := by
  unfold askP
  split
  · exact ⟨Nat.le_refl _, rfl, rfl, .inl⟩
  · rename_i x hx
    split
    · exact ⟨Nat.le_refl _, rfl, rfl, .inl⟩
    · split
      · exact ⟨Nat.le_refl _, rfl, rfl, .inl⟩
      · split
        · exact ⟨Nat.le_refl _, rfl, rfl, .inl⟩
        · exact ⟨by simp, rfl, rfl, fun _ => .inr (by rw [hx]; simp)⟩
theorem ask_counts {m : SM} (h : Sane m) (i k a : Int) (l : List UInt8) : Asked m (m.ask i k a l).1 := by
  unfold SM.ask
  split
  · split
    · exact Asked.same h
    · rename_i p hp
      have hil : i.toNat < m.parts.length := (List.getElem?_eq_some_iff.1 hp).1
      have hpe : m.parts[i.toNat] = p := (List.getElem?_eq_some_iff.1 hp).2
      obtain ⟨a1, a2, a3, a4⟩ := askP_all p k a l
      refine ⟨⟨fun j q hq hne => ?_, h.nxt⟩, rfl, by simp, rfl, fun j => ?_, fun j => ?_⟩
      · by_cases e : i.toNat = j
        · subst e
          rw [List.getElem?_set_self hil] at hq
          cases hq
          rw [a3]
          rcases a4 hne with h1 | h1
          · exact h.ext _ p hp h1
          · exact h1
        · rw [List.getElem?_set_ne e] at hq
          exact h.ext j q hq hne
      · by_cases e : i.toNat = j
        · subst e
          simpa [SM.wait, hil, hpe] using a1
        · simp [SM.wait, e]
      · by_cases e : i.toNat = j
        · subst e
          simpa [SM.serv, hil, hpe] using a2
        · simp [SM.serv, e]
  · exact Asked.same h
theorem slot_end' {m : SM} (h : Sane m) (d : DM) : Sane (m.slot d).1 ∧ (m.slot d).1.slots = m.slots ∧ (m.slot d).1.parts.length = m.parts.length := by
  rcases h.nxt with hn | hn
  · have := slot_counts h hn d
    exact ⟨this.sane, this.slots, this.len⟩
  · rw [slot_end hn d]; exact ⟨h, rfl, rfl⟩
theorem act15_sane {p : SM × DM} (h : Sane p.1) (a : Act15) : Sane (act15 p a).1 ∧ (act15 p a).1.slots = p.1.slots ∧ (act15 p a).1.parts.length = p.1.parts.length := by
  unfold act15
  split
  · have := ask_counts h a.part a.kind a.at_ a.req
    exact ⟨this.sane, this.slots, this.len⟩
  · split
    · exact slot_end' h p.2
    · exact ⟨h, rfl, rfl⟩
theorem new_sane (x : Shp) : Sane (SM.new x.xs x.rooms x.slots) := by
  refine ⟨fun j p hp hq => ?_, ?_⟩
  · exfalso
    simp only [SM.new, List.getElem?_zipWith] at hp
    split at hp
    · cases hp; exact hq rfl
    · cases hp
  · cases hs : x.slots with
    | nil => exact .inr rfl
    | cons a l => exact .inl (by simp [SM.new])
theorem play15_sane (x : Shp) (l : List Act15) : Sane (play15 x l).1 ∧ (play15 x l).1.slots = x.slots ∧ (play15 x l).1.parts.length = min x.xs.length x.rooms.length := by
  have : ∀ (i : Nat), i ≤ l.length → Sane (play15 x (l.take i)).1 ∧ (play15 x (l.take i)).1.slots = x.slots ∧ (play15 x (l.take i)).1.parts.length = min x.xs.length x.rooms.length := by
    intro i
    induction i with
    | zero => intro _; exact ⟨new_sane x, rfl, by simp [play15, SM.new]⟩
    | succ i ih =>
      intro hi
      obtain ⟨h1, h2, h3⟩ := ih (by omega)
      rw [play15_succ x l i hi]
      obtain ⟨k1, k2, k3⟩ := act15_sane h1 l[i]
      exact ⟨k1, k2.trans h2, k3.trans h3⟩
  have h := this l.length (Nat.le_refl _)
  rwa [List.take_length] at h
/-- a partition's requests, slot by slot -/
structure Wi (sl : List Int) (p n0 S0 k : Nat) (i : Nat) (m : SM) : Prop where
  sane : Sane m
  slots : m.slots = sl
  next : m.next = (n0 + i) % sl.length
  sum : S0 + k ≤ m.serv p + m.wait p
  got : S0 + min k (cyc sl (p : Int) n0 i) ≤ m.serv p
theorem Wi.start {m : SM} (h : Sane m) (hn : m.next < m.slots.length) (p : Nat) : Wi m.slots p m.next (m.serv p) (m.wait p) 0 m :=
  ⟨h, rfl, by rw [Nat.add_zero, Nat.mod_eq_of_lt hn], Nat.le_refl _, by simp [cyc]⟩
theorem Wi.ask {sl : List Int} {p n0 S0 k i : Nat} {m : SM} (h : Wi sl p n0 S0 k i m) (q kd a : Int) (l : List UInt8) : Wi sl p n0 S0 k i (m.ask q kd a l).1 := by
  have hA := ask_counts h.sane q kd a l
  refine ⟨hA.sane, hA.slots.trans h.slots, hA.next.trans h.next, ?_, ?_⟩
  · have := h.sum; have := hA.wait p; rw [hA.serv p]; omega
  · rw [hA.serv p]; exact h.got
theorem Wi.slot {sl : List Int} {p n0 S0 k i : Nat} {m : SM} (h : Wi sl p n0 S0 k i m) (hs : 0 < sl.length) (d : DM) : Wi sl p n0 S0 k (i + 1) (m.slot d).1 := by
  have hn : m.next < m.slots.length := by rw [h.next, h.slots]; exact Nat.mod_lt _ hs
  have hS := slot_counts h.sane hn d
  have e0 := h.slots
  have e1 := h.next
  have h1 := hS.wait p
  have h2 := hS.serv p
  have h3 := h.sum
  have h4 := h.got
  rw [e0, e1] at h1 h2
  refine ⟨hS.sane, hS.slots.trans e0, ?_, ?_, ?_⟩
  · rw [hS.next, e0, e1, ← Nat.add_assoc, Nat.mod_add_mod]
  · by_cases c : sl[(n0 + i) % sl.length]? = some (p : Int)
    · rw [if_pos c] at h1
      by_cases c2 : 0 < m.wait p
      · rw [if_pos ⟨c, c2⟩] at h2; omega
      · rw [if_neg (fun h => c2 h.2)] at h2; omega
    · rw [if_neg c] at h1
      rw [if_neg (fun h => c h.1)] at h2; omega
  · show S0 + min k (cyc sl (p : Int) n0 i + if sl[(n0 + i) % sl.length]? = some (p : Int) then 1 else 0) ≤ _
    by_cases c : sl[(n0 + i) % sl.length]? = some (p : Int)
    · rw [if_pos c]
      by_cases c2 : 0 < m.wait p
      · rw [if_pos ⟨c, c2⟩] at h2; omega
      · rw [if_neg (fun h => c2 h.2)] at h2; omega
    · rw [if_neg c]
      rw [if_neg (fun h => c h.1)] at h2; omega
theorem Wi.fin {sl : List Int} {p n0 S0 k r : Nat} {m : SM} (h : Wi sl p n0 S0 k (r * sl.length) m) (hr : k ≤ r * cntS sl (p : Int)) : S0 + k ≤ m.serv p := by
  have := h.got
  rw [cyc_rounds] at this
  omega
end Go.Proofs.Ytmcojfpomejnnaa

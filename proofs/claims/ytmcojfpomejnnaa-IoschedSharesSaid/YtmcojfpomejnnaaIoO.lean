/- IoschedShares: the plain law. -/
import Derived.Test.YtmcojfpomejnnaaIoM
set_option linter.unusedSimpArgs false
set_option linter.unusedVariables false
namespace Go.Proofs.Ytmcojfpomejnnaa
open Go Go.RowKit Go.Own

/-- a round in which nobody asks -/
structure Rnd (m0 : SM) (i : Nat) (m : SM) : Prop where
  sane : Sane m
  slots : m.slots = m0.slots
  len : m.parts.length = m0.parts.length
  next : m.next = (m0.next + i) % m0.slots.length
  wait : ∀ j : Nat, m.wait j = m0.wait j - cyc m0.slots (j : Int) m0.next i
  serv : ∀ j : Nat, m.serv j = m0.serv j + min (m0.wait j) (cyc m0.slots (j : Int) m0.next i)
theorem Rnd.start {m : SM} (h : Sane m) (hn : m.next < m.slots.length) : Rnd m 0 m :=
  ⟨h, rfl, rfl, by rw [Nat.add_zero, Nat.mod_eq_of_lt hn], fun j => by simp [cyc], fun j => by simp [cyc]⟩
theorem Rnd.slot {m0 m : SM} {i : Nat} (h : Rnd m0 i m) (hs : 0 < m0.slots.length) (d : DM) : Rnd m0 (i + 1) (m.slot d).1 := by
  have hn : m.next < m.slots.length := by rw [h.next, h.slots]; exact Nat.mod_lt _ hs
  have hS := slot_counts h.sane hn d
  have e0 := h.slots
  have e1 := h.next
  refine ⟨hS.sane, hS.slots.trans e0, hS.len.trans h.len, ?_, fun j => ?_, fun j => ?_⟩
  · rw [hS.next, e0, e1, ← Nat.add_assoc, Nat.mod_add_mod]
  · have h1 := hS.wait j
    rw [e0, e1, h.wait j] at h1
    rw [h1]
    show _ = m0.wait j - (cyc m0.slots (j : Int) m0.next i + if m0.slots[(m0.next + i) % m0.slots.length]? = some (j : Int) then 1 else 0)
    omega
  · have h2 := hS.serv j
    rw [e0, e1, h.wait j, h.serv j] at h2
    rw [h2]
    show _ = m0.serv j + min (m0.wait j) (cyc m0.slots (j : Int) m0.next i + if m0.slots[(m0.next + i) % m0.slots.length]? = some (j : Int) then 1 else 0)
    by_cases c : m0.slots[(m0.next + i) % m0.slots.length]? = some (j : Int)
    · rw [if_pos c]
      by_cases c2 : 0 < m0.wait j - cyc m0.slots (j : Int) m0.next i
      · rw [if_pos ⟨c, c2⟩]; omega
      · rw [if_neg (fun h => c2 h.2)]; omega
    · rw [if_neg c, if_neg (fun h => c h.1)]; omega
theorem Rnd.fin {m0 m : SM} (h : Rnd m0 m0.slots.length m) (j : Nat) : m.wait j = m0.wait j - cntS m0.slots (j : Int) ∧ m.serv j = m0.serv j + min (m0.wait j) (cntS m0.slots (j : Int)) := by
  have h1 := h.wait j
  have h2 := h.serv j
  rw [cyc_len] at h1 h2
  exact ⟨h1, h2⟩
theorem slot_part {m : SM} (d : DM) {x : Dn} (h : (m.slot d).2.2 = some x) : m.slots[m.next]? = some x.part := by
  unfold SM.slot at h
  split at h
  · cases h
  · rename_i pt hpt
    split at h
    · cases h
    · split at h
      · cases h
      · split at h
        · cases h; exact hpt
        · cases h
end Go.Proofs.Ytmcojfpomejnnaa

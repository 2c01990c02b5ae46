/- Yet more rules of the quick walk: slices written out. Over any program. -/
import Derived.Test.YteoopnhogfjeaaaEngP
set_option linter.unusedSimpArgs false
set_option linter.unusedVariables false
namespace Go.Own
open Go Go.RowKit
section
variable {P : Program} {n : Nat} {ops : Array Oper} {Q : Post} {rest : List Oper} {e : Env} {w w' : World} {s : Ro} {rs : List Asn}
/-- []T{x, y, ..}: its run known in every world -/
theorem K.lit {d : Nat} {tt : Nat} {pp : String} {af : Array Edge} {g : Option (Nat × Bool)} {ty : TypeId} {parts : Array (Nat × Operand)} {k : Nat} (ps : List (Nat × Value)) (el : TypeId) (size : Nat) (cs : List Value) (H : Holds s w rs)
    (hrun : ∀ w, (Instr.buildSlice ty k ps.toArray).run P w = .ok (.slice (some ⟨w.heap.size, 0, none⟩) k k) (w.alloc (.cells cs.toArray el))) (hw : wg n ops g e = true) (hd : Nat.blt d n = true) (hps : (parts.toList.map fun x => (x.1, ev e x.2)) = ps) (hl : cs.length = k * size) (hk : k ≤ maxLen)
    (h : ∀ gb w', Holds s w' (row el size (.slice (some ⟨gb, 0, none⟩) k k) k cs :: rs) → L P n ops Q rest (upd e d (.slice (some ⟨gb, 0, none⟩) k k)) w') : L P n ops Q (⟨some d, .buildSlice ty k parts, tt, pp, af, g⟩ :: rest) e w := by
  refine L.val (o := ⟨some d, .buildSlice ty k parts, tt, pp, af, g⟩) _ _ hw hd (run_v (sm := Instr.buildSlice ty k ps.toArray) ?_ (hrun w)) (h _ _ (H.add (F1 := [w.heap.size]) ⟨rfl, ?_⟩ (only_alloc _ _ _) (by simp)))
  · have : (parts.map fun (i, x) => (i, ev e x)) = ps.toArray := by
      apply Array.toList_inj.1
      rw [Array.toList_map]
      exact hps
    unfold execOp
    simp only [this]
  · exact ⟨hl, .inr ⟨_, k, cs.toArray, rfl, Nat.zero_le _, heap_alloc_new _ _, Nat.le_refl _, hk, by simp [hl], by simp [← hl]⟩⟩
end
end Go.Own

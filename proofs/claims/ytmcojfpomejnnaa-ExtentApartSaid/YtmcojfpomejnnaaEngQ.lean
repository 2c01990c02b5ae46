/- Yet more rules of the quick walk: slices written out. Over any program. -/
import Derived.Test.YtmcojfpomejnnaaEngP
set_option linter.unusedSimpArgs false
set_option linter.unusedVariables false
namespace Go.Own
open Go Go.RowKit
section
variable {P : Program} {n : Nat} {ops : Array Oper} {Q : Post} {rest : List Oper} {e : Env} {w w' : World} {s : Ro} {rs : List Asn}
/-- []T{x, y, ..}: its run known in every world -/
theorem K.lit {d : Nat} {tt : Nat} {pp : String} {af : Array Edge} {g : Option (Nat × Bool)} {ty : TypeId} {parts : Array (Nat × Operand)} {k : Nat} (ps : List (Nat × Value)) (el : TypeId) (size : Nat) (cs : List Value) (H : Holds s w rs)
    (hrun : ∀ w, (Instr.buildSlice ty k ps.toArray).run P w = .ok (.slice (some ⟨w.heap.size, 0, none⟩) k k) (w.alloc (.cells cs.toArray el))) (hw : wg n ops g e = true) (hd : Nat.blt d n = true) (hps : (parts.toList.map fun x => (x.1, ev e x.2)) = ps) (hl : cs.length = k * size) (hk : k ≤ maxLen)
    (h : ∀ gb w', Holds s w' (row el size (.slice (some ⟨gb, 0, none⟩) k k) k cs :: rs) → L P n ops Q rest (upd e d (.slice (some ⟨gb, 0, none⟩) k k)) w') : L P n ops Q (⟨some d, .buildSlice ty k parts, tt, pp, af, g⟩ :: rest) e w := by
  refine L.val (o := ⟨some d, .buildSlice ty k parts, tt, pp, af, g⟩) _ _ hw hd (run_v (sm := Instr.buildSlice ty k ps.toArray) ?_ (hrun w)) (h _ _ (H.add (F1 := [w.heap.size]) ⟨rfl, ?_⟩ (only_alloc _ _ _) (by simp)))
  · have : (parts.map fun (i, x) => (i, ev e x)) = ps.toArray := by
      apply Array.toList_inj.1
      rw [Array.toList_map]
      exact hps
    unfold execOp
    simp only [this]
  · exact ⟨hl, .inr ⟨_, k, cs.toArray, rfl, Nat.zero_le _, heap_alloc_new _ _, Nat.le_refl _, hk, by simp [hl], by simp [← hl]⟩⟩
theorem Addr.add0 (a : Addr) : a.add 0 = a := by cases a; simp [Addr.add]
/-- x[:h] of a slice -/
theorem K.upto {d : Nat} {tt : Nat} {pp : String} {af : Array Edge} {g : Option (Nat × Bool)} {t el : TypeId} {x hi : Operand} {a : Option Addr} {m c sz by_ l : Nat} {zz : List Value} {k : IntKind} {ih : Int} [E : ElC P t el sz by_ zz] (hw : wg n ops g e = true) (hd : Nat.blt d n = true) (hx : ev e x = .slice a m c) (hhi : ev e hi = .int k ih) (hl : ih = (l : Int)) (h1 : l ≤ c)
    (h : L P n ops Q rest (upd e d (.slice a l c)) w) : L P n ops Q (⟨some d, .slice t x none (some hi) none, tt, pp, af, g⟩ :: rest) e w := by
  obtain ⟨u, E', _⟩ := E.el
  obtain ⟨i, i1, i2, i3, i4⟩ := E'.info
  refine L.val (o := ⟨some d, .slice t x none (some hi) none, tt, pp, af, g⟩) _ w hw hd (run_v (sm := Instr.sliceAt t (ev e x) none (some (ev e hi)) none) rfl ?_) h
  rw [hx, hhi]
  cases a with
  | none => simp [Instr.sliceAt, run_underlying E'.slice, Instr.slice, Instr.sliceBounds, run_sliceBound hl h1, sizeOf, typeInfo, i1, i3]
  | some a => simp [Instr.sliceAt, run_underlying E'.slice, Instr.slice, Instr.sliceBounds, run_sliceBound hl h1, sizeOf, typeInfo, i1, i3, Addr.add0]
theorem SlS.upto {a : Option Addr} {c sz n l : Nat} {xs : List Value} (h : SlS s (.slice a n c) sz n xs) (hl : l ≤ n) : SlS s (.slice a l c) sz l (xs.take (l * sz)) := by
  obtain ⟨a', c', hv, h1, h2, h3, h4⟩ := h
  cases hv
  refine ⟨a, c, rfl, ?_, by omega, h3, ?_⟩
  · rw [List.length_take, h1]; exact Nat.min_eq_left (Nat.mul_le_mul_right _ hl)
  · rcases h4 with rfl | ⟨g, o, rfl, h5⟩
    · left; simp
    · right
      refine ⟨g, o, rfl, fun j x hj => h5 j x ?_⟩
      rw [List.getElem?_take] at hj
      split at hj
      · exact hj
      · cases hj
end
end Go.Own

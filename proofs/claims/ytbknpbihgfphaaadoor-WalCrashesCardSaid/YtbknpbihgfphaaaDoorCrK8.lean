/- More rules of the walk: structs within variables. Over any program. -/
import Derived.Test.YtbknpbihgfphaaaDoorCrK3
set_option linter.unusedSimpArgs false
set_option linter.unusedVariables false
namespace Go.Own
open Go Go.RowKit
section
variable {P : Program} {n : Nat} {ops : Array Oper} {Q : Post} {rest : List Oper} {e : Env} {w w' : World} {s : Ro} {rs : List Asn} {tt : Nat} {pp : String} {af : Array Edge} {g : Option (Nat × Bool)} {d : Nat}
/-- a struct within a variable is read -/
theorem X.ldp {ty : TypeId} {x : Operand} {k : Nat} [RowC P ty k] {b off : Nat} {t : TypeId} {cs : List Value} {f : List Value → List Asn} (ys : List Value) (H : Holds s w rs) (h : L P n ops Q rest (upd e d (.agg ys.toArray)) w) (hw : wg n ops g e = true := by rfl) (hd : Nat.blt d n = true := by rfl) (hx : ev e x = .pointer (some ⟨b, off, none⟩) := by rfl) (T : PutV rs b t cs f := by infer_instance) (hys : (cs.drop off).take k = ys := by rfl) (hn : ys.length = k := by rfl) : L P n ops Q (⟨some d, .load ty x, tt, pp, af, g⟩ :: rest) e w := by
  obtain ⟨i, hi, _⟩ := T.ix
  exact K.loadPart i ys H hw hd hx hi hys hn h
/-- a struct within a variable is written -/
theorem X.stp {ty : TypeId} {x y : Operand} {k : Nat} [T : RowC P ty k] {b off : Nat} {t : TypeId} {cs ys : List Value} {f : List Value → List Asn} (cs' : List Value) (H : Holds s w rs) (h : ∀ w', Holds s w' (f cs') → L P n ops Q rest e w') (hw : wg n ops g e = true := by rfl) (hx : ev e x = .pointer (some ⟨b, off, none⟩) := by rfl) (V : PutV rs b t cs f := by infer_instance) (hy : ev e y = .agg ys.toArray := by rfl) (hcs : cs.take off ++ ys ++ cs.drop (off + k) = cs' := by rfl) (h1 : ys.all Value.oneCell' = true := by rfl) (hn : ys.length = k := by rfl) (hl : Nat.ble (off + k) cs.length = true := by rfl) : L P n ops Q (⟨none, .store ty x y, tt, pp, af, g⟩ :: rest) e w := by
  obtain ⟨i, hi, hf⟩ := V.ix
  subst hcs
  refine ⟨fun a ha => sl_storepart i H (by rw [ha.wn]; exact hw) rfl (by rw [ha.eval]; exact hx) hi (by rw [ha.eval]; exact hy) (fun v hv => List.all_eq_true.1 h1 v hv) hn (Nat.le_of_ble_eq_true hl) (fun w' H' => ?_)⟩
  rw [hf] at H'
  exact (h w' H').go _ (ha.put (d := none) rfl _)
end
end Go.Own

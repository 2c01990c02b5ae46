/- The types of the program, as instances; by types.py. Rules of the walk for trees: arrays by value, min and max, structs compared, part of an array. More rules of the walk: arithmetic without a sign, a string's bytes. Over any program. Rules of the walk for strings given as lists of bytes, and for cells that a hypothesis tells. package tree, walked: names, the way to the root, children, blocks counted. -/
import Derived.Test.YtlchnabnhimlcaaRows
import Derived.Test.YtlchnabnhimlcaaTnK4
import Derived.Laws.StructEq
import Derived.ChangeKeysEq
import Derived.Scope
set_option linter.unusedSimpArgs false
namespace Go.Proofs.Ytlchnabnhimlcaa
open Go Go.RowKit Go.Own
-- 29 api.Node
instance : RowC Try.prog 29 6 := ⟨⟨_, Try.underlying29, rfl⟩, by kernel_rfl⟩
instance : ZeroC Try.prog 29 ([.int .i64 0, .int .i64 0, .string ⟨#[]⟩, .int .i64 0, .int .i64 0, .int .i64 0]) := ⟨⟨.agg ([.int .i64 0, .int .i64 0, .string ⟨#[]⟩, .int .i64 0, .int .i64 0, .int .i64 0]).toArray, by kernel_rfl, by kernel_rfl⟩⟩
instance : FldC Try.prog 29 0 0 := ⟨⟨_, _, Try.underlying29, rfl, rfl, 0, by kernel_rfl⟩⟩
instance : FldC Try.prog 29 1 1 := ⟨⟨_, _, Try.underlying29, rfl, rfl, 0, by kernel_rfl⟩⟩
instance : FldC Try.prog 29 2 2 := ⟨⟨_, _, Try.underlying29, rfl, rfl, 0, by kernel_rfl⟩⟩
instance : FldC Try.prog 29 3 3 := ⟨⟨_, _, Try.underlying29, rfl, rfl, 0, by kernel_rfl⟩⟩
instance : FldC Try.prog 29 4 4 := ⟨⟨_, _, Try.underlying29, rfl, rfl, 1, by kernel_rfl⟩⟩
-- 34 api.Tree
instance : RowC Try.prog 34 368 := ⟨⟨_, Try.underlying34, rfl⟩, by kernel_rfl⟩
instance : FldC Try.prog 34 0 0 := ⟨⟨_, _, Try.underlying34, rfl, rfl, 47, by kernel_rfl⟩⟩
instance : FldC Try.prog 34 1 48 := ⟨⟨_, _, Try.underlying34, rfl, rfl, 319, by kernel_rfl⟩⟩
-- 86 map[tree.place]int
-- 89 tree.place
instance : RowC Try.prog 89 2 := ⟨⟨_, Try.underlying89, rfl⟩, by kernel_rfl⟩
instance : ZeroC Try.prog 89 ([.int .i64 0, .string ⟨#[]⟩]) := ⟨⟨.agg ([.int .i64 0, .string ⟨#[]⟩]).toArray, by kernel_rfl, by kernel_rfl⟩⟩
-- 125 octet.Reader
end Go.Proofs.Ytlchnabnhimlcaa
set_option linter.unusedSimpArgs false
set_option linter.unusedVariables false
namespace Go.Proofs.Ytlchnabnhimlcaa
open Go Go.RowKit Go.Own
section
variable {P : Program}
def EqA (P : Program) (d : Nat) (t : TypeId) (xs ys : List Value) (b : Prop) : Prop := ∀ w, ∃ r : Bool, (Op.equalIn d t (.agg xs.toArray) (.agg ys.toArray)).run P w = .ok r w ∧ (r = true ↔ b)
def EqP (P : Program) (d : Nat) (t : TypeId) (xs ys : List Value) (off : Nat) (b : Prop) : Prop := ∀ w, ∃ (x y : Value) (r : Bool), (part t xs.toArray off).run P w = .ok x w ∧ (part t ys.toArray off).run P w = .ok y w ∧ (Op.equalIn d t x y).run P w = .ok r w ∧ (r = true ↔ b)
theorem EqP.int {d : Nat} {t : TypeId} {k : IntKind} {xs ys : List Value} {off : Nat} {a b : Int} (hu : P.underlying t = some (.int k)) (hx : xs[off]? = some (.int k a)) (hy : ys[off]? = some (.int k b)) : EqP P (d + 1) t xs ys off (a = b) := fun w =>
  ⟨_, _, a == b, run_part_plain w (by simp [Program.plainKey, hu]) (by simpa using hx), run_part_plain w (by simp [Program.plainKey, hu]) (by simpa using hy), run_equalIn_int w d t k k a b hu, by simp⟩
theorem bst_inj' {l m : List UInt8} : ((⟨l.toArray⟩ : ByteArray) = ⟨m.toArray⟩) ↔ l = m := by
  constructor
  · intro h
    have := congrArg (fun b : ByteArray => b.data.toList) h
    simpa using this
  · rintro rfl; rfl
theorem EqP.str {d : Nat} {t : TypeId} {xs ys : List Value} {off : Nat} {a b : List UInt8} (hu : P.underlying t = some .string) (hx : xs[off]? = some (.string ⟨a.toArray⟩)) (hy : ys[off]? = some (.string ⟨b.toArray⟩)) : EqP P (d + 1) t xs ys off (a = b) := fun w => by
  refine ⟨_, _, _, run_part_plain w (by simp [Program.plainKey, hu]) (by simpa using hx), run_part_plain w (by simp [Program.plainKey, hu]) (by simpa using hy), run_equalIn_string w d t _ _ hu, ?_⟩
  rw [← beq_toListBytes]
  rw [← bst_inj']
  constructor
  · intro h
    have h2 : (⟨a.toArray⟩ : ByteArray).data.toList = (⟨b.toArray⟩ : ByteArray).data.toList := by
      have h3 : (⟨a.toArray⟩ : ByteArray) == ⟨b.toArray⟩ := h
      have h4 : ((⟨a.toArray⟩ : ByteArray).toList == (⟨b.toArray⟩ : ByteArray).toList) = true := by rw [← beq_toListBytes]; exact h3
      simpa [ByteArray.toList_eq] using h4
    have h5 : a = b := by simpa using h2
    rw [h5]
  · intro h
    have h5 : a = b := bst_inj'.1 h
    subst h5
    rw [beq_toListBytes]
    simp
theorem run_part_agg {t : TypeId} {n : Nat} {xs : List Value} {off : Nat} (w : World) [T : RowC P t n] : (part t xs.toArray off).run P w = .ok (.agg ((xs.drop off).take n).toArray) w := by
  obtain ⟨dd, hu, hd⟩ := T.desc
  have hs := T.size
  cases hi : P.info? t with
  | none => simp [hi] at hs
  | some i =>
    have hs' : i.size = n := by simpa [hi] using hs
    have e : xs.toArray.extract off (off + n) = ((xs.drop off).take n).toArray := by
      rw [List.extract_toArray, List.extract_eq_take_drop, Nat.add_sub_cancel_left]
    have ha : (isAgg t).run P w = .ok true w := by
      cases dd <;> simp [TypeDesc.isRow] at hd <;> simp [isAgg, run_underlying hu]
    unfold part
    simp [Sem.run_bind, ha, sizeOf, typeInfo, hi, hs', e]
theorem EqA.at_ {d : Nat} {t : TypeId} {n : Nat} {xs ys : List Value} {off : Nat} {b : Prop} [T : RowC P t n] (h : EqA P d t ((xs.drop off).take n) ((ys.drop off).take n) b) : EqP P d t xs ys off b := fun w => by
  obtain ⟨r, h1, h2⟩ := h w
  exact ⟨_, _, r, run_part_agg w, run_part_agg w, h1, h2⟩
theorem eqItems_of {d : Nat} {e : TypeId} {c : Nat} {xs ys : List Value} {b : Nat → Prop} (w : World) : ∀ (is : List Nat), (∀ i ∈ is, EqP P d e xs ys (i * c) (b i)) → ∃ r : Bool, (Op.eqItems d e c xs.toArray ys.toArray is).run P w = .ok r w ∧ (r = true ↔ ∀ i ∈ is, b i)
  | [], _ => ⟨true, by simp [Op.eqItems], by simp⟩
  | i :: is, h => by
    obtain ⟨x, y, r, h1, h2, h3, h4⟩ := h i (by simp) w
    obtain ⟨r', h5, h6⟩ := eqItems_of w is (fun j hj => h j (by simp [hj]))
    simp only [Op.eqItems, Sem.run_bind, h1, h2, h3, Result.andThen_ok]
    cases r
    · refine ⟨false, by simp, ?_⟩
      constructor
      · intro h; cases h
      · intro h; exact absurd (h4.2 (h i (by simp))) (by simp)
    · refine ⟨r', by simpa using h5, ?_⟩
      rw [h6]
      constructor
      · intro h j hj
        rcases List.mem_cons.1 hj with rfl | hj
        · exact h4.1 rfl
        · exact h j hj
      · intro h j hj; exact h j (by simp [hj])
theorem eqFields_of {d : Nat} {xs ys : List Value} {b : Field → Prop} (w : World) : ∀ (fs : List Field), (∀ f ∈ fs, f.name ≠ "_" ∧ EqP P d f.type xs ys f.offset (b f)) → ∃ r : Bool, (Op.eqFields d xs.toArray ys.toArray fs).run P w = .ok r w ∧ (r = true ↔ ∀ f ∈ fs, b f)
  | [], _ => ⟨true, by simp [Op.eqFields], by simp⟩
  | f :: fs, h => by
    obtain ⟨hn, hf⟩ := h f (by simp)
    obtain ⟨x, y, r, h1, h2, h3, h4⟩ := hf w
    obtain ⟨r', h5, h6⟩ := eqFields_of w fs (fun j hj => h j (by simp [hj]))
    simp only [Op.eqFields, hn, ne_eq, not_false_eq_true, if_true, Sem.run_bind, h1, h2, h3, Result.andThen_ok]
    cases r
    · refine ⟨false, by simp, ?_⟩
      constructor
      · intro h; cases h
      · intro h; exact absurd (h4.2 (h f (by simp))) (by simp)
    · refine ⟨r', by simpa using h5, ?_⟩
      rw [h6]
      constructor
      · intro h j hj
        rcases List.mem_cons.1 hj with rfl | hj
        · exact h4.1 rfl
        · exact h j hj
      · intro h j hj; exact h j (by simp [hj])
theorem EqA.arr {d : Nat} {t e : TypeId} {n c : Nat} {xs ys : List Value} {b : Nat → Prop} (hu : P.underlying t = some (.array n e)) (hc : (P.info? e).map (·.size) = some c) (h : ∀ i, i < n → EqP P d e xs ys (i * c) (b i)) : EqA P (d + 1) t xs ys (∀ i, i < n → b i) := fun w => by
  cases hi : P.info? e with
  | none => simp [hi] at hc
  | some inf =>
    have hs : P.cellsOf e = c := by simpa [Program.cellsOf, hi] using hc
    rw [run_equalIn_array w d _ _ hu hi, hs]
    obtain ⟨r, h1, h2⟩ := eqItems_of (P := P) (d := d) (e := e) (c := c) (xs := xs) (ys := ys) (b := b) w (List.range n) (fun i hi => h i (List.mem_range.1 hi))
    exact ⟨r, h1, by rw [h2]; simp⟩
theorem EqA.struct {d : Nat} {t : TypeId} {fs : Array Field} {xs ys : List Value} {b : Field → Prop} (hu : P.underlying t = some (.struct fs)) (hp : P.stoodInHeld t = false) (h : ∀ f ∈ fs.toList, f.name ≠ "_" ∧ EqP P d f.type xs ys f.offset (b f)) : EqA P (d + 1) t xs ys (∀ f ∈ fs.toList, b f) := fun w => by
  have hfs : P.fieldsOf t = fs := by simp [Program.fieldsOf, hu]
  rw [run_equalIn_struct w d t _ _ (by rw [hfs]; exact hu) hp, hfs]
  exact eqFields_of w _ h
theorem EqA.iff {d : Nat} {t : TypeId} {xs ys : List Value} {b c : Prop} (h : EqA P d t xs ys b) (hbc : b ↔ c) : EqA P d t xs ys c := fun w => by
  obtain ⟨r, h1, h2⟩ := h w
  exact ⟨r, h1, h2.trans hbc⟩
end
section
variable {P : Program} {n : Nat} {ops : Array Oper} {Q : Post} {rest : List Oper} {e : Env} {w : World} {s : Ro} {rs : List Asn} {tt : Nat} {pp : String} {af : Array Edge} {g : Option (Nat × Bool)} {d : Nat}
theorem X.eqA {x y : Operand} {t u : TypeId} {xs ys : List Value} {b : Prop} [Decidable b] (E : EqA P 10000 t xs ys b) (hg : P.eqGuardType P.depth t = false) (h : L P n ops Q rest (upd e d (.bool (decide b))) w) (hw : wg n ops g e = true := by rfl) (hd : Nat.blt d n = true := by rfl) (hx : ev e x = .agg xs.toArray := by rfl) (hy : ev e y = .agg ys.toArray := by rfl) : L P n ops Q (⟨some d, .binOp .eql t x y u, tt, pp, af, g⟩ :: rest) e w :=
  L.val (o := ⟨some d, .binOp .eql t x y u, tt, pp, af, g⟩) _ w hw hd (by
    obtain ⟨r, h1, h2⟩ := E w
    have hr : r = decide b := by
      cases r
      · exact (decide_eq_false (fun hb => absurd (h2.2 hb) (by simp))).symm
      · exact (decide_eq_true (h2.1 rfl)).symm
    subst hr
    unfold execOp
    simp only [hx, hy, Sem.run_bind, run_eqGuard_agg w .eql t x y _ _ hg, Result.andThen_ok, run_eql_struct, h1, Sem.run_pure]) h
theorem X.neA {x y : Operand} {t u : TypeId} {xs ys : List Value} {b : Prop} [Decidable b] (E : EqA P 10000 t xs ys b) (hg : P.eqGuardType P.depth t = false) (h : L P n ops Q rest (upd e d (.bool (!decide b))) w) (hw : wg n ops g e = true := by rfl) (hd : Nat.blt d n = true := by rfl) (hx : ev e x = .agg xs.toArray := by rfl) (hy : ev e y = .agg ys.toArray := by rfl) : L P n ops Q (⟨some d, .binOp .neq t x y u, tt, pp, af, g⟩ :: rest) e w :=
  L.val (o := ⟨some d, .binOp .neq t x y u, tt, pp, af, g⟩) _ w hw hd (by
    obtain ⟨r, h1, h2⟩ := E w
    have hr : r = decide b := by
      cases r
      · exact (decide_eq_false (fun hb => absurd (h2.2 hb) (by simp))).symm
      · exact (decide_eq_true (h2.1 rfl)).symm
    subst hr
    unfold execOp
    simp only [hx, hy, Sem.run_bind, run_eqGuard_agg w .neq t x y _ _ hg, Result.andThen_ok, run_neq_struct, h1, Sem.run_pure]) h
/-- an element of an array by value: one cell -/
theorem X.ix1 {x y : Operand} {t : TypeId} {len : Nat} [A : ArrC P t len 1 true] {cs : List Value} {v : Value} {k : IntKind} {ii : Int} (i : Nat) (h : L P n ops Q rest (upd e d v) w) (hv : cs[i]? = some v) (hlt : i < len) (hw : wg n ops g e = true := by rfl) (hd : Nat.blt d n = true := by rfl) (hx : ev e x = .agg cs.toArray := by rfl) (hy : ev e y = .int k ii := by rfl) (hii : ii = (i : Int) := by first | rfl | omega) : L P n ops Q (⟨some d, .index t x y, tt, pp, af, g⟩ :: rest) e w :=
  L.val (o := ⟨some d, .index t x y, tt, pp, af, g⟩) _ w hw hd (by
    obtain ⟨el, dd, hu, hs, hue, hr⟩ := A.arr
    subst hii
    have h0 : (0 : Int) ≤ (i : Int) ∧ (i : Int) < (len : Int) := by omega
    cases hi : P.info? el with
    | none => simp [hi] at hs
    | some inf =>
      have hs' : inf.size = 1 := by simpa [hi] using hs
      have ha : (isAgg el).run P w = .ok false w := by
        cases dd <;> simp [TypeDesc.isRow] at hr <;> simp [isAgg, run_underlying hue]
      have hv' : cs.toArray[i]? = some v := by simpa using hv
      unfold execOp
      simp [hx, hy, Instr.index, asIntOf, Sem.run_bind, run_underlying hu, h0, part, ha, sizeOf, typeInfo, hi, hs', hv]
      intro hle; omega) h
/-- an element of an array by value: many cells -/
theorem X.ixP {x y : Operand} {t : TypeId} {len sz : Nat} [A : ArrC P t len sz false] {cs ys : List Value} {k : IntKind} {ii : Int} (i : Nat) (h : L P n ops Q rest (upd e d (.agg ys.toArray)) w) (hv : (cs.drop (i * sz)).take sz = ys) (hlt : i < len) (hw : wg n ops g e = true := by rfl) (hd : Nat.blt d n = true := by rfl) (hx : ev e x = .agg cs.toArray := by rfl) (hy : ev e y = .int k ii := by rfl) (hii : ii = (i : Int) := by first | rfl | omega) : L P n ops Q (⟨some d, .index t x y, tt, pp, af, g⟩ :: rest) e w :=
  L.val (o := ⟨some d, .index t x y, tt, pp, af, g⟩) _ w hw hd (by
    obtain ⟨el, dd, hu, hs, hue, hr⟩ := A.arr
    subst hii
    have h0 : (0 : Int) ≤ (i : Int) ∧ (i : Int) < (len : Int) := by omega
    cases hi : P.info? el with
    | none => simp [hi] at hs
    | some inf =>
      have hs' : inf.size = sz := by simpa [hi] using hs
      haveI T : RowC P el sz := ⟨⟨dd, hue, by simpa using hr⟩, hs⟩
      have hp := run_part_agg (P := P) (t := el) (n := sz) (xs := cs) (off := i * sz) w
      rw [hv] at hp
      unfold execOp
      simp [hx, hy, Instr.index, asIntOf, Sem.run_bind, run_underlying hu, h0, sizeOf, typeInfo, hi, hs', hp]
      intro hle; omega) h
/-- min, max -/
theorem X.min {x y : Operand} {ts : Array TypeId} {k j : IntKind} {a b : Int} (r : Int) (h : L P n ops Q rest (upd e d (.int k r)) w) (hr : (if b < a then b else a) = r) (hw : wg n ops g e = true := by rfl) (hd : Nat.blt d n = true := by rfl) (hx : ev e x = .int k a := by rfl) (hy : ev e y = .int j b := by rfl) : L P n ops Q (⟨some d, .call { callee := .builtin .min, args := #[x, y], argTypes := ts }, tt, pp, af, g⟩ :: rest) e w :=
  L.val (o := ⟨some d, .call { callee := .builtin .min, args := #[x, y], argTypes := ts }, tt, pp, af, g⟩) _ w hw hd (by
    subst hr
    unfold execOp
    simp [resolve, invoke, hx, hy, go_sem, Builtin.min_, Builtin.min2]) h
theorem X.max {x y : Operand} {ts : Array TypeId} {k j : IntKind} {a b : Int} (r : Int) (h : L P n ops Q rest (upd e d (.int k r)) w) (hr : (if b > a then b else a) = r) (hw : wg n ops g e = true := by rfl) (hd : Nat.blt d n = true := by rfl) (hx : ev e x = .int k a := by rfl) (hy : ev e y = .int j b := by rfl) : L P n ops Q (⟨some d, .call { callee := .builtin .max, args := #[x, y], argTypes := ts }, tt, pp, af, g⟩ :: rest) e w :=
  L.val (o := ⟨some d, .call { callee := .builtin .max, args := #[x, y], argTypes := ts }, tt, pp, af, g⟩) _ w hw hd (by
    subst hr
    unfold execOp
    simp [resolve, invoke, hx, hy, go_sem, Builtin.max_, Builtin.max2]) h
end
end Go.Proofs.Ytlchnabnhimlcaa
set_option linter.unusedSimpArgs false
set_option linter.unusedVariables false
namespace Go.Own
open Go Go.RowKit
section
variable {P : Program} {n : Nat} {ops : Array Oper} {Q : Post} {rest : List Oper} {e : Env} {w w' : World} {s : Ro} {rs : List Asn} {tt : Nat} {pp : String} {af : Array Edge} {g : Option (Nat × Bool)} {d : Nat}
theorem B.add {x y : Operand} {t u : TypeId} {k : IntKind} {B a b : Nat} [T : IntC P t k] [U : Uns k B] (h : L P n ops Q rest (upd e d (.int k ((a + b : Nat) : Int))) w) (hw : wg n ops g e = true := by rfl) (hd : Nat.blt d n = true := by rfl) (hx : ev e x = .int k (a : Int) := by rfl) (hy : ev e y = .int k (b : Int) := by rfl) (hb : a + b < 2 ^ B := by first | assumption | decide | omega) : L P n ops Q (⟨some d, .binOp .add t x y u, tt, pp, af, g⟩ :: rest) e w :=
  K.arith _ hw hd hx hy (by
    show some (k.wrap ((a : Int) + (b : Int))) = some ((a + b : Nat) : Int)
    rw [← Int.natCast_add, uwrap_lt hb]) h
theorem B.sub {x y : Operand} {t u : TypeId} {k : IntKind} {B a b : Nat} [T : IntC P t k] [U : Uns k B] (h : L P n ops Q rest (upd e d (.int k ((a - b : Nat) : Int))) w) (hw : wg n ops g e = true := by rfl) (hd : Nat.blt d n = true := by rfl) (hx : ev e x = .int k (a : Int) := by rfl) (hy : ev e y = .int k (b : Int) := by rfl) (ha : a < 2 ^ B := by first | assumption | decide | omega) (hb : b ≤ a := by first | assumption | decide | omega) : L P n ops Q (⟨some d, .binOp .sub t x y u, tt, pp, af, g⟩ :: rest) e w :=
  K.arith _ hw hd hx hy (by
    show some (k.wrap ((a : Int) - (b : Int))) = some ((a - b : Nat) : Int)
    rw [← Int.ofNat_sub hb, uwrap_lt (Nat.lt_of_le_of_lt (Nat.sub_le _ _) ha)]) h
theorem B.mul {x y : Operand} {t u : TypeId} {k : IntKind} {B a b : Nat} [T : IntC P t k] [U : Uns k B] (h : L P n ops Q rest (upd e d (.int k ((a * b % 2 ^ B : Nat) : Int))) w) (hw : wg n ops g e = true := by rfl) (hd : Nat.blt d n = true := by rfl) (hx : ev e x = .int k (a : Int) := by rfl) (hy : ev e y = .int k (b : Int) := by rfl) : L P n ops Q (⟨some d, .binOp .mul t x y u, tt, pp, af, g⟩ :: rest) e w :=
  K.arith _ hw hd hx hy (by
    show some (k.wrap ((a : Int) * (b : Int))) = some ((a * b % 2 ^ B : Nat) : Int)
    rw [← Int.natCast_mul, uwrap]) h
theorem B.rem {x y : Operand} {t u : TypeId} {k : IntKind} {B a b : Nat} [T : IntC P t k] [U : Uns k B] (h : L P n ops Q rest (upd e d (.int k ((a % b : Nat) : Int))) w) (hw : wg n ops g e = true := by rfl) (hd : Nat.blt d n = true := by rfl) (hx : ev e x = .int k (a : Int) := by rfl) (hy : ev e y = .int k (b : Int) := by rfl) (hb : 0 < b := by first | assumption | decide | omega) : L P n ops Q (⟨some d, .binOp .rem t x y u, tt, pp, af, g⟩ :: rest) e w :=
  K.rem hw hd hx hy (by omega) (by rw [← Int.ofNat_tmod]; exact h)
theorem B.quo {x y : Operand} {t u : TypeId} {k : IntKind} {B a b : Nat} [T : IntC P t k] [U : Uns k B] (h : L P n ops Q rest (upd e d (.int k ((a / b : Nat) : Int))) w) (hw : wg n ops g e = true := by rfl) (hd : Nat.blt d n = true := by rfl) (hx : ev e x = .int k (a : Int) := by rfl) (hy : ev e y = .int k (b : Int) := by rfl) (ha : a < 2 ^ B := by first | assumption | decide | omega) (hb : 0 < b := by first | assumption | decide | omega) : L P n ops Q (⟨some d, .binOp .quo t x y u, tt, pp, af, g⟩ :: rest) e w :=
  L.val (o := ⟨some d, .binOp .quo t x y u, tt, pp, af, g⟩) _ w hw hd (by
    have h1 : (b : Int) ≠ 0 := by omega
    have h2 : k.wrap ((a : Int).tdiv (b : Int)) = ((a / b : Nat) : Int) := by
      rw [← Int.ofNat_tdiv, uwrap_lt (Nat.lt_of_le_of_lt (Nat.div_le_self _ _) ha)]
    unfold execOp
    simp only [hx, hy, eqGuard, binOp, Op.intDiv, if_neg h1, h2]
    simp) h
/-- a string's byte -/
theorem X.sidx {x y : Operand} {t : TypeId} [T : StrC P t] {l : List UInt8} {k : IntKind} {ii : Int} (i : Nat) (h : L P n ops Q rest (upd e d (.int .u8 ((l[i]?.getD 0).toNat : Int))) w) (hw : wg n ops g e = true := by rfl) (hd : Nat.blt d n = true := by rfl) (hx : ev e x = .string ⟨l.toArray⟩ := by rfl) (hy : ev e y = .int k ii := by rfl) (hii : ii = (i : Int) := by first | rfl | omega) (hl : i < l.length := by first | assumption | decide | omega) : L P n ops Q (⟨some d, .index t x y, tt, pp, af, g⟩ :: rest) e w :=
  L.val (o := ⟨some d, .index t x y, tt, pp, af, g⟩) _ w hw hd (by
    subst hii
    have := run_index_string w t ⟨l.toArray⟩ k (i : Int) T.str
    have hs : (⟨l.toArray⟩ : ByteArray).size = l.length := by simp [ByteArray.size]
    rw [dif_pos (by rw [hs]; omega)] at this
    have hg : ((⟨l.toArray⟩ : ByteArray)[(i : Int).toNat]'(by rw [hs]; omega)) = l[i]?.getD 0 := by
      simp [ByteArray.getElem_eq_getElem_data, hl]
    rw [hg] at this
    unfold execOp
    simp [hx, hy, this]) h
/-- a block of bytes that a string gave -/
def brow (b : Nat) (t : TypeId) (n c : Nat) (l : List UInt8) : Asn :=
  ⟨fun w F => F = [b] ∧ ∃ cur fz, w.heap[b]? = some (.cells cur t fz) ∧ n ≤ c ∧ c ≤ maxLen ∧ cur.size = c ∧ cur.toList.take n = u8s l ∧ l.length = n ∧ cur.size ≤ fz.1, fun h hk => ⟨h.1, by
    obtain ⟨_, cur, fz, hb, r⟩ := h
    exact ⟨cur, fz, (hk b (by simp [*])).trans hb, r⟩⟩, fun h k hk => by
    obtain ⟨h1, cur, fz, hb, r⟩ := h
    rw [h1] at hk; simp at hk; subst hk; exact lt_of_heap hb⟩
theorem Holds.fixBrow {b c : Nat} {t : TypeId} {l : List UInt8} (H : Holds s w (brow b t l.length c l :: rs)) : ∃ s', s.Le s' ∧ Holds s' w rs ∧ SlS s' (.slice (some ⟨b, 0, none⟩) l.length c) 1 l.length (u8s l) := by
  obtain ⟨F, s', ⟨hF, cur, fz, hb, h1, h2, h3, h4, h5, h6⟩, hle, H', hm⟩ := H.fix
  refine ⟨s', hle, H', _, c, rfl, by rw [u8s_len]; simp, h1, h2, .inr ⟨b, 0, rfl, fun j x hx => ⟨cur, t, fz, by rw [hm b (by simp [hF])]; exact hb, ?_⟩⟩⟩
  rw [← h4, List.getElem?_take] at hx
  split at hx
  · simpa using hx
  · cases hx
end
end Go.Own
set_option linter.unusedSimpArgs false
set_option linter.unusedVariables false
namespace Go.Proofs.Ytlchnabnhimlcaa
open Go Go.RowKit Go.Own
section
variable {P : Program} {n : Nat} {ops : Array Oper} {Q : Post} {rest : List Oper} {e : Env} {w : World} {s : Ro} {rs : List Asn} {tt : Nat} {pp : String} {af : Array Edge} {g : Option (Nat × Bool)} {d : Nat}
theorem bsz (l : List UInt8) : (⟨l.toArray⟩ : ByteArray).size = l.length := by simp [ByteArray.size]
/-- len(s) -/
theorem X.lenL {x : Operand} {t : TypeId} [T : StrC P t] {l : List UInt8} (h : L P n ops Q rest (upd e d (.int .i64 (l.length : Int))) w) (hw : wg n ops g e = true := by rfl) (hd : Nat.blt d n = true := by rfl) (hx : ev e x = .string ⟨l.toArray⟩ := by rfl) : L P n ops Q (⟨some d, .call { callee := .builtin .len, args := #[x], argTypes := #[t] }, tt, pp, af, g⟩ :: rest) e w :=
  J.lenS (b := ⟨l.toArray⟩) (by rw [bsz]; exact h) hw hd hx
/-- strings compared -/
theorem X.eqL {x y : Operand} {t u : TypeId} {a b : List UInt8} (h1 : a = b → L P n ops Q rest (upd e d (.bool true)) w) (h2 : a ≠ b → L P n ops Q rest (upd e d (.bool false)) w) (hw : wg n ops g e = true := by rfl) (hd : Nat.blt d n = true := by rfl) (hx : ev e x = .string ⟨a.toArray⟩ := by rfl) (hy : ev e y = .string ⟨b.toArray⟩ := by rfl) : L P n ops Q (⟨some d, .binOp .eql t x y u, tt, pp, af, g⟩ :: rest) e w :=
  J.eqS (fun h => h1 (bst_inj'.1 h)) (fun h => h2 (fun e => h (bst_inj'.2 e))) hw hd hx hy
theorem X.neL {x y : Operand} {t u : TypeId} {a b : List UInt8} (h1 : a ≠ b → L P n ops Q rest (upd e d (.bool true)) w) (h2 : a = b → L P n ops Q rest (upd e d (.bool false)) w) (hw : wg n ops g e = true := by rfl) (hd : Nat.blt d n = true := by rfl) (hx : ev e x = .string ⟨a.toArray⟩ := by rfl) (hy : ev e y = .string ⟨b.toArray⟩ := by rfl) : L P n ops Q (⟨some d, .binOp .neq t x y u, tt, pp, af, g⟩ :: rest) e w :=
  J.neS (fun h => h1 (fun e => h (bst_inj'.2 e))) (fun h => h2 (bst_inj'.1 h)) hw hd hx hy
/-- a + b -/
theorem X.catL {x y : Operand} {t u : TypeId} {a b : List UInt8} (h : L P n ops Q rest (upd e d (.string ⟨(a ++ b).toArray⟩)) w) (hw : wg n ops g e = true := by rfl) (hd : Nat.blt d n = true := by rfl) (hx : ev e x = .string ⟨a.toArray⟩ := by rfl) (hy : ev e y = .string ⟨b.toArray⟩ := by rfl) (hl : a.length + b.length ≤ 9223372036854775807 := by first | omega | (simp; omega)) : L P n ops Q (⟨some d, .binOp .add t x y u, tt, pp, af, g⟩ :: rest) e w :=
  J.cat (a := ⟨a.toArray⟩) (b := ⟨b.toArray⟩) (by
    have e : (⟨a.toArray⟩ : ByteArray) ++ ⟨b.toArray⟩ = ⟨(a ++ b).toArray⟩ := by
      apply ByteArray.ext
      simp
    rw [e]; exact h) hw hd hx hy (by rw [bsz, bsz]; exact hl)
theorem ext_list {l : List UInt8} {i j : Nat} : (⟨l.toArray⟩ : ByteArray).extract i j = ⟨((l.take j).drop i).toArray⟩ := by
  apply ByteArray.ext
  simp [List.extract_eq_take_drop, List.drop_take]
/-- s[i:j], s[i:], s[:j] -/
theorem X.sub {x lo hi : Operand} {t : TypeId} [T : StrC P t] {l : List UInt8} {k k' : IntKind} {a b : Int} (i j : Nat) (h : L P n ops Q rest (upd e d (.string ⟨((l.take j).drop i).toArray⟩)) w) (ha : a = (i : Int)) (hb : b = (j : Int)) (h1 : i ≤ j) (h2 : j ≤ l.length) (hw : wg n ops g e = true := by rfl) (hd : Nat.blt d n = true := by rfl) (hx : ev e x = .string ⟨l.toArray⟩ := by rfl) (hlo : ev e lo = .int k a := by rfl) (hhi : ev e hi = .int k' b := by rfl) : L P n ops Q (⟨some d, .slice t x (some lo) (some hi) none, tt, pp, af, g⟩ :: rest) e w := by
  refine L.val (o := ⟨some d, .slice t x (some lo) (some hi) none, tt, pp, af, g⟩) _ w hw hd (run_v (sm := Instr.sliceAt t (ev e x) (some (ev e lo)) (some (ev e hi)) none) rfl ?_) h
  rw [hx, hlo, hhi, ← ext_list]
  have hz := bsz l
  simp [Instr.sliceAt, run_underlying T.str, Instr.slice, Instr.sliceBounds, Own.run_sliceBound hb (show j ≤ (⟨l.toArray⟩ : ByteArray).size by omega), Own.run_sliceBound ha h1]
theorem X.from {x lo : Operand} {t : TypeId} [T : StrC P t] {l : List UInt8} {k : IntKind} {a : Int} (i : Nat) (h : L P n ops Q rest (upd e d (.string ⟨(l.drop i).toArray⟩)) w) (ha : a = (i : Int)) (h1 : i ≤ l.length) (hw : wg n ops g e = true := by rfl) (hd : Nat.blt d n = true := by rfl) (hx : ev e x = .string ⟨l.toArray⟩ := by rfl) (hlo : ev e lo = .int k a := by rfl) : L P n ops Q (⟨some d, .slice t x (some lo) none none, tt, pp, af, g⟩ :: rest) e w := by
  refine L.val (o := ⟨some d, .slice t x (some lo) none none, tt, pp, af, g⟩) _ w hw hd (run_v (sm := Instr.sliceAt t (ev e x) (some (ev e lo)) none none) rfl ?_) h
  have hz := bsz l
  have he : (⟨(l.drop i).toArray⟩ : ByteArray) = (⟨l.toArray⟩ : ByteArray).extract i (⟨l.toArray⟩ : ByteArray).size := by rw [ext_list, hz, List.take_length]
  rw [hx, hlo, he]
  simp [Instr.sliceAt, run_underlying T.str, Instr.slice, Instr.sliceBounds, Own.run_sliceBound ha (show i ≤ (⟨l.toArray⟩ : ByteArray).size by omega)]
theorem X.upto {x hi : Operand} {t : TypeId} [T : StrC P t] {l : List UInt8} {k : IntKind} {b : Int} (j : Nat) (h : L P n ops Q rest (upd e d (.string ⟨(l.take j).toArray⟩)) w) (hb : b = (j : Int)) (h2 : j ≤ l.length) (hw : wg n ops g e = true := by rfl) (hd : Nat.blt d n = true := by rfl) (hx : ev e x = .string ⟨l.toArray⟩ := by rfl) (hhi : ev e hi = .int k b := by rfl) : L P n ops Q (⟨some d, .slice t x none (some hi) none, tt, pp, af, g⟩ :: rest) e w := by
  refine L.val (o := ⟨some d, .slice t x none (some hi) none, tt, pp, af, g⟩) _ w hw hd (run_v (sm := Instr.sliceAt t (ev e x) none (some (ev e hi)) none) rfl ?_) h
  have hz := bsz l
  have he : (⟨(l.take j).toArray⟩ : ByteArray) = (⟨l.toArray⟩ : ByteArray).extract 0 j := by rw [ext_list, List.drop_zero]
  rw [hx, hhi, he]
  simp [Instr.sliceAt, run_underlying T.str, Instr.slice, Instr.sliceBounds, Own.run_sliceBound hb (show j ≤ (⟨l.toArray⟩ : ByteArray).size by omega)]
/-- a cell of a variable; a hypothesis tells it -/
theorem X.lv {ty : TypeId} {x : Operand} [OneC P ty] {b off : Nat} {t : TypeId} {cs : List Value} {f : List Value → List Asn} {v : Value} (H : Holds s w rs) (h : L P n ops Q rest (upd e d v) w) (hw : wg n ops g e = true := by rfl) (hd : Nat.blt d n = true := by rfl) (hx : ev e x = .pointer (some ⟨b, off, none⟩) := by rfl) (T : PutV rs b t cs f := by infer_instance) (hv : cs[off]? = some v := by assumption) : L P n ops Q (⟨some d, .load ty x, tt, pp, af, g⟩ :: rest) e w := X.ld H h hw hd hx T hv
/-- cells of a variable; a hypothesis tells them -/
theorem X.lp {ty : TypeId} {x : Operand} {k : Nat} [RowC P ty k] {b off : Nat} {t : TypeId} {cs ys : List Value} {f : List Value → List Asn} (H : Holds s w rs) (h : L P n ops Q rest (upd e d (.agg ys.toArray)) w) (hw : wg n ops g e = true := by rfl) (hd : Nat.blt d n = true := by rfl) (hx : ev e x = .pointer (some ⟨b, off, none⟩) := by rfl) (T : PutV rs b t cs f := by infer_instance) (hys : (cs.drop off).take k = ys := by assumption) (hn : ys.length = k := by first | rfl | assumption) : L P n ops Q (⟨some d, .load ty x, tt, pp, af, g⟩ :: rest) e w := X.ldp ys H h hw hd hx T hys hn
/-- a[l:] of an array in a variable -/
theorem X.arrF {t : TypeId} {x lo : Operand} {b off len sz : Nat} {one : Bool} [A : ArrC P t len sz one] {k : IntKind} {il : Int} (l : Nat) (h : L P n ops Q rest (upd e d (.slice (some ⟨b, if len = l then off else off + l * sz, none⟩) (len - l) (len - l))) w) (hl : il = (l : Int)) (hle : l ≤ len) (hw : wg n ops g e = true := by rfl) (hd : Nat.blt d n = true := by rfl) (hx : ev e x = .pointer (some ⟨b, off, none⟩) := by rfl) (hlo : ev e lo = .int k il := by rfl) : L P n ops Q (⟨some d, .slice t x (some lo) none none, tt, pp, af, g⟩ :: rest) e w := by
  obtain ⟨el, dd, h1, h2, h3, h4⟩ := A.arr
  refine L.val (o := ⟨some d, .slice t x (some lo) none none, tt, pp, af, g⟩) _ w hw hd (run_v (sm := Instr.sliceAt t (ev e x) (some (ev e lo)) none none) rfl ?_) h
  cases hq : P.info? el with
  | none => simp [hq] at h2
  | some i =>
    have hs : i.size = sz := by simpa [hq] using h2
    rw [hx, hlo]
    have hq' := Own.run_sliceBound (P := P) (w := w) (k := k) (c := .sliceB) hl hle
    by_cases hll : len = l
    · subst hll
      simp [Instr.sliceAt, run_underlying h1, Instr.sureAddr, Instr.sliceBounds, hq', sizeOf, typeInfo, hq, Addr.add, hs]
    · simp [Instr.sliceAt, run_underlying h1, Instr.sureAddr, Instr.sliceBounds, hq', sizeOf, typeInfo, hq, Addr.add, hs, hll]
theorem C.label {l : Nat} (h : Q .normal e w) : C P n Q (.label l) e w := ⟨fun a ha => wp_label ⟨e, ha, h⟩⟩
def noGotoE (Q : Post) : Post := fun x => match x with
  | .goto _ => fun _ _ => False
  | x => Q x
theorem C.scope {c : Code} (h : C P n (noGotoE Q) c e w) : C P n Q (.scope c) e w :=
  ⟨fun a ha => wp_scope_straight (Code.wp_mono (fun ex a' w' ⟨e', fr, hq⟩ => by
    cases ex <;> first | exact hq.elim | exact ⟨e', fr, hq⟩) (h.go a ha))⟩
end
end Go.Proofs.Ytlchnabnhimlcaa
set_option linter.unusedSimpArgs false
set_option linter.unusedVariables false
namespace Go.Proofs.Ytlchnabnhimlcaa
open Go Go.RowKit Go.Own
section
variable {s : Ro} {w : World} {R : List Asn}
set_option maxRecDepth 100000 in
set_option maxHeartbeats 1000000 in
theorem isName_s {l : Str} (H : Holds s w R) : Calls Try.prog 58 #[.string ⟨l.toArray⟩] w fun e w' => e = .returned (.bool (isNameM l)) ∧ Holds s w' R := by
  refine enter Try.func58 rfl Try.ntmps58 rfl ?_
  by_cases hl : 1 ≤ l.length ∧ l.length ≤ 8
  rotate_left
  · repeat' (first | (refine X.lenL ?_) | (refine X.lv H ?_) | (refine X.lp H ?_) | refine Z H ?_ | (refine Zc ?_ ?_ <;> intro hc <;> first | (exfalso; omega) | skip) | (refine Y ?_; try change C _ _ _ _ _ _) | (refine Zs H ?_; clear H; (try clear w); intro w H) | (refine Zn H ?_; clear H; (try clear w); intro _ w H) | (refine Ze H ?_; clear H; (try clear w); intro gv w H))
    all_goals exact ⟨_, resT rfl, by rw [isNameM, decide_eq_false hl]; rfl, H⟩
  obtain ⟨h1, h8⟩ := hl
  repeat' (first | (refine X.lenL ?_) | (refine X.lv H ?_) | (refine X.lp H ?_) | refine Z H ?_ | (refine Zc ?_ ?_ <;> intro hc <;> first | (exfalso; omega) | skip) | (refine Y ?_; try change C _ _ _ _ _ _) | (refine Zs H ?_; clear H; (try clear w); intro w H) | (refine Zn H ?_; clear H; (try clear w); intro _ w H) | (refine Ze H ?_; clear H; (try clear w); intro gv w H))
  refine C.loopH H [2, 3, 4, 15, 16, 17, 18, 19, 20, 21, 22, 23, 24, 25, 26, 27, 28, 29, 30, 31, 32, 33, 34, 35, 36, 37, 38, 39, 40, 41, 42, 43] [15] rfl (fun m vs => ∃ i : Nat, m = l.length - i ∧ i ≤ l.length ∧ vs = [.int .i64 (i : Int)] ∧ (l.take i).all okc = true) l.length ⟨0, rfl, Nat.zero_le _, rfl, by simp⟩ ?_
  clear H
  rintro m vs hv w ⟨i, rfl, hi, rfl, hall⟩ H
  by_cases hlt : i < l.length
  rotate_left
  · obtain rfl : i = l.length := by omega
    rw [List.take_length] at hall
    repeat' (first | (refine X.lenL ?_) | (refine X.lv H ?_) | (refine X.lp H ?_) | refine Z H ?_ | (refine Zc ?_ ?_ <;> intro hc <;> first | (exfalso; omega) | skip) | (refine Y ?_; try change C _ _ _ _ _ _) | (refine Zs H ?_; clear H; (try clear w); intro w H) | (refine Zn H ?_; clear H; (try clear w); intro _ w H) | (refine Ze H ?_; clear H; (try clear w); intro gv w H))
    exact ⟨_, resT rfl, by rw [isNameM, hall, decide_eq_true ⟨h1, h8⟩]; rfl, H⟩
  have hcc : l[i]? = some (l[i]?.getD 0) := by rw [List.getElem?_eq_getElem hlt]; rfl
  have htk : l.take (i + 1) = l.take i ++ [l[i]?.getD 0] := by rw [List.take_succ_eq_append_getElem hlt, List.getElem?_eq_getElem hlt]; rfl
  by_cases hok : 97 ≤ (l[i]?.getD 0).toNat ∧ (l[i]?.getD 0).toNat ≤ 122 ∨ 48 ≤ (l[i]?.getD 0).toNat ∧ (l[i]?.getD 0).toNat ≤ 57 ∨ (l[i]?.getD 0).toNat = 46 ∨ (l[i]?.getD 0).toNat = 95
  · repeat' (first | (refine X.sidx i ?_) | (refine X.lenL ?_) | (refine X.lv H ?_) | (refine X.lp H ?_) | refine Z H ?_ | (refine Zc ?_ ?_ <;> intro hc <;> first | (exfalso; omega) | skip) | (refine Y ?_; try change C _ _ _ _ _ _) | (refine Zs H ?_; clear H; (try clear w); intro w H) | (refine Zn H ?_; clear H; (try clear w); intro _ w H) | (refine Ze H ?_; clear H; (try clear w); intro gv w H))
    all_goals exact ⟨by (repeat (first | exact Agr.refl | exact Agr.hav | refine Agr.upd rfl ?_ | refine Agr.in rfl ?_)), l.length - (i + 1), by omega, ⟨i + 1, rfl, by omega, rfl, by rw [htk, List.all_append, hall]; simp [okc, hok]⟩, H⟩
  · repeat' (first | (refine X.sidx i ?_) | (refine X.lenL ?_) | (refine X.lv H ?_) | (refine X.lp H ?_) | refine Z H ?_ | (refine Zc ?_ ?_ <;> intro hc <;> first | (exfalso; omega) | skip) | (refine Y ?_; try change C _ _ _ _ _ _) | (refine Zs H ?_; clear H; (try clear w); intro w H) | (refine Zn H ?_; clear H; (try clear w); intro _ w H) | (refine Ze H ?_; clear H; (try clear w); intro gv w H))
    all_goals exact ⟨_, resT rfl, by
      have : l.all okc = false := by
        rw [List.all_eq_false]
        exact ⟨_, List.mem_of_getElem? hcc, by simpa [okc] using hok⟩
      rw [isNameM, this, Bool.and_false]; rfl, H⟩
set_option maxRecDepth 100000 in
set_option maxHeartbeats 1000000 in
theorem rooted_s {b : Nat} {t : TR} {i : Nat} (H : Holds s w (var b 34 t.cells :: R)) (ht : t.Ok) (hi : i < 8) : Calls Try.prog 59 #[.pointer (some ⟨b, 0, none⟩), .int .i64 (i : Int)] w fun e w' => e = .returned (.bool (rootedM t i)) ∧ Holds s w' (var b 34 t.cells :: R) := by
  refine enter Try.func59 rfl Try.ntmps59 rfl ?_
  repeat' (first | (refine X.lenL ?_) | (refine X.lv H ?_) | (refine X.lp H ?_) | refine Z H ?_ | (refine Zc ?_ ?_ <;> intro hc <;> first | (exfalso; omega) | skip) | (refine Y ?_; try change C _ _ _ _ _ _) | (refine Zs H ?_; clear H; (try clear w); intro w H) | (refine Zn H ?_; clear H; (try clear w); intro _ w H) | (refine Ze H ?_; clear H; (try clear w); intro gv w H))
  refine C.loopH H [1, 4, 5, 6, 7, 8, 9, 10, 11, 12, 13, 14, 15, 16, 17, 18, 19, 20, 21, 22] [1, 5] rfl (fun m vs => ∃ j i' : Nat, m = 8 - j ∧ j ≤ 8 ∧ i' < 8 ∧ vs = [.int .i64 (i' : Int), .int .i64 (j : Int)] ∧ rootedFrom t (8 - j) i' = rootedM t i) 8 ⟨0, i, rfl, by omega, hi, rfl, rfl⟩ ?_
  clear H hi
  rintro m vs hv w ⟨j, i', rfl, hj, hi, rfl, hr⟩ H
  have hp := TR.cell ht hi 1 _ rfl
  by_cases hlt : j < 8
  rotate_left
  · obtain rfl : j = 8 := by omega
    by_cases h0 : i' = 0
    · subst h0
      repeat' (first | (refine X.lenL ?_) | (refine X.lv H ?_) | (refine X.lp H ?_) | refine Z H ?_ | (refine Zc ?_ ?_ <;> intro hc <;> first | (exfalso; omega) | skip) | (refine Y ?_; try change C _ _ _ _ _ _) | (refine Zs H ?_; clear H; (try clear w); intro w H) | (refine Zn H ?_; clear H; (try clear w); intro _ w H) | (refine Ze H ?_; clear H; (try clear w); intro gv w H))
      exact ⟨_, resT rfl, by rw [← hr]; rfl, H⟩
    · repeat' (first | (refine X.lenL ?_) | (refine X.lv H ?_) | (refine X.lp H ?_) | refine Z H ?_ | (refine Zc ?_ ?_ <;> intro hc <;> first | (exfalso; omega) | skip) | (refine Y ?_; try change C _ _ _ _ _ _) | (refine Zs H ?_; clear H; (try clear w); intro w H) | (refine Zn H ?_; clear H; (try clear w); intro _ w H) | (refine Ze H ?_; clear H; (try clear w); intro gv w H))
      exact ⟨_, resT rfl, by rw [← hr]; simp [rootedFrom, h0]; rfl, H⟩
  rw [show 8 - j = (7 - j) + 1 by omega, rootedFrom] at hr
  by_cases h0 : i' = 0
  · subst h0
    repeat' (first | (refine X.lenL ?_) | (refine X.lv H ?_) | (refine X.lp H ?_) | refine Z H ?_ | (refine Zc ?_ ?_ <;> intro hc <;> first | (exfalso; omega) | skip) | (refine Y ?_; try change C _ _ _ _ _ _) | (refine Zs H ?_; clear H; (try clear w); intro w H) | (refine Zn H ?_; clear H; (try clear w); intro _ w H) | (refine Ze H ?_; clear H; (try clear w); intro gv w H))
    exact ⟨_, resT rfl, by rw [← hr]; rfl, H⟩
  rw [if_neg (by omega), Int.toNat_natCast] at hr
  by_cases hb : (t.n i').parent < 0 ∨ 8 ≤ (t.n i').parent
  · rw [if_pos hb] at hr
    repeat' (first | (refine K.iaA (i := i') rfl rfl rfl rfl (by omega) hi ?_) | (refine X.lenL ?_) | (refine X.lv H ?_) | (refine X.lp H ?_) | refine Z H ?_ | (refine Zc ?_ ?_ <;> intro hc <;> first | (exfalso; omega) | skip) | (refine Y ?_; try change C _ _ _ _ _ _) | (refine Zs H ?_; clear H; (try clear w); intro w H) | (refine Zn H ?_; clear H; (try clear w); intro _ w H) | (refine Ze H ?_; clear H; (try clear w); intro gv w H))
    all_goals exact ⟨_, resT rfl, by rw [← hr]; rfl, H⟩
  · rw [if_neg hb] at hr
    repeat' (first | (refine K.iaA (i := i') rfl rfl rfl rfl (by omega) hi ?_) | (refine X.lenL ?_) | (refine X.lv H ?_) | (refine X.lp H ?_) | refine Z H ?_ | (refine Zc ?_ ?_ <;> intro hc <;> first | (exfalso; omega) | skip) | (refine Y ?_; try change C _ _ _ _ _ _) | (refine Zs H ?_; clear H; (try clear w); intro w H) | (refine Zn H ?_; clear H; (try clear w); intro _ w H) | (refine Ze H ?_; clear H; (try clear w); intro gv w H))
    obtain ⟨p, hpp⟩ : ∃ p : Nat, (t.n i').parent = p := ⟨(t.n i').parent.toNat, by omega⟩
    rw [hpp] at hr hb
    refine ⟨by (repeat (first | exact Agr.refl | exact Agr.hav | refine Agr.upd rfl ?_ | refine Agr.in rfl ?_)), 8 - (j + 1), by omega, ⟨j + 1, p, rfl, by omega, by omega, ?_, by rw [← hr]; congr 1; omega⟩, H⟩
    rw [← hpp]; rfl
end
end Go.Proofs.Ytlchnabnhimlcaa

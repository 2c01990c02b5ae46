/- The rules of the quick walk with the operation written out; by genk.py. Over any program. -/
import Derived.Test.YtmcojfpomejnnaaEngM
set_option linter.unusedSimpArgs false
set_option linter.unusedVariables false
namespace Go.Own
open Go Go.RowKit

def wg (n : Nat) (ops : Array Oper) (g : Option (Nat × Bool)) (e : Env) : Bool := match g with
  | none => true
  | some (j, want) => yl n ops e j == some want
section
variable {P : Program} {n : Nat} {ops : Array Oper} {Q : Post} {rest : List Oper} {e : Env} {w w' : World} {s : Ro} {rs : List Asn} {tt : Nat} {pp : String} {af : Array Edge} {g : Option (Nat × Bool)}
theorem K.mv {d : Nat} {x : Operand} {v : Value} (hw : wg n ops g e = true) (hd : Nat.blt d n = true) (hx : ev e x = v) (h : L P n ops Q rest (upd e d v) w) : L P n ops Q (⟨some d, .move x, tt, pp, af, g⟩ :: rest) e w := by
  subst hx; exact L.mv hw hd rfl h
theorem K.asg {d : Nat} {x : Operand} {v : Value} (hw : wg n ops g e = true) (hd : Nat.blt d n = true) (hx : ev e x = v) (h : L P n ops Q rest (upd e d v) w) : L P n ops Q (⟨some d, .assign x, tt, pp, af, g⟩ :: rest) e w := by
  subst hx; exact L.asg hw hd rfl h
theorem K.pickT {d : Nat} {c x y : Operand} {v : Value} (hw : wg n ops g e = true) (hd : Nat.blt d n = true) (hc : ev e c = .bool true) (hx : ev e x = v) (h : L P n ops Q rest (upd e d v) w) : L P n ops Q (⟨some d, .pick c x y, tt, pp, af, g⟩ :: rest) e w := by
  subst hx; exact L.pickT hw hd rfl hc h
theorem K.pickF {d : Nat} {c x y : Operand} {v : Value} (hw : wg n ops g e = true) (hd : Nat.blt d n = true) (hc : ev e c = .bool false) (hx : ev e y = v) (h : L P n ops Q rest (upd e d v) w) : L P n ops Q (⟨some d, .pick c x y, tt, pp, af, g⟩ :: rest) e w := by
  subst hx; exact L.pickF hw hd rfl hc h
theorem K.not {d : Nat} {op : Op} (hw : wg n ops g e = false) (hd : Nat.blt d n = true) (h : L P n ops Q rest (upd e d undef) w) : L P n ops Q (⟨some d, op, tt, pp, af, g⟩ :: rest) e w := L.not hw hd h
theorem K.not0 {op : Op} (hw : wg n ops g e = false) (h : L P n ops Q rest e w) : L P n ops Q (⟨none, op, tt, pp, af, g⟩ :: rest) e w := L.not hw rfl h
theorem K.lt {d : Nat} {x y : Operand} {t u : TypeId} {k : IntKind} {a b : Int} (hw : wg n ops g e = true) (hd : Nat.blt d n = true) (hx : ev e x = .int k a) (hy : ev e y = .int k b) (h1 : a < b → L P n ops Q rest (upd e d (.bool true)) w) (h2 : b ≤ a → L P n ops Q rest (upd e d (.bool false)) w) : L P n ops Q (⟨some d, .binOp .lss t x y u, tt, pp, af, g⟩ :: rest) e w := by
  by_cases hc : a < b
  · exact L.cmp hw hd rfl hx hy (by simp [cmpI]; exact hc) (h1 hc)
  · exact L.cmp hw hd rfl hx hy (by simp [cmpI]; omega) (h2 (by omega))
theorem K.le {d : Nat} {x y : Operand} {t u : TypeId} {k : IntKind} {a b : Int} (hw : wg n ops g e = true) (hd : Nat.blt d n = true) (hx : ev e x = .int k a) (hy : ev e y = .int k b) (h1 : a ≤ b → L P n ops Q rest (upd e d (.bool true)) w) (h2 : b < a → L P n ops Q rest (upd e d (.bool false)) w) : L P n ops Q (⟨some d, .binOp .leq t x y u, tt, pp, af, g⟩ :: rest) e w := by
  by_cases hc : a ≤ b
  · exact L.cmp hw hd rfl hx hy (by simp [cmpI]; exact hc) (h1 hc)
  · exact L.cmp hw hd rfl hx hy (by simp [cmpI]; omega) (h2 (by omega))
theorem K.gt {d : Nat} {x y : Operand} {t u : TypeId} {k : IntKind} {a b : Int} (hw : wg n ops g e = true) (hd : Nat.blt d n = true) (hx : ev e x = .int k a) (hy : ev e y = .int k b) (h1 : b < a → L P n ops Q rest (upd e d (.bool true)) w) (h2 : a ≤ b → L P n ops Q rest (upd e d (.bool false)) w) : L P n ops Q (⟨some d, .binOp .gtr t x y u, tt, pp, af, g⟩ :: rest) e w := by
  by_cases hc : b < a
  · exact L.cmp hw hd rfl hx hy (by simp [cmpI]; exact hc) (h1 hc)
  · exact L.cmp hw hd rfl hx hy (by simp [cmpI]; omega) (h2 (by omega))
theorem K.ge {d : Nat} {x y : Operand} {t u : TypeId} {k : IntKind} {a b : Int} (hw : wg n ops g e = true) (hd : Nat.blt d n = true) (hx : ev e x = .int k a) (hy : ev e y = .int k b) (h1 : b ≤ a → L P n ops Q rest (upd e d (.bool true)) w) (h2 : a < b → L P n ops Q rest (upd e d (.bool false)) w) : L P n ops Q (⟨some d, .binOp .geq t x y u, tt, pp, af, g⟩ :: rest) e w := by
  by_cases hc : b ≤ a
  · exact L.cmp hw hd rfl hx hy (by simp [cmpI]; exact hc) (h1 hc)
  · exact L.cmp hw hd rfl hx hy (by simp [cmpI]; omega) (h2 (by omega))
theorem K.eq {d : Nat} {x y : Operand} {t u : TypeId} {k : IntKind} {a b : Int} (hw : wg n ops g e = true) (hd : Nat.blt d n = true) (hx : ev e x = .int k a) (hy : ev e y = .int k b) (h1 : a = b → L P n ops Q rest (upd e d (.bool true)) w) (h2 : a ≠ b → L P n ops Q rest (upd e d (.bool false)) w) : L P n ops Q (⟨some d, .binOp .eql t x y u, tt, pp, af, g⟩ :: rest) e w := by
  by_cases hc : a = b
  · exact L.cmp hw hd rfl hx hy (by simp [cmpI]; exact hc) (h1 hc)
  · exact L.cmp hw hd rfl hx hy (by simp [cmpI]; exact hc) (h2 hc)
theorem K.ne {d : Nat} {x y : Operand} {t u : TypeId} {k : IntKind} {a b : Int} (hw : wg n ops g e = true) (hd : Nat.blt d n = true) (hx : ev e x = .int k a) (hy : ev e y = .int k b) (h1 : a ≠ b → L P n ops Q rest (upd e d (.bool true)) w) (h2 : a = b → L P n ops Q rest (upd e d (.bool false)) w) : L P n ops Q (⟨some d, .binOp .neq t x y u, tt, pp, af, g⟩ :: rest) e w := by
  by_cases hc : a = b
  · exact L.cmp hw hd rfl hx hy (by simp [cmpI]; exact hc) (h2 hc)
  · exact L.cmp hw hd rfl hx hy (by simp [cmpI]; exact hc) (h1 hc)
theorem K.fa0 {d : Nat} {x : Operand} {t : TypeId} {k off b : Nat} [T : FldC P t k off] (hw : wg n ops g e = true) (hd : Nat.blt d n = true) (hx : ev e x = .pointer (some ⟨b, 0, none⟩)) (h : L P n ops Q rest (upd e d (.pointer (some ⟨b, off, none⟩))) w) : L P n ops Q (⟨some d, .fieldAddr t x k, tt, pp, af, g⟩ :: rest) e w :=
  L.fa hw hd rfl hx (by rw [Nat.zero_add]; exact h)
theorem K.ext {d : Nat} {x : Operand} {i : Nat} {vs : Array Value} {v : Value} (hw : wg n ops g e = true) (hd : Nat.blt d n = true) (hx : ev e x = .tuple vs) (hv : vs[i]? = some v) (h : L P n ops Q rest (upd e d v) w) : L P n ops Q (⟨some d, .extract x i, tt, pp, af, g⟩ :: rest) e w :=
  L.ext hw hd rfl hx hv h
theorem K.not_ {d : Nat} {x : Operand} {t : TypeId} {b : Bool} (hw : wg n ops g e = true) (hd : Nat.blt d n = true) (hx : ev e x = .bool b) (h : L P n ops Q rest (upd e d (.bool !b)) w) : L P n ops Q (⟨some d, .unOp .not t x, tt, pp, af, g⟩ :: rest) e w :=
  L.not_ hw hd rfl hx h
theorem K.cmp {d : Nat} {op : BinOp} {x y : Operand} {t u : TypeId} {k : IntKind} {a b : Int} {r : Bool} (hw : wg n ops g e = true) (hd : Nat.blt d n = true) (hx : ev e x = .int k a) (hy : ev e y = .int k b) (hr : cmpI op a b = some r) (h : L P n ops Q rest (upd e d (.bool r)) w) : L P n ops Q (⟨some d, .binOp op t x y u, tt, pp, af, g⟩ :: rest) e w :=
  L.cmp hw hd rfl hx hy hr h
theorem K.arith {d : Nat} {op : BinOp} {x y : Operand} {t u : TypeId} {k : IntKind} {a b : Int} (r : Int) (hw : wg n ops g e = true) (hd : Nat.blt d n = true) (hx : ev e x = .int k a) (hy : ev e y = .int k b) (hr : arI op k a b = some r) (h : L P n ops Q rest (upd e d (.int k r)) w) : L P n ops Q (⟨some d, .binOp op t x y u, tt, pp, af, g⟩ :: rest) e w :=
  L.arith r hw hd rfl hx hy hr h
theorem K.add {d : Nat} {x y : Operand} {t u : TypeId} {a b : Int} (hw : wg n ops g e = true) (hd : Nat.blt d n = true) (hx : ev e x = .int .i64 a) (hy : ev e y = .int .i64 b) (h1 : -9223372036854775808 ≤ a + b) (h2 : a + b ≤ 9223372036854775807) (h : L P n ops Q rest (upd e d (.int .i64 (a + b))) w) : L P n ops Q (⟨some d, .binOp .add t x y u, tt, pp, af, g⟩ :: rest) e w :=
  L.add hw hd rfl hx hy h1 h2 h
theorem K.sub {d : Nat} {x y : Operand} {t u : TypeId} {a b : Int} (hw : wg n ops g e = true) (hd : Nat.blt d n = true) (hx : ev e x = .int .i64 a) (hy : ev e y = .int .i64 b) (h1 : -9223372036854775808 ≤ a - b) (h2 : a - b ≤ 9223372036854775807) (h : L P n ops Q rest (upd e d (.int .i64 (a - b))) w) : L P n ops Q (⟨some d, .binOp .sub t x y u, tt, pp, af, g⟩ :: rest) e w :=
  L.sub hw hd rfl hx hy h1 h2 h
theorem K.mul {d : Nat} {x y : Operand} {t u : TypeId} {a b : Int} (hw : wg n ops g e = true) (hd : Nat.blt d n = true) (hx : ev e x = .int .i64 a) (hy : ev e y = .int .i64 b) (h1 : -9223372036854775808 ≤ a * b) (h2 : a * b ≤ 9223372036854775807) (h : L P n ops Q rest (upd e d (.int .i64 (a * b))) w) : L P n ops Q (⟨some d, .binOp .mul t x y u, tt, pp, af, g⟩ :: rest) e w :=
  L.mul hw hd rfl hx hy h1 h2 h
theorem K.rem {d : Nat} {x y : Operand} {t u : TypeId} {k : IntKind} {a b : Int} (hw : wg n ops g e = true) (hd : Nat.blt d n = true) (hx : ev e x = .int k a) (hy : ev e y = .int k b) (hb : b ≠ 0) (h : L P n ops Q rest (upd e d (.int k (a.tmod b))) w) : L P n ops Q (⟨some d, .binOp .rem t x y u, tt, pp, af, g⟩ :: rest) e w :=
  L.rem hw hd rfl hx hy hb h
theorem K.cmpS {d : Nat} {op : BinOp} {x y : Operand} {t u : TypeId} {a b : ByteArray} {r : Bool} (hw : wg n ops g e = true) (hd : Nat.blt d n = true) (hx : ev e x = .string a) (hy : ev e y = .string b) (hr : Own.cmpS op a b = some r) (h : L P n ops Q rest (upd e d (.bool r)) w) : L P n ops Q (⟨some d, .binOp op t x y u, tt, pp, af, g⟩ :: rest) e w :=
  L.cmpS hw hd rfl hx hy hr h
theorem K.cat {d : Nat} {x y : Operand} {t u : TypeId} {a b : ByteArray} (hw : wg n ops g e = true) (hd : Nat.blt d n = true) (hx : ev e x = .string a) (hy : ev e y = .string b) (hl : a.size + b.size ≤ 9223372036854775807) (h : L P n ops Q rest (upd e d (.string (a ++ b))) w) : L P n ops Q (⟨some d, .binOp .add t x y u, tt, pp, af, g⟩ :: rest) e w :=
  L.cat hw hd rfl hx hy hl h
theorem K.cmpB {d : Nat} {op : BinOp} {x y : Operand} {t u : TypeId} {a b : Bool} [T : BoolC P t] {r : Bool} (hw : wg n ops g e = true) (hd : Nat.blt d n = true) (hx : ev e x = .bool a) (hy : ev e y = .bool b) (hr : cmB op a b = some r) (h : L P n ops Q rest (upd e d (.bool r)) w) : L P n ops Q (⟨some d, .binOp op t x y u, tt, pp, af, g⟩ :: rest) e w :=
  L.cmpB hw hd rfl hx hy hr h
theorem K.nilP {d : Nat} {op : BinOp} {x y : Operand} {t u el : TypeId} {p : Option Addr} [T : PtrC P t el] {r : Bool} (hw : wg n ops g e = true) (hd : Nat.blt d n = true) (hx : ev e x = .pointer p) (hy : ev e y = .pointer none) (hr : cmP op p = some r) (h : L P n ops Q rest (upd e d (.bool r)) w) : L P n ops Q (⟨some d, .binOp op t x y u, tt, pp, af, g⟩ :: rest) e w :=
  L.nilP hw hd rfl hx hy hr h
theorem K.convI {d : Nat} {x : Operand} {t u : TypeId} {k j : IntKind} {a : Int} {dd : TypeDesc} (hs : P.underlying t = some dd) [T : IntC P u k] (hw : wg n ops g e = true) (hd : Nat.blt d n = true) (hx : ev e x = .int j a) (h : L P n ops Q rest (upd e d (.int k (k.wrap a))) w) : L P n ops Q (⟨some d, .convert t u x, tt, pp, af, g⟩ :: rest) e w :=
  L.convI hs hw hd rfl hx h
theorem K.len {d : Nat} {x : Operand} {t : TypeId} {a : Option Addr} {m c : Nat} {el : TypeId} {sz by_ : Nat} {zz : List Value} [E : ElC P t el sz by_ zz] (hw : wg n ops g e = true) (hd : Nat.blt d n = true) (hx : ev e x = .slice a m c) (h : L P n ops Q rest (upd e d (.int .i64 (m : Int))) w) : L P n ops Q (⟨some d, .call { callee := .builtin .len, args := #[x], argTypes := #[t] }, tt, pp, af, g⟩ :: rest) e w :=
  L.len (z := fun _ => true) hw hd rfl hx h
theorem K.lenS {d : Nat} {x : Operand} {t : TypeId} {b : ByteArray} [T : StrC P t] (hw : wg n ops g e = true) (hd : Nat.blt d n = true) (hx : ev e x = .string b) (h : L P n ops Q rest (upd e d (.int .i64 (b.size : Int))) w) : L P n ops Q (⟨some d, .call { callee := .builtin .len, args := #[x], argTypes := #[t] }, tt, pp, af, g⟩ :: rest) e w :=
  L.lenS hw hd rfl hx h
theorem K.fa {d : Nat} {x : Operand} {t : TypeId} {k off b j : Nat} [T : FldC P t k off] (hw : wg n ops g e = true) (hd : Nat.blt d n = true) (hx : ev e x = .pointer (some ⟨b, j, none⟩)) (h : L P n ops Q rest (upd e d (.pointer (some ⟨b, j + off, none⟩))) w) : L P n ops Q (⟨some d, .fieldAddr t x k, tt, pp, af, g⟩ :: rest) e w :=
  L.fa hw hd rfl hx h
theorem K.ia {d : Nat} {x y : Operand} {t el : TypeId} {gg off m c i sz by_ : Nat} {zz : List Value} {k : IntKind} {ii : Int} [E : ElC P t el sz by_ zz] (hw : wg n ops g e = true) (hd : Nat.blt d n = true) (hx : ev e x = .slice (some ⟨gg, off, none⟩) m c) (hy : ev e y = .int k ii) (hi : ii = (i : Int)) (hlt : i < m) (h : L P n ops Q rest (upd e d (.pointer (some ⟨gg, off + i * sz, none⟩))) w) : L P n ops Q (⟨some d, .indexAddr t x y, tt, pp, af, g⟩ :: rest) e w :=
  L.ia hw hd rfl hx hy hi hlt h
theorem K.iaA {d : Nat} {x y : Operand} {t : TypeId} {gg off len i sz : Nat} {one : Bool} {k : IntKind} {ii : Int} [A : ArrC P t len sz one] (hw : wg n ops g e = true) (hd : Nat.blt d n = true) (hx : ev e x = .pointer (some ⟨gg, off, none⟩)) (hy : ev e y = .int k ii) (hi : ii = (i : Int)) (hlt : i < len) (h : L P n ops Q rest (upd e d (.pointer (some ⟨gg, off + i * sz, none⟩))) w) : L P n ops Q (⟨some d, .indexAddr t x y, tt, pp, af, g⟩ :: rest) e w :=
  L.iaA hw hd rfl hx hy hi hlt h
theorem K.call {d : Nat} {f : FuncId} {xs : Array Operand} {ts : Array TypeId} {args : List Value} [F : FunC P f] (hw : wg n ops g e = true) (hd : Nat.blt d n = true) (hx : xs.toList.map (ev e) = args) (h : Calls P f args.toArray w fun x w' => ∃ v, x = .returned v ∧ L P n ops Q rest (upd e d v) w') : L P n ops Q (⟨some d, .call { callee := .value (.func f), args := xs, argTypes := ts }, tt, pp, af, g⟩ :: rest) e w :=
  L.call hw hd rfl hx h
theorem K.load {d : Nat} {ty : TypeId} {x : Operand} [OneC P ty] (i : Nat) {b off : Nat} {t : TypeId} {cs : List Value} {v : Value} (H : Holds s w rs) (hw : wg n ops g e = true) (hd : Nat.blt d n = true) (hx : ev e x = .pointer (some ⟨b, off, none⟩)) (hi : rs[i]? = some (var b t cs)) (hv : cs[off]? = some v) (h : L P n ops Q rest (upd e d v) w) : L P n ops Q (⟨some d, .load ty x, tt, pp, af, g⟩ :: rest) e w :=
  L.load i H hw hd rfl hx hi hv h
theorem K.loadAll {d : Nat} {ty : TypeId} {x : Operand} {k : Nat} [RowC P ty k] (i : Nat) {b : Nat} {t : TypeId} {cs : List Value} (H : Holds s w rs) (hw : wg n ops g e = true) (hd : Nat.blt d n = true) (hx : ev e x = .pointer (some ⟨b, 0, none⟩)) (hi : rs[i]? = some (var b t cs)) (hn : cs.length = k) (h : L P n ops Q rest (upd e d (.agg cs.toArray)) w) : L P n ops Q (⟨some d, .load ty x, tt, pp, af, g⟩ :: rest) e w :=
  L.loadAll i H hw hd rfl hx hi hn h
theorem K.loadPart {d : Nat} {ty : TypeId} {x : Operand} {k : Nat} [RowC P ty k] (i : Nat) {b off : Nat} {t : TypeId} {cs : List Value} (xs : List Value) (H : Holds s w rs) (hw : wg n ops g e = true) (hd : Nat.blt d n = true) (hx : ev e x = .pointer (some ⟨b, off, none⟩)) (hi : rs[i]? = some (var b t cs)) (hxs : (cs.drop off).take k = xs) (hn : xs.length = k) (h : L P n ops Q rest (upd e d (.agg xs.toArray)) w) : L P n ops Q (⟨some d, .load ty x, tt, pp, af, g⟩ :: rest) e w :=
  L.loadPart i xs H hw hd rfl hx hi hxs hn h
theorem K.loadS {d : Nat} {ty : TypeId} {x : Operand} [OneC P ty] {gg off off' : Nat} {v : Value} (H : Holds s w rs) (hp : Pin s gg off' v) (hw : wg n ops g e = true) (hd : Nat.blt d n = true) (hx : ev e x = .pointer (some ⟨gg, off, none⟩)) (he : off = off') (h : L P n ops Q rest (upd e d v) w) : L P n ops Q (⟨some d, .load ty x, tt, pp, af, g⟩ :: rest) e w :=
  L.loadS H hp hw hd rfl hx he h
theorem K.loadAllS {d : Nat} {ty : TypeId} {x : Operand} {k : Nat} [RowC P ty k] {gg off off' : Nat} {cs : List Value} (H : Holds s w rs) (hp : ∀ j v, cs[j]? = some v → Pin s gg (off' + j) v) (hw : wg n ops g e = true) (hd : Nat.blt d n = true) (hx : ev e x = .pointer (some ⟨gg, off, none⟩)) (he : off = off') (hn : cs.length = k) (h : L P n ops Q rest (upd e d (.agg cs.toArray)) w) : L P n ops Q (⟨some d, .load ty x, tt, pp, af, g⟩ :: rest) e w :=
  L.loadAllS H hp hw hd rfl hx he hn h
theorem K.loadR {d : Nat} {ty : TypeId} {x : Operand} [OneC P ty] (i : Nat) {gg off c m sz : Nat} {el : TypeId} {xs : List Value} {v : Value} (H : Holds s w rs) (hw : wg n ops g e = true) (hd : Nat.blt d n = true) (hx : ev e x = .pointer (some ⟨gg, off, none⟩)) (hi : rs[i]? = some (row el sz (.slice (some ⟨gg, 0, none⟩) m c) m xs)) (hv : xs[off]? = some v) (h : L P n ops Q rest (upd e d v) w) : L P n ops Q (⟨some d, .load ty x, tt, pp, af, g⟩ :: rest) e w :=
  L.loadR i H hw hd rfl hx hi hv h
theorem K.store {ty : TypeId} {x y : Operand} [T : OneC P ty] (i : Nat) {b off : Nat} {t : TypeId} {cs : List Value} {v : Value} (H : Holds s w rs) (hw : wg n ops g e = true) (hx : ev e x = .pointer (some ⟨b, off, none⟩)) (hi : rs[i]? = some (var b t cs)) (hy : ev e y = v) (h1 : v.oneCell' = true) (hl : Nat.blt off cs.length = true) (h : ∀ w', Holds s w' (rs.set i (var b t (cs.set off v))) → L P n ops Q rest e w') : L P n ops Q (⟨none, .store ty x y, tt, pp, af, g⟩ :: rest) e w :=
  L.store i H hw rfl rfl hx hi hy h1 hl h
theorem K.storeAll {ty : TypeId} {x y : Operand} {k : Nat} [T : RowC P ty k] (i : Nat) {b : Nat} {t : TypeId} {cs xs : List Value} (H : Holds s w rs) (hw : wg n ops g e = true) (hx : ev e x = .pointer (some ⟨b, 0, none⟩)) (hi : rs[i]? = some (var b t cs)) (hy : ev e y = .agg xs.toArray) (h1 : xs.all Value.oneCell' = true) (hn : xs.length = k) (hl : cs.length = k) (h : ∀ w', Holds s w' (rs.set i (var b t xs)) → L P n ops Q rest e w') : L P n ops Q (⟨none, .store ty x y, tt, pp, af, g⟩ :: rest) e w :=
  L.storeAll i H hw rfl rfl hx hi hy h1 hn hl h
theorem K.storeR {ty : TypeId} {x y : Operand} [T : OneC P ty] (i : Nat) {gg off c m sz : Nat} {el : TypeId} {xs : List Value} {v : Value} (H : Holds s w rs) (hw : wg n ops g e = true) (hx : ev e x = .pointer (some ⟨gg, off, none⟩)) (hi : rs[i]? = some (row el sz (.slice (some ⟨gg, 0, none⟩) m c) m xs)) (hy : ev e y = v) (h1 : v.oneCell' = true) (hl : off < xs.length) (h : ∀ w', Holds s w' (rs.set i (row el sz (.slice (some ⟨gg, 0, none⟩) m c) m (xs.set off v))) → L P n ops Q rest e w') : L P n ops Q (⟨none, .store ty x y, tt, pp, af, g⟩ :: rest) e w :=
  L.storeR i H hw rfl rfl hx hi hy h1 hl h
theorem K.box {d : Nat} {ty : TypeId} {x : Operand} {cs : List Value} (H : Holds s w rs) (hw : wg n ops g e = true) (hd : Nat.blt d n = true) (hx : ev e x = .agg cs.toArray) (h : ∀ b w', Holds s w' (var b ty cs :: rs) → L P n ops Q rest (upd e d (.pointer (some ⟨b, 0, none⟩))) w') : L P n ops Q (⟨some d, .box ty x, tt, pp, af, g⟩ :: rest) e w :=
  L.box H hw hd rfl hx h
theorem K.box1 {d : Nat} {ty : TypeId} {x : Operand} {v : Value} (H : Holds s w rs) (hw : wg n ops g e = true) (hd : Nat.blt d n = true) (hx : ev e x = v) (h1 : v.oneCell' = true) (h : ∀ b w', Holds s w' (var b ty [v] :: rs) → L P n ops Q rest (upd e d (.pointer (some ⟨b, 0, none⟩))) w') : L P n ops Q (⟨some d, .box ty x, tt, pp, af, g⟩ :: rest) e w :=
  L.box1 H hw hd rfl hx h1 h
theorem K.alloc {d : Nat} {ty : TypeId} {z : List Value} [T : ZeroC P ty z] (H : Holds s w rs) (hw : wg n ops g e = true) (hd : Nat.blt d n = true) (h : ∀ b w', Holds s w' (var b ty z :: rs) → L P n ops Q rest (upd e d (.pointer (some ⟨b, 0, none⟩))) w') : L P n ops Q (⟨some d, .alloc ty, tt, pp, af, g⟩ :: rest) e w :=
  L.alloc H hw hd rfl h
theorem K.empty {d : Nat} {t el : TypeId} {size bytes : Nat} {z : List Value} [E : ElC P t el size bytes z] (H : Holds s w rs) (hw : wg n ops g e = true) (hd : Nat.blt d n = true) (h : ∀ gg w', Holds s w' (row el size (.slice (some ⟨gg, 0, none⟩) 0 0) 0 [] :: rs) → L P n ops Q rest (upd e d (.slice (some ⟨gg, 0, none⟩) 0 0)) w') : L P n ops Q (⟨some d, .buildSlice t 0 #[], tt, pp, af, g⟩ :: rest) e w :=
  L.empty H hw hd rfl h
theorem K.one {d : Nat} {t el : TypeId} {size bytes : Nat} {z : List Value} [E : ElC P t el size bytes z] {x : Operand} {cs : List Value} (H : Holds s w rs) (hsm : Nat.ble size 16777216 = true) (hd : Nat.blt d n = true) {v : Value} (hx : ev e x = v) (hcs : v.cells = cs.toArray) (hv : cs.length = size) (h : ∀ gg w', Holds s w' (row el size (.slice (some ⟨gg, 0, none⟩) 1 1) 1 cs :: rs) → L P n ops Q rest (upd e d (.slice (some ⟨gg, 0, none⟩) 1 1)) w') : L P n ops Q (⟨some d, .buildSlice t 1 #[(0, x)], tt, pp, af, none⟩ :: rest) e w :=
  L.one H hsm rfl hd rfl hx hcs hv h
theorem K.app {d : Nat} {t el : TypeId} {size bytes : Nat} {z : List Value} [E : ElC P t el size bytes z] {x y : Operand} (i : Nat) {v xv : Value} {k m : Nat} {xs news : List Value} (H : Holds s w rs) (hi : rs[i]? = some (row el size v k xs)) (hsrc : Src s rs xv size m news) (h1 : ∀ u ∈ news, u.oneCell' = true) (h63 : k + m ≤ maxLen) (hbytes : (k + m) * bytes ≤ 140737488355328) (hd : Nat.blt d n = true) (hx : ev e x = v) (hy : ev e y = xv) (h : ∀ aa cc w', Holds s w' (rs.set i (row el size (.slice aa (k + m) cc) (k + m) (xs ++ news))) → L P n ops Q rest (upd e d (.slice aa (k + m) cc)) w') : L P n ops Q (⟨some d, .call { callee := .builtin .append, args := #[x, y], argTypes := #[t, t] }, tt, pp, af, none⟩ :: rest) e w :=
  L.app i H hi hsrc h1 h63 hbytes rfl hd rfl hx hy h
theorem K.make {d : Nat} {t el : TypeId} {size bytes : Nat} {z : List Value} [E : ElC P t el size bytes z] {l c : Operand} {k m : Nat} {kk kk' : IntKind} {ik im : Int} (H : Holds s w rs) (hd : Nat.blt d n = true) (hl : ev e l = .int kk ik) (hc : ev e c = .int kk' im) (hik : ik = (k : Int)) (him : im = (m : Int)) (hnm : k ≤ m) (hm : bytes * m ≤ 140737488355328) (hmx : m ≤ maxLen) (h : ∀ gg w', Holds s w' (row el size (.slice (some ⟨gg, 0, none⟩) k m) k (List.replicate k z).flatten :: rs) → L P n ops Q rest (upd e d (.slice (some ⟨gg, 0, none⟩) k m)) w') : L P n ops Q (⟨some d, .makeSlice t l c, tt, pp, af, none⟩ :: rest) e w :=
  L.make H rfl hd rfl hl hc hik him hnm hm hmx h
theorem K.str {d : Nat} {x : Operand} {t u : TypeId} [T : BytesC P t] [U : StrC P u] {v : Value} {l : List UInt8} (H : Holds s w rs) (hb : Src s rs v 1 l.length (u8s l)) (hw : wg n ops g e = true) (hd : Nat.blt d n = true) (hx : ev e x = v) (h : L P n ops Q rest (upd e d (.string ⟨l.toArray⟩)) w) : L P n ops Q (⟨some d, .convert t u x, tt, pp, af, g⟩ :: rest) e w :=
  L.str H hb hw hd rfl hx h
end
end Go.Own

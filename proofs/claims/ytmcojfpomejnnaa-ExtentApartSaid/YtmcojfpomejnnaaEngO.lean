/- The rules of the quick walk, operation by operation. Over any program. -/
import Derived.Test.YtmcojfpomejnnaaEng
import Derived.IntWalk
set_option linter.unusedSimpArgs false
set_option linter.unusedVariables false
namespace Go.Own
open Go Go.RowKit

class FldC (P : Program) (t : TypeId) (k : Nat) (off : outParam Nat) : Prop where
  fld : ∃ fs f, P.underlying t = some (.struct fs) ∧ fs[k]? = some f ∧ f.offset = off ∧ ∃ z, (P.info? f.type).map (·.size) = some (z + 1)
class FldV (P : Program) (t : TypeId) (k : Nat) (off size : outParam Nat) (one : outParam Bool) : Prop where
  fld : ∃ fs f d, P.underlying t = some (.struct fs) ∧ fs[k]? = some f ∧ f.offset = off ∧ (P.info? f.type).map (·.size) = some size ∧ P.underlying f.type = some d ∧ d.isRow = !one
class ArrC (P : Program) (t : TypeId) (len : outParam Nat) (size : outParam Nat) (one : outParam Bool) : Prop where
  arr : ∃ e d, P.underlying t = some (.array len e) ∧ (P.info? e).map (·.size) = some size ∧ P.underlying e = some d ∧ d.isRow = !one
class IntC (P : Program) (t : TypeId) (k : outParam IntKind) : Prop where
  int : P.underlying t = some (.int k)
class BoolC (P : Program) (t : TypeId) : Prop where
  bool : P.underlying t = some .bool
class PtrC (P : Program) (t : TypeId) (e : outParam TypeId) : Prop where
  ptr : P.underlying t = some (.pointer e)
class FunC (P : Program) (f : FuncId) : Prop where
  fn : ∃ fn c, P.funcs[f]? = some fn ∧ (fn.name == "runtime.NumGoroutine") = false ∧ fn.body = some c

section
variable {P : Program} {n : Nat} {ops : Array Oper} {Q : Post} {rest : List Oper} {o : Oper} {e : Env} {w w' : World} {s : Ro} {rs : List Asn}

theorem L.val (v : Value) (w' : World) (hw : wn n ops o e = true) (hd : okD n o.dst = true) (hr : (execOp (ev e) o).run P w = .ok (.value v) w') (h : L P n ops Q rest (put e o.dst v) w') : L P n ops Q (o :: rest) e w :=
  ⟨fun a ha => wpList_step fun K hK => by
    rw [ha.wn, if_pos hw]
    unfold Oper.wp
    rw [ha.eval, hr]
    exact hK _ _ (h.go _ (ha.put hd v))⟩
theorem L.eff (w' : World) (hw : wn n ops o e = true) (hd : okD n o.dst = true) (hr : (execOp (ev e) o).run P w = .ok .skip w') (h : L P n ops Q rest (put e o.dst undef) w') : L P n ops Q (o :: rest) e w :=
  ⟨fun a ha => wpList_step fun K hK => by
    rw [ha.wn, if_pos hw]
    unfold Oper.wp
    rw [ha.eval, hr]
    exact hK _ _ (h.go _ (ha.put hd _))⟩
theorem L.not (hw : wn n ops o e = false) (hd : okD n o.dst = true) (h : L P n ops Q rest (put e o.dst undef) w) : L P n ops Q (o :: rest) e w :=
  ⟨fun a ha => wpList_step fun K hK => by
    rw [ha.wn, if_neg (by rw [hw]; simp)]
    exact hK _ _ (h.go _ (ha.put hd _))⟩
/-- a rule of the walk over lists, taken over -/
theorem L.of (h : ∀ a, Fr n a e → wpList P ops (lift n Q) (o :: rest) a w) : L P n ops Q (o :: rest) e w := ⟨h⟩

theorem run_v {ρ : Operand → Value} {sm : Sem Value} {v : Value} (he : execOp ρ o = (do pure (.value (← sm)))) (hr : sm.run P w = .ok v w') : (execOp ρ o).run P w = .ok (.value v) w' := by
  rw [he]; simp [Sem.run_bind, hr]

/-! ### values alone -/
def lenV : Value → Option Value
  | .slice _ n _ => some (.int .i64 (n : Int))
  | .string s => some (.int .i64 (s.size : Int))
  | _ => none
def cmpI (op : BinOp) (a b : Int) : Option Bool := match op with
  | .eql => some (a == b)
  | .neq => some (a != b)
  | .lss => some (decide (a < b))
  | .leq => some (decide (a ≤ b))
  | .gtr => some (decide (a > b))
  | .geq => some (decide (a ≥ b))
  | _ => none
def cmpS (op : BinOp) (a b : ByteArray) : Option Bool := match op with
  | .eql => some (a.toList == b.toList)
  | .neq => some (!(a.toList == b.toList))
  | _ => none

def arI (op : BinOp) (k : IntKind) (a b : Int) : Option Int := match op with
  | .add => some (k.wrap (a + b))
  | .sub => some (k.wrap (a - b))
  | .mul => some (k.wrap (a * b))
  | _ => none
def cmB (op : BinOp) (a b : Bool) : Option Bool := match op with
  | .eql => some (a == b)
  | .neq => some (!(a == b))
  | _ => none
def cmP (op : BinOp) (p : Option Addr) : Option Bool := match op with
  | .eql => some p.isNone
  | .neq => some (!p.isNone)
  | _ => none
theorem L.mv {x : Operand} (hw : wn n ops o e = true) (hd : okD n o.dst = true) (ho : o.op = .move x) (h : L P n ops Q rest (put e o.dst (ev e x)) w) : L P n ops Q (o :: rest) e w :=
  L.val _ w hw hd (by unfold execOp; rw [ho]; simp) h
theorem L.asg {x : Operand} (hw : wn n ops o e = true) (hd : okD n o.dst = true) (ho : o.op = .assign x) (h : L P n ops Q rest (put e o.dst (ev e x)) w) : L P n ops Q (o :: rest) e w :=
  L.val _ w hw hd (by unfold execOp; rw [ho]; simp) h
theorem L.pickT {c x y : Operand} (hw : wn n ops o e = true) (hd : okD n o.dst = true) (ho : o.op = .pick c x y) (hc : ev e c = .bool true) (h : L P n ops Q rest (put e o.dst (ev e x)) w) : L P n ops Q (o :: rest) e w :=
  L.val _ w hw hd (by unfold execOp; rw [ho]; simp [hc, asBool]) h
theorem L.pickF {c x y : Operand} (hw : wn n ops o e = true) (hd : okD n o.dst = true) (ho : o.op = .pick c x y) (hc : ev e c = .bool false) (h : L P n ops Q rest (put e o.dst (ev e y)) w) : L P n ops Q (o :: rest) e w :=
  L.val _ w hw hd (by unfold execOp; rw [ho]; simp [hc, asBool]) h
theorem L.ext {x : Operand} {i : Nat} {vs : Array Value} {v : Value} (hw : wn n ops o e = true) (hd : okD n o.dst = true) (ho : o.op = .extract x i) (hx : ev e x = .tuple vs) (hv : vs[i]? = some v) (h : L P n ops Q rest (put e o.dst v) w) : L P n ops Q (o :: rest) e w :=
  L.val _ w hw hd (by unfold execOp; rw [ho]; simp [hx, Instr.extract, hv]) h
theorem L.not_ {x : Operand} {t : TypeId} {b : Bool} (hw : wn n ops o e = true) (hd : okD n o.dst = true) (ho : o.op = .unOp .not t x) (hx : ev e x = .bool b) (h : L P n ops Q rest (put e o.dst (.bool !b)) w) : L P n ops Q (o :: rest) e w :=
  L.val _ w hw hd (by unfold execOp; rw [ho]; simp [hx, Op.unary]) h
theorem L.cmp {op : BinOp} {x y : Operand} {t u : TypeId} {k : IntKind} {a b : Int} {r : Bool} (hw : wn n ops o e = true) (hd : okD n o.dst = true) (ho : o.op = .binOp op t x y u) (hx : ev e x = .int k a) (hy : ev e y = .int k b) (hr : cmpI op a b = some r) (h : L P n ops Q rest (put e o.dst (.bool r)) w) : L P n ops Q (o :: rest) e w :=
  L.val _ w hw hd (by
    unfold execOp; rw [ho]
    cases op <;> simp only [cmpI, Option.some.injEq, reduceCtorEq] at hr <;> subst hr <;> simp [hx, hy, eqGuard, binOp, Op.intCmp]) h
theorem L.arith {op : BinOp} {x y : Operand} {t u : TypeId} {k : IntKind} {a b : Int} (r : Int) (hw : wn n ops o e = true) (hd : okD n o.dst = true) (ho : o.op = .binOp op t x y u) (hx : ev e x = .int k a) (hy : ev e y = .int k b)
    (hr : arI op k a b = some r) (h : L P n ops Q rest (put e o.dst (.int k r)) w) : L P n ops Q (o :: rest) e w :=
  L.val _ w hw hd (by
    unfold execOp; rw [ho]
    cases op <;> simp only [arI, cmB, cmP, Option.some.injEq, reduceCtorEq] at hr <;> subst hr <;> simp [hx, hy, eqGuard, binOp, Op.intArith]) h
theorem L.add {x y : Operand} {t u : TypeId} {a b : Int} (hw : wn n ops o e = true) (hd : okD n o.dst = true) (ho : o.op = .binOp .add t x y u) (hx : ev e x = .int .i64 a) (hy : ev e y = .int .i64 b)
    (h1 : -9223372036854775808 ≤ a + b) (h2 : a + b ≤ 9223372036854775807) (h : L P n ops Q rest (put e o.dst (.int .i64 (a + b))) w) : L P n ops Q (o :: rest) e w :=
  L.arith (a + b) hw hd ho hx hy (by simp only [arI, Option.some.injEq]; exact IntWalk.i64_in _ (by omega)) h
theorem L.sub {x y : Operand} {t u : TypeId} {a b : Int} (hw : wn n ops o e = true) (hd : okD n o.dst = true) (ho : o.op = .binOp .sub t x y u) (hx : ev e x = .int .i64 a) (hy : ev e y = .int .i64 b)
    (h1 : -9223372036854775808 ≤ a - b) (h2 : a - b ≤ 9223372036854775807) (h : L P n ops Q rest (put e o.dst (.int .i64 (a - b))) w) : L P n ops Q (o :: rest) e w :=
  L.arith (a - b) hw hd ho hx hy (by simp only [arI, Option.some.injEq]; exact IntWalk.i64_in _ (by omega)) h
theorem L.mul {x y : Operand} {t u : TypeId} {a b : Int} (hw : wn n ops o e = true) (hd : okD n o.dst = true) (ho : o.op = .binOp .mul t x y u) (hx : ev e x = .int .i64 a) (hy : ev e y = .int .i64 b)
    (h1 : -9223372036854775808 ≤ a * b) (h2 : a * b ≤ 9223372036854775807) (h : L P n ops Q rest (put e o.dst (.int .i64 (a * b))) w) : L P n ops Q (o :: rest) e w :=
  L.arith (a * b) hw hd ho hx hy (by simp only [arI, Option.some.injEq]; exact IntWalk.i64_in _ (by omega)) h
theorem L.rem {x y : Operand} {t u : TypeId} {k : IntKind} {a b : Int} (hw : wn n ops o e = true) (hd : okD n o.dst = true) (ho : o.op = .binOp .rem t x y u) (hx : ev e x = .int k a) (hy : ev e y = .int k b) (hb : b ≠ 0) (h : L P n ops Q rest (put e o.dst (.int k (a.tmod b))) w) : L P n ops Q (o :: rest) e w :=
  L.val _ w hw hd (by
    unfold execOp; rw [ho]
    simp [hx, hy, eqGuard, binOp, Op.intDiv, hb]) h
theorem L.cmpS {op : BinOp} {x y : Operand} {t u : TypeId} {a b : ByteArray} {r : Bool} (hw : wn n ops o e = true) (hd : okD n o.dst = true) (ho : o.op = .binOp op t x y u) (hx : ev e x = .string a) (hy : ev e y = .string b) (hr : Own.cmpS op a b = some r) (h : L P n ops Q rest (put e o.dst (.bool r)) w) : L P n ops Q (o :: rest) e w :=
  L.val _ w hw hd (by
    unfold execOp; rw [ho]
    cases op <;> simp only [Own.cmpS, Option.some.injEq, reduceCtorEq] at hr <;> subst hr <;> simp [hx, hy, eqGuard, binOp, Op.stringOp]) h
theorem L.cat {x y : Operand} {t u : TypeId} {a b : ByteArray} (hw : wn n ops o e = true) (hd : okD n o.dst = true) (ho : o.op = .binOp .add t x y u) (hx : ev e x = .string a) (hy : ev e y = .string b) (hl : a.size + b.size ≤ 9223372036854775807) (h : L P n ops Q rest (put e o.dst (.string (a ++ b))) w) : L P n ops Q (o :: rest) e w :=
  L.val _ w hw hd (by
    unfold execOp; rw [ho]
    have : ¬ (((a.size + b.size : Nat) : Int) > IntKind.i64.max) := by show ¬ (_ > (9223372036854775807 : Int)); omega
    simp only [hx, hy, eqGuard, binOp, Op.stringOp, this, if_false]
    simp) h
theorem run_eqB {t : TypeId} (hT : P.underlying t = some .bool) (a b : Bool) : (Op.equal t (.bool a) (.bool b)).run P w = .ok (a == b) w := by
  unfold Op.equal
  obtain ⟨d, hd⟩ : ∃ d, Op.maxDepth = d + 1 := ⟨_, rfl⟩
  rw [hd]; unfold Op.equalIn
  simp [run_underlying hT]
theorem run_eqP {t el : TypeId} (hT : P.underlying t = some (.pointer el)) (p : Option Addr) : (Op.equal t (.pointer p) (.pointer none)).run P w = .ok p.isNone w := by
  unfold Op.equal
  obtain ⟨d, hd⟩ : ∃ d, Op.maxDepth = d + 1 := ⟨_, rfl⟩
  rw [hd]; unfold Op.equalIn
  cases p <;> simp [run_underlying hT]
theorem L.cmpB {op : BinOp} {x y : Operand} {t u : TypeId} {a b : Bool} [T : BoolC P t] {r : Bool} (hw : wn n ops o e = true) (hd : okD n o.dst = true) (ho : o.op = .binOp op t x y u) (hx : ev e x = .bool a) (hy : ev e y = .bool b) (hr : cmB op a b = some r) (h : L P n ops Q rest (put e o.dst (.bool r)) w) : L P n ops Q (o :: rest) e w :=
  L.val _ w hw hd (by
    unfold execOp; rw [ho]
    cases op <;> simp only [arI, cmB, cmP, Option.some.injEq, reduceCtorEq] at hr <;> subst hr <;> simp [hx, hy, eqGuard, binOp, run_eqB T.bool]) h
/-- a pointer against nil -/
theorem L.nilP {op : BinOp} {x y : Operand} {t u el : TypeId} {p : Option Addr} [T : PtrC P t el] {r : Bool} (hw : wn n ops o e = true) (hd : okD n o.dst = true) (ho : o.op = .binOp op t x y u) (hx : ev e x = .pointer p) (hy : ev e y = .pointer none) (hr : cmP op p = some r) (h : L P n ops Q rest (put e o.dst (.bool r)) w) : L P n ops Q (o :: rest) e w :=
  L.val _ w hw hd (by
    unfold execOp; rw [ho]
    cases op <;> simp only [arI, cmB, cmP, Option.some.injEq, reduceCtorEq] at hr <;> subst hr <;> simp [hx, hy, eqGuard, binOp, run_eqP T.ptr]) h
theorem L.convI {x : Operand} {t u : TypeId} {k j : IntKind} {a : Int} {d : TypeDesc} (hs : P.underlying t = some d) [T : IntC P u k] (hw : wn n ops o e = true) (hd : okD n o.dst = true) (ho : o.op = .convert t u x) (hx : ev e x = .int j a) (h : L P n ops Q rest (put e o.dst (.int k (k.wrap a))) w) : L P n ops Q (o :: rest) e w :=
  L.val _ w hw hd (run_v (sm := convert t u (ev e x)) (by unfold execOp; rw [ho]) (by
    rw [hx]
    simp [convert, run_underlying hs, run_underlying T.int, Conv.intToInt])) h
theorem L.len {x : Operand} {t : TypeId} {z : Array Value → Bool} {a : Option Addr} {m c : Nat} {el : TypeId} {sz by_ : Nat} {zz : List Value} [E : ElC P t el sz by_ zz] (hw : wn n ops o e = true) (hd : okD n o.dst = true) (ho : o.op = .call { callee := .builtin .len, args := #[x], argTypes := #[t] }) (hx : ev e x = .slice a m c) (h : L P n ops Q rest (put e o.dst (.int .i64 (m : Int))) w) : L P n ops Q (o :: rest) e w := by
  obtain ⟨v, E', _⟩ := E.el
  exact L.val _ w hw hd (by
    unfold execOp; rw [ho]
    simp [resolve, invoke, builtin, Builtin.len_, hx, run_underlying E'.slice, goInt]) h
theorem L.lenS {x : Operand} {t : TypeId} {b : ByteArray} [T : StrC P t] (hw : wn n ops o e = true) (hd : okD n o.dst = true) (ho : o.op = .call { callee := .builtin .len, args := #[x], argTypes := #[t] }) (hx : ev e x = .string b) (h : L P n ops Q rest (put e o.dst (.int .i64 (b.size : Int))) w) : L P n ops Q (o :: rest) e w :=
  L.val _ w hw hd (by
    unfold execOp; rw [ho]
    simp [resolve, invoke, builtin, Builtin.len_, hx, run_underlying T.str, goInt]) h

/-! ### addresses -/
theorem L.fa {x : Operand} {t : TypeId} {k off b j : Nat} [T : FldC P t k off] (hw : wn n ops o e = true) (hd : okD n o.dst = true) (ho : o.op = .fieldAddr t x k) (hx : ev e x = .pointer (some ⟨b, j, none⟩)) (h : L P n ops Q rest (put e o.dst (.pointer (some ⟨b, j + off, none⟩))) w) : L P n ops Q (o :: rest) e w := by
  obtain ⟨fs, f, h1, h2, h3, z, h4⟩ := T.fld
  refine L.val _ w hw hd (run_v (sm := Instr.fieldAt t (ev e x) k) (by unfold execOp; rw [ho]) ?_) h
  cases hq : P.info? f.type with
  | none => simp [hq] at h4
  | some i =>
    simp [hq] at h4
    simp only [Instr.fieldAt, Sem.run_bind, run_underlying h1, Result.andThen_ok, h2, hx, Instr.sureAddr, Sem.run_pure, fieldPlace, sizeOf, typeInfo]
    subst h3
    simp [hq, h4, Addr.add]
theorem L.ia {x y : Operand} {t el : TypeId} {g off m c i sz by_ : Nat} {zz : List Value} {k : IntKind} {ii : Int} [E : ElC P t el sz by_ zz] (hw : wn n ops o e = true) (hd : okD n o.dst = true) (ho : o.op = .indexAddr t x y) (hx : ev e x = .slice (some ⟨g, off, none⟩) m c) (hy : ev e y = .int k ii) (hi : ii = (i : Int)) (hlt : i < m) (h : L P n ops Q rest (put e o.dst (.pointer (some ⟨g, off + i * sz, none⟩))) w) : L P n ops Q (o :: rest) e w := by
  subst hi
  obtain ⟨v, E', _⟩ := E.el
  obtain ⟨inf, h1, h2, h3, h4⟩ := E'.info
  refine L.val _ w hw hd (run_v (sm := Instr.indexAt t (ev e x) (ev e y)) (by unfold execOp; rw [ho]) ?_) h
  rw [hx, hy]
  have hc : (0 ≤ (i : Int) ∧ (i : Int) < (m : Int)) := by omega
  simp [Instr.indexAt, asIntOf, run_underlying E'.slice, hlt, sizeOf, typeInfo, h1, h3, Addr.add_mid]
theorem L.iaA {x y : Operand} {t : TypeId} {g off len i sz : Nat} {one : Bool} {k : IntKind} {ii : Int} [A : ArrC P t len sz one] (hw : wn n ops o e = true) (hd : okD n o.dst = true) (ho : o.op = .indexAddr t x y) (hx : ev e x = .pointer (some ⟨g, off, none⟩)) (hy : ev e y = .int k ii) (hi : ii = (i : Int)) (hlt : i < len) (h : L P n ops Q rest (put e o.dst (.pointer (some ⟨g, off + i * sz, none⟩))) w) : L P n ops Q (o :: rest) e w := by
  subst hi
  obtain ⟨el, d, h1, h2, h3, h4⟩ := A.arr
  refine L.val _ w hw hd (run_v (sm := Instr.indexAt t (ev e x) (ev e y)) (by unfold execOp; rw [ho]) ?_) h
  rw [hx, hy]
  cases hq : P.info? el with
  | none => simp [hq] at h2
  | some inf =>
    simp [hq] at h2
    simp [Instr.indexAt, asIntOf, run_underlying h1, hlt, sizeOf, typeInfo, hq, h2, Addr.add_mid, Instr.sureAddr]

/-! ### calls -/
theorem L.call {f : FuncId} {xs : Array Operand} {ts : Array TypeId} {args : List Value} [F : FunC P f] (hw : wn n ops o e = true) (hd : okD n o.dst = true) (ho : o.op = .call { callee := .value (.func f), args := xs, argTypes := ts }) (hx : xs.toList.map (ev e) = args)
    (h : Calls P f args.toArray w fun x w' => ∃ v, x = .returned v ∧ L P n ops Q rest (put e o.dst v) w') : L P n ops Q (o :: rest) e w := by
  obtain ⟨fn, c, h1, h2, h3⟩ := F.fn
  refine ⟨fun a ha => wpList_step fun K hK => ?_⟩
  rw [ha.wn, if_pos hw]
  have hargs : xs.map a.eval = args.toArray := by
    apply Array.toList_inj.1
    rw [Array.toList_map, ha.eval, hx]
  have hr : (execOp a.eval o).run P w = .ok (.enter f args.toArray) w := by
    unfold execOp; rw [ho]
    simp only [resolve, Act.eval, Deferred.ofValue, Sem.run_bind, Sem.run_pure, Result.andThen_ok, invoke, callFunc]
    have : xs.map (fun x => a.eval x) = args.toArray := hargs
    simp [h1, h2, h3, hargs]
    simpa using h2
  unfold Oper.wp
  rw [hr]
  exact h.mono fun x w' ⟨v, hx', hl⟩ => by subst hx'; exact hK _ _ (hl.go _ (ha.put hd v))
end
end Go.Own

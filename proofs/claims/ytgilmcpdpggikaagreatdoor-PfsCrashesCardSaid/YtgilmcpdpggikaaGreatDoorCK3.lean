/- Squeezed copy of the texts K3. -/
import Derived.Test.YtgilmcpdpggikaaGreatDoorCK2
import Derived.Deep.LoopGhost
import Derived.IntWalk
import Derived.Test.YtgilmcpdpggikaaGreatDoorCK1
set_option maxRecDepth 100000
set_option maxHeartbeats 1000000
set_option linter.unusedSimpArgs false
set_option linter.unusedVariables false
namespace Go.Own
open Go Go.RowKit
abbrev Env := Nat → Value
def upd (e : Env) (d : Nat) (v : Value) : Env := fun t => bif Nat.beq t d then v else e t
def put (e : Env) (d : Option Nat) (v : Value) : Env := match d with
 | none => e
 | some d => upd e d v
def ev (e : Env) (x : Operand) : Value := match x with
 | .tmp t => e t
 | .const v => v
 | .global g => .pointer (some ⟨g, 0, none⟩)
 | .func f => .func (.func f) #[] #[]
def envOf (a : Act) : Env := fun t => a.tmps.getD t undef
structure Fr (n : Nat) (a : Act) (e : Env) : Prop where
 size : a.tmps.size = n
 defers : a.defers = []
 env : envOf a = e
def okD (n : Nat) (d : Option Nat) : Bool := match d with
 | none => true
 | some d => Nat.blt d n
theorem Fr.eval {n : Nat} {a : Act} {e : Env} (h : Fr n a e) : a.eval = ev e := by
 funext x
 cases x with
 | tmp t => show a.tmps.getD t undef = e t; rw [← h.env]; rfl
 | const v => rfl
 | global g => rfl
 | func f => rfl
theorem Fr.put {n : Nat} {a : Act} {e : Env} (h : Fr n a e) {d : Option Nat} (hd : okD n d = true) (v : Value) : Fr n (a.put d v) (put e d v) := by
 cases d with
 | none => exact h
 | some d =>
  have hlt : d < n := by simpa [okD, Nat.blt_eq] using hd
  refine ⟨by simp [Act.put, h.size], by simpa [Act.put] using h.defers, ?_⟩
  funext t
  simp only [envOf, Act.put, Own.put, upd]
  have he : e t = a.tmps.getD t undef := by rw [← h.env]; rfl
  rw [he]
  by_cases htd : t = d
  ·subst htd
   have : t < a.tmps.size := by rw [h.size]; exact hlt
   simp [Array.getD_eq_getD_getElem?, this]
  ·have hb : Nat.beq t d = false := by
    cases hc : Nat.beq t d with
    | false => rfl
    | true => exact absurd (Nat.eq_of_beq_eq_true hc) htd
   rw [hb]
   simp [Array.getD_eq_getD_getElem?, Array.getElem?_setIfInBounds, Ne.symm htd]
def yl (n : Nat) (ops : Array Oper) (e : Env) (j : Nat) : Option Bool :=
 match (ops[j]?).bind (·.dst) with
 | none => none
 | some d => bif Nat.blt d n then (match e d with | .bool b => some b | _ => none) else none
def wn (n : Nat) (ops : Array Oper) (o : Oper) (e : Env) : Bool :=
 match o.guard with
 | none => true
 | some (j, want) => yl n ops e j == some want
theorem Fr.yl {n : Nat} {a : Act} {e : Env} (h : Fr n a e) (ops : Array Oper) : yielded ops a.tmps = Own.yl n ops e := by
 funext j
 unfold yielded Own.yl
 cases hd : (ops[j]?).bind (·.dst) with
 | none => rfl
 | some d =>
  have he : e d = a.tmps.getD d undef := by rw [← h.env]; rfl
  simp only [Option.bind_some]
  by_cases hlt : d < n
  ·have : d < a.tmps.size := by rw [h.size]; exact hlt
   have hb : Nat.blt d n = true := by simpa [Nat.blt_eq] using hlt
   rw [he, hb]
   simp only [Array.getD_eq_getD_getElem?, Array.getElem?_eq_getElem this, Option.getD_some, cond_true]
   cases a.tmps[d] <;> rfl
  ·have hb : Nat.blt d n = false := by
    cases hc : Nat.blt d n with
    | false => rfl
    | true => exact absurd (by simpa [Nat.blt_eq] using hc) hlt
   have : a.tmps[d]? = none := by rw [Array.getElem?_eq_none_iff, h.size]; exact Nat.le_of_not_lt hlt
   rw [this, hb]; rfl
theorem Fr.wn {n : Nat} {a : Act} {e : Env} (h : Fr n a e) (ops : Array Oper) (o : Oper) : Region.wanted o (yielded ops a.tmps) = Own.wn n ops o e := by
 unfold Region.wanted Own.wn
 rw [h.yl ops]
 cases o.guard <;> rfl
abbrev Post := Exit → Env → World → Prop
def lift (n : Nat) (Q : Post) : Exit → Act → World → Prop := fun x a w => ∃ e, Fr n a e ∧ Q x e w
structure L (P : Program) (n : Nat) (ops : Array Oper) (Q : Post) (l : List Oper) (e : Env) (w : World) : Prop where
 go : ∀ a, Fr n a e → wpList P ops (lift n Q) l a w
structure C (P : Program) (n : Nat) (Q : Post) (c : Code) (e : Env) (w : World) : Prop where
 go : ∀ a, Fr n a e → c.wp P (lift n Q) a w
def thenE (K : Env → World → Prop) (Q : Post) : Post := fun x => match x with
 | .normal => K
 | x => Q x
def blockE (id : Nat) (Q : Post) : Post := fun x => match x with
 | .exit i => bif Nat.beq i id then Q .normal else Q (.exit i)
 | x => Q x
section
variable {P : Program} {n : Nat} {ops : Array Oper} {Q : Post} {rest : List Oper} {o : Oper} {e : Env} {w w' : World}
theorem C.seq {x y : Code} (h : C P n (thenE (C P n Q y) Q) x e w) : C P n Q (.seq x y) e w :=
 ⟨fun a ha => wp_seq (Code.wp_mono (fun ex a' w' ⟨e', fr, hq⟩ => by
  cases ex <;> first | exact hq.go a' fr | exact ⟨e', fr, hq⟩) (h.go a ha))⟩
theorem C.skip (h : Q .normal e w) : C P n Q .skip e w := ⟨fun a ha => wp_skip ⟨e, ha, h⟩⟩
theorem C.exit {id : Nat} (h : Q (.exit id) e w) : C P n Q (.exit id) e w := ⟨fun a ha => wp_exit ⟨e, ha, h⟩⟩
theorem C.ret (h : Q .ret e w) : C P n Q .ret e w := ⟨fun a ha => wp_ret ⟨e, ha, h⟩⟩
theorem C.tru {c : Operand} {x y : Code} (hc : ev e c = .bool true) (h : C P n Q x e w) : C P n Q (.cond c x y) e w :=
 ⟨fun a ha => wp_cond_true (by rw [ha.eval]; exact hc) (h.go a ha)⟩
theorem C.fls {c : Operand} {x y : Code} (hc : ev e c = .bool false) (h : C P n Q y e w) : C P n Q (.cond c x y) e w :=
 ⟨fun a ha => wp_cond_false (by rw [ha.eval]; exact hc) (h.go a ha)⟩
theorem C.ite {c : Operand} {x y : Code} {t : Bool} (hc : ev e c = .bool t) (h1 : t = true → C P n Q x e w) (h2 : t = false → C P n Q y e w) : C P n Q (.cond c x y) e w := by
 cases t with
 | true => exact C.tru hc (h1 rfl)
 | false => exact C.fls hc (h2 rfl)
theorem C.block {id : Nat} {c : Code} (h : C P n (blockE id Q) c e w) : C P n Q (.block id c) e w :=
 ⟨fun a ha => wp_block (Code.wp_mono (fun ex a' w' ⟨e', fr, hq⟩ => by
  cases ex with
  | exit i =>
   show Exit.inBlock id (lift n Q) (.exit i) a' w'
   simp only [blockE] at hq
   unfold Exit.inBlock
   by_cases hi : i = id
   ·subst hi; simp only [Nat.beq_refl, cond_true] at hq; simp; exact ⟨e', fr, hq⟩
   ·have hb : Nat.beq i id = false := by
     cases hc : Nat.beq i id with
     | false => rfl
     | true => exact absurd (Nat.eq_of_beq_eq_true hc) hi
    rw [hb] at hq; simp [hi]; exact ⟨e', fr, hq⟩
  | _ => exact ⟨e', fr, hq⟩) (h.go a ha))⟩
theorem C.region {id : Nat} {l : List Oper} (h : L P n l.toArray Q l e w) : C P n Q (.region id l.toArray false) e w := ⟨fun a ha => wp_region_lit (h.go a ha)⟩
theorem L.nil (h : Q .normal e w) : L P n ops Q [] e w := ⟨fun a ha => ⟨e, ha, h⟩⟩
def hav (wr : List Nat) (h e : Env) : Env := fun t => bif wr.any (Nat.beq t) then h t else e t
structure Agr (wr : List Nat) (e e' : Env) : Prop where
 at_ : ∀ t, wr.any (Nat.beq t) = false → e' t = e t
theorem Agr.refl {wr : List Nat} : Agr wr e e := ⟨fun _ _ => rfl⟩
theorem Agr.hav {wr : List Nat} {h : Env} : Agr wr e (hav wr h e) := ⟨fun t ht => by unfold Own.hav; rw [ht]; rfl⟩
theorem Agr.upd {wr : List Nat} {e' : Env} {d : Nat} {v : Value} (hd : wr.any (Nat.beq d) = true) (h : Agr wr e e') : Agr wr e (upd e' d v) := ⟨fun t ht => by
 unfold Own.upd
 cases hc : Nat.beq t d with
 | false => exact h.at_ t ht
 | true => have := Nat.eq_of_beq_eq_true hc; subst this; rw [hd] at ht; cases ht⟩
theorem Agr.in {wr wr' : List Nat} {e' h : Env} (hs : wr'.all (fun t => wr.any (Nat.beq t)) = true) (ha : Agr wr e e') : Agr wr e (Own.hav wr' h e') := ⟨fun t ht => by
 unfold Own.hav
 cases hc : wr'.any (Nat.beq t) with
 | false => exact ha.at_ t ht
 | true =>
  obtain ⟨x, hx, hxt⟩ := List.any_eq_true.1 hc
  have := Nat.eq_of_beq_eq_true hxt; subst this
  have := List.all_eq_true.1 hs _ hx
  rw [this] at ht; cases ht⟩
theorem Agr.eq {wr : List Nat} {e' : Env} (h : Agr wr e e') : e' = Own.hav wr e' e := by
 funext t
 unfold Own.hav
 cases hc : wr.any (Nat.beq t) with
 | false => exact h.at_ t hc
 | true => rfl
theorem Agr.trans {wr : List Nat} {e1 e2 : Env} (h : Agr wr e e1) (k : Agr wr e1 e2) : Agr wr e e2 := ⟨fun t ht => (k.at_ t ht).trans (h.at_ t ht)⟩
theorem C.loop {c : Code} (wr : List Nat) (I : Nat → Env → World → Prop) (m : Nat) (h0 : I m e w)
  (hr : ∀ m h w, I m h w → C P n (thenE (fun e' w' => Agr wr e e' ∧ ∃ k, k < m ∧ I k e' w') Q) c (hav wr h e) w) : C P n Q (.loop c) e w := by
 refine ⟨fun a ha => ?_⟩
 refine wp_loop_ghost (fun k a w => ∃ e', Fr n a e' ∧ Agr wr e e' ∧ I k e' w) m ⟨e, ha, Agr.refl, h0⟩ fun k a w hI => ?_
 obtain ⟨e1, fr, ag, hk⟩ := hI
 have hrr := hr _ e1 w hk
 rw [← ag.eq] at hrr
 refine Code.wp_mono (fun ex a' w' ⟨e', fr', hq⟩ => ?_) (hrr.go a fr)
 cases ex with
 | normal =>
  obtain ⟨ag', k', hlt, hk'⟩ := hq
  exact ⟨k', hlt, e', fr', ag', hk'⟩
 | _ => exact ⟨e', fr', hq⟩
end
class FldC (P : Program) (t : TypeId) (k : Nat) (off : outParam Nat) : Prop where
 fld : ∃ fs f, P.underlying t = some (.struct fs) ∧ fs[k]? = some f ∧ f.offset = off ∧ ∃ z, (P.info? f.type).map (·.size) = some (z + 1)
class ArrC (P : Program) (t : TypeId) (len : outParam Nat) (size : outParam Nat) (one : outParam Bool) : Prop where
 arr : ∃ e d, P.underlying t = some (.array len e) ∧ (P.info? e).map (·.size) = some size ∧ P.underlying e = some d ∧ d.isRow = !one
class IntC (P : Program) (t : TypeId) (k : outParam IntKind) : Prop where
 int : P.underlying t = some (.int k)
class PtrC (P : Program) (t : TypeId) (e : outParam TypeId) : Prop where
 ptr : P.underlying t = some (.pointer e)
class FunC (P : Program) (f : FuncId) : Prop where
 fn : ∃ fn c, P.funcs[f]? = some fn ∧ (fn.name == "runtime.NumGoroutine") = false ∧ fn.body = some c
section
variable {P : Program} {n : Nat} {ops : Array Oper} {Q : Post} {rest : List Oper} {o : Oper} {e : Env} {w w' : World} {s : Ro} {rs : List Asn}
theorem L.val (v : Value) (w' : World) (hw : wn n ops o e = true) (hd : okD n o.dst = true) (hr : (execOp (ev e) o).run P w = .ok (.value v) w') (h : L P n ops Q rest (put e o.dst v) w') : L P n ops Q (o :: rest) e w :=
 ⟨fun a ha => wpList_step fun K hK => by
  rw [ha.wn, if_pos hw]
  unfold Oper.wp
  rw [ha.eval, hr]
  exact hK _ _ (h.go _ (ha.put hd v))⟩
theorem L.eff (w' : World) (hw : wn n ops o e = true) (hd : okD n o.dst = true) (hr : (execOp (ev e) o).run P w = .ok .skip w') (h : L P n ops Q rest (put e o.dst undef) w') : L P n ops Q (o :: rest) e w :=
 ⟨fun a ha => wpList_step fun K hK => by
  rw [ha.wn, if_pos hw]
  unfold Oper.wp
  rw [ha.eval, hr]
  exact hK _ _ (h.go _ (ha.put hd _))⟩
theorem L.not (hw : wn n ops o e = false) (hd : okD n o.dst = true) (h : L P n ops Q rest (put e o.dst undef) w) : L P n ops Q (o :: rest) e w :=
 ⟨fun a ha => wpList_step fun K hK => by
  rw [ha.wn, if_neg (by rw [hw]; simp)]
  exact hK _ _ (h.go _ (ha.put hd _))⟩
theorem run_v {ρ : Operand → Value} {sm : Sem Value} {v : Value} (he : execOp ρ o = (do pure (.value (← sm)))) (hr : sm.run P w = .ok v w') : (execOp ρ o).run P w = .ok (.value v) w' := by
 rw [he]; simp [Sem.run_bind, hr]
def cmpI (op : BinOp) (a b : Int) : Option Bool := match op with
 | .eql => some (a == b)
 | .neq => some (a != b)
 | .lss => some (decide (a < b))
 | .leq => some (decide (a ≤ b))
 | .gtr => some (decide (a > b))
 | .geq => some (decide (a ≥ b))
 | _ => none
def cmpS (op : BinOp) (a b : ByteArray) : Option Bool := match op with
 | .eql => some (a.toList == b.toList)
 | .neq => some (!(a.toList == b.toList))
 | _ => none
def arI (op : BinOp) (k : IntKind) (a b : Int) : Option Int := match op with
 | .add => some (k.wrap (a + b))
 | .sub => some (k.wrap (a - b))
 | .mul => some (k.wrap (a * b))
 | _ => none
def cmB (op : BinOp) (a b : Bool) : Option Bool := match op with
 | .eql => some (a == b)
 | .neq => some (!(a == b))
 | _ => none
def cmP (op : BinOp) (p : Option Addr) : Option Bool := match op with
 | .eql => some p.isNone
 | .neq => some (!p.isNone)
 | _ => none
theorem L.mv {x : Operand} (hw : wn n ops o e = true) (hd : okD n o.dst = true) (ho : o.op = .move x) (h : L P n ops Q rest (put e o.dst (ev e x)) w) : L P n ops Q (o :: rest) e w :=
 L.val _ w hw hd (by unfold execOp; rw [ho]; simp) h
theorem L.asg {x : Operand} (hw : wn n ops o e = true) (hd : okD n o.dst = true) (ho : o.op = .assign x) (h : L P n ops Q rest (put e o.dst (ev e x)) w) : L P n ops Q (o :: rest) e w :=
 L.val _ w hw hd (by unfold execOp; rw [ho]; simp) h
theorem L.pickT {c x y : Operand} (hw : wn n ops o e = true) (hd : okD n o.dst = true) (ho : o.op = .pick c x y) (hc : ev e c = .bool true) (h : L P n ops Q rest (put e o.dst (ev e x)) w) : L P n ops Q (o :: rest) e w :=
 L.val _ w hw hd (by unfold execOp; rw [ho]; simp [hc, asBool]) h
theorem L.pickF {c x y : Operand} (hw : wn n ops o e = true) (hd : okD n o.dst = true) (ho : o.op = .pick c x y) (hc : ev e c = .bool false) (h : L P n ops Q rest (put e o.dst (ev e y)) w) : L P n ops Q (o :: rest) e w :=
 L.val _ w hw hd (by unfold execOp; rw [ho]; simp [hc, asBool]) h
theorem L.ext {x : Operand} {i : Nat} {vs : Array Value} {v : Value} (hw : wn n ops o e = true) (hd : okD n o.dst = true) (ho : o.op = .extract x i) (hx : ev e x = .tuple vs) (hv : vs[i]? = some v) (h : L P n ops Q rest (put e o.dst v) w) : L P n ops Q (o :: rest) e w :=
 L.val _ w hw hd (by unfold execOp; rw [ho]; simp [hx, Instr.extract, hv]) h
theorem L.not_ {x : Operand} {t : TypeId} {b : Bool} (hw : wn n ops o e = true) (hd : okD n o.dst = true) (ho : o.op = .unOp .not t x) (hx : ev e x = .bool b) (h : L P n ops Q rest (put e o.dst (.bool !b)) w) : L P n ops Q (o :: rest) e w :=
 L.val _ w hw hd (by unfold execOp; rw [ho]; simp [hx, Op.unary]) h
theorem L.cmp {op : BinOp} {x y : Operand} {t u : TypeId} {k : IntKind} {a b : Int} {r : Bool} (hw : wn n ops o e = true) (hd : okD n o.dst = true) (ho : o.op = .binOp op t x y u) (hx : ev e x = .int k a) (hy : ev e y = .int k b) (hr : cmpI op a b = some r) (h : L P n ops Q rest (put e o.dst (.bool r)) w) : L P n ops Q (o :: rest) e w :=
 L.val _ w hw hd (by
  unfold execOp; rw [ho]
  cases op <;> simp only [cmpI, Option.some.injEq, reduceCtorEq] at hr <;> subst hr <;> simp [hx, hy, eqGuard, binOp, Op.intCmp]) h
theorem L.arith {op : BinOp} {x y : Operand} {t u : TypeId} {k : IntKind} {a b : Int} (r : Int) (hw : wn n ops o e = true) (hd : okD n o.dst = true) (ho : o.op = .binOp op t x y u) (hx : ev e x = .int k a) (hy : ev e y = .int k b)
  (hr : arI op k a b = some r) (h : L P n ops Q rest (put e o.dst (.int k r)) w) : L P n ops Q (o :: rest) e w :=
 L.val _ w hw hd (by
  unfold execOp; rw [ho]
  cases op <;> simp only [arI, cmB, cmP, Option.some.injEq, reduceCtorEq] at hr <;> subst hr <;> simp [hx, hy, eqGuard, binOp, Op.intArith]) h
theorem L.add {x y : Operand} {t u : TypeId} {a b : Int} (hw : wn n ops o e = true) (hd : okD n o.dst = true) (ho : o.op = .binOp .add t x y u) (hx : ev e x = .int .i64 a) (hy : ev e y = .int .i64 b)
  (h1 : -9223372036854775808 ≤ a + b) (h2 : a + b ≤ 9223372036854775807) (h : L P n ops Q rest (put e o.dst (.int .i64 (a + b))) w) : L P n ops Q (o :: rest) e w :=
 L.arith (a + b) hw hd ho hx hy (by simp only [arI, Option.some.injEq]; exact IntWalk.i64_in _ (by omega)) h
theorem L.sub {x y : Operand} {t u : TypeId} {a b : Int} (hw : wn n ops o e = true) (hd : okD n o.dst = true) (ho : o.op = .binOp .sub t x y u) (hx : ev e x = .int .i64 a) (hy : ev e y = .int .i64 b)
  (h1 : -9223372036854775808 ≤ a - b) (h2 : a - b ≤ 9223372036854775807) (h : L P n ops Q rest (put e o.dst (.int .i64 (a - b))) w) : L P n ops Q (o :: rest) e w :=
 L.arith (a - b) hw hd ho hx hy (by simp only [arI, Option.some.injEq]; exact IntWalk.i64_in _ (by omega)) h
theorem L.mul {x y : Operand} {t u : TypeId} {a b : Int} (hw : wn n ops o e = true) (hd : okD n o.dst = true) (ho : o.op = .binOp .mul t x y u) (hx : ev e x = .int .i64 a) (hy : ev e y = .int .i64 b)
  (h1 : -9223372036854775808 ≤ a * b) (h2 : a * b ≤ 9223372036854775807) (h : L P n ops Q rest (put e o.dst (.int .i64 (a * b))) w) : L P n ops Q (o :: rest) e w :=
 L.arith (a * b) hw hd ho hx hy (by simp only [arI, Option.some.injEq]; exact IntWalk.i64_in _ (by omega)) h
theorem L.rem {x y : Operand} {t u : TypeId} {k : IntKind} {a b : Int} (hw : wn n ops o e = true) (hd : okD n o.dst = true) (ho : o.op = .binOp .rem t x y u) (hx : ev e x = .int k a) (hy : ev e y = .int k b) (hb : b ≠ 0) (h : L P n ops Q rest (put e o.dst (.int k (a.tmod b))) w) : L P n ops Q (o :: rest) e w :=
 L.val _ w hw hd (by
  unfold execOp; rw [ho]
  simp [hx, hy, eqGuard, binOp, Op.intDiv, hb]) h
theorem L.cmpS {op : BinOp} {x y : Operand} {t u : TypeId} {a b : ByteArray} {r : Bool} (hw : wn n ops o e = true) (hd : okD n o.dst = true) (ho : o.op = .binOp op t x y u) (hx : ev e x = .string a) (hy : ev e y = .string b) (hr : Own.cmpS op a b = some r) (h : L P n ops Q rest (put e o.dst (.bool r)) w) : L P n ops Q (o :: rest) e w :=
 L.val _ w hw hd (by
  unfold execOp; rw [ho]
  cases op <;> simp only [Own.cmpS, Option.some.injEq, reduceCtorEq] at hr <;> subst hr <;> simp [hx, hy, eqGuard, binOp, Op.stringOp]) h
theorem L.cat {x y : Operand} {t u : TypeId} {a b : ByteArray} (hw : wn n ops o e = true) (hd : okD n o.dst = true) (ho : o.op = .binOp .add t x y u) (hx : ev e x = .string a) (hy : ev e y = .string b) (hl : a.size + b.size ≤ 9223372036854775807) (h : L P n ops Q rest (put e o.dst (.string (a ++ b))) w) : L P n ops Q (o :: rest) e w :=
 L.val _ w hw hd (by
  unfold execOp; rw [ho]
  have : ¬ (((a.size + b.size : Nat) : Int) > IntKind.i64.max) := by show ¬ (_ > (9223372036854775807 : Int)); omega
  simp only [hx, hy, eqGuard, binOp, Op.stringOp, this, if_false]
  simp) h
theorem run_eqP {t el : TypeId} (hT : P.underlying t = some (.pointer el)) (p : Option Addr) : (Op.equal t (.pointer p) (.pointer none)).run P w = .ok p.isNone w := by
 unfold Op.equal
 obtain ⟨d, hd⟩ : ∃ d, Op.maxDepth = d + 1 := ⟨_, rfl⟩
 rw [hd]; unfold Op.equalIn
 cases p <;> simp [run_underlying hT]
theorem L.nilP {op : BinOp} {x y : Operand} {t u el : TypeId} {p : Option Addr} [T : PtrC P t el] {r : Bool} (hw : wn n ops o e = true) (hd : okD n o.dst = true) (ho : o.op = .binOp op t x y u) (hx : ev e x = .pointer p) (hy : ev e y = .pointer none) (hr : cmP op p = some r) (h : L P n ops Q rest (put e o.dst (.bool r)) w) : L P n ops Q (o :: rest) e w :=
 L.val _ w hw hd (by
  unfold execOp; rw [ho]
  cases op <;> simp only [arI, cmB, cmP, Option.some.injEq, reduceCtorEq] at hr <;> subst hr <;> simp [hx, hy, eqGuard, binOp, run_eqP T.ptr]) h
theorem L.convI {x : Operand} {t u : TypeId} {k j : IntKind} {a : Int} {d : TypeDesc} (hs : P.underlying t = some d) [T : IntC P u k] (hw : wn n ops o e = true) (hd : okD n o.dst = true) (ho : o.op = .convert t u x) (hx : ev e x = .int j a) (h : L P n ops Q rest (put e o.dst (.int k (k.wrap a))) w) : L P n ops Q (o :: rest) e w :=
 L.val _ w hw hd (run_v (sm := convert t u (ev e x)) (by unfold execOp; rw [ho]) (by
  rw [hx]
  simp [convert, run_underlying hs, run_underlying T.int, Conv.intToInt])) h
theorem L.len {x : Operand} {t : TypeId} {z : Array Value → Bool} {a : Option Addr} {m c : Nat} {el : TypeId} {sz by_ : Nat} {zz : List Value} [E : ElC P t el sz by_ zz] (hw : wn n ops o e = true) (hd : okD n o.dst = true) (ho : o.op = .call { callee := .builtin .len, args := #[x], argTypes := #[t] }) (hx : ev e x = .slice a m c) (h : L P n ops Q rest (put e o.dst (.int .i64 (m : Int))) w) : L P n ops Q (o :: rest) e w := by
 obtain ⟨v, E', _⟩ := E.el
 exact L.val _ w hw hd (by
  unfold execOp; rw [ho]
  simp [resolve, invoke, builtin, Builtin.len_, hx, run_underlying E'.slice, goInt]) h
theorem L.lenS {x : Operand} {t : TypeId} {b : ByteArray} [T : StrC P t] (hw : wn n ops o e = true) (hd : okD n o.dst = true) (ho : o.op = .call { callee := .builtin .len, args := #[x], argTypes := #[t] }) (hx : ev e x = .string b) (h : L P n ops Q rest (put e o.dst (.int .i64 (b.size : Int))) w) : L P n ops Q (o :: rest) e w :=
 L.val _ w hw hd (by
  unfold execOp; rw [ho]
  simp [resolve, invoke, builtin, Builtin.len_, hx, run_underlying T.str, goInt]) h
theorem L.fa {x : Operand} {t : TypeId} {k off b j : Nat} [T : FldC P t k off] (hw : wn n ops o e = true) (hd : okD n o.dst = true) (ho : o.op = .fieldAddr t x k) (hx : ev e x = .pointer (some ⟨b, j, none⟩)) (h : L P n ops Q rest (put e o.dst (.pointer (some ⟨b, j + off, none⟩))) w) : L P n ops Q (o :: rest) e w := by
 obtain ⟨fs, f, h1, h2, h3, z, h4⟩ := T.fld
 refine L.val _ w hw hd (run_v (sm := Instr.fieldAt t (ev e x) k) (by unfold execOp; rw [ho]) ?_) h
 cases hq : P.info? f.type with
 | none => simp [hq] at h4
 | some i =>
  simp [hq] at h4
  simp only [Instr.fieldAt, Sem.run_bind, run_underlying h1, Result.andThen_ok, h2, hx, Instr.sureAddr, Sem.run_pure, fieldPlace, sizeOf, typeInfo]
  subst h3
  simp [hq, h4, Addr.add]
theorem L.ia {x y : Operand} {t el : TypeId} {g off m c i sz by_ : Nat} {zz : List Value} {k : IntKind} {ii : Int} [E : ElC P t el sz by_ zz] (hw : wn n ops o e = true) (hd : okD n o.dst = true) (ho : o.op = .indexAddr t x y) (hx : ev e x = .slice (some ⟨g, off, none⟩) m c) (hy : ev e y = .int k ii) (hi : ii = (i : Int)) (hlt : i < m) (h : L P n ops Q rest (put e o.dst (.pointer (some ⟨g, off + i * sz, none⟩))) w) : L P n ops Q (o :: rest) e w := by
 subst hi
 obtain ⟨v, E', _⟩ := E.el
 obtain ⟨inf, h1, h2, h3, h4⟩ := E'.info
 refine L.val _ w hw hd (run_v (sm := Instr.indexAt t (ev e x) (ev e y)) (by unfold execOp; rw [ho]) ?_) h
 rw [hx, hy]
 have hc : (0 ≤ (i : Int) ∧ (i : Int) < (m : Int)) := by omega
 simp [Instr.indexAt, asIntOf, run_underlying E'.slice, hlt, sizeOf, typeInfo, h1, h3, Addr.add_mid]
theorem L.iaA {x y : Operand} {t : TypeId} {g off len i sz : Nat} {one : Bool} {k : IntKind} {ii : Int} [A : ArrC P t len sz one] (hw : wn n ops o e = true) (hd : okD n o.dst = true) (ho : o.op = .indexAddr t x y) (hx : ev e x = .pointer (some ⟨g, off, none⟩)) (hy : ev e y = .int k ii) (hi : ii = (i : Int)) (hlt : i < len) (h : L P n ops Q rest (put e o.dst (.pointer (some ⟨g, off + i * sz, none⟩))) w) : L P n ops Q (o :: rest) e w := by
 subst hi
 obtain ⟨el, d, h1, h2, h3, h4⟩ := A.arr
 refine L.val _ w hw hd (run_v (sm := Instr.indexAt t (ev e x) (ev e y)) (by unfold execOp; rw [ho]) ?_) h
 rw [hx, hy]
 cases hq : P.info? el with
 | none => simp [hq] at h2
 | some inf =>
  simp [hq] at h2
  simp [Instr.indexAt, asIntOf, run_underlying h1, hlt, sizeOf, typeInfo, hq, h2, Addr.add_mid, Instr.sureAddr]
theorem L.call {f : FuncId} {xs : Array Operand} {ts : Array TypeId} {args : List Value} [F : FunC P f] (hw : wn n ops o e = true) (hd : okD n o.dst = true) (ho : o.op = .call { callee := .value (.func f), args := xs, argTypes := ts }) (hx : xs.toList.map (ev e) = args)
  (h : Calls P f args.toArray w fun x w' => ∃ v, x = .returned v ∧ L P n ops Q rest (put e o.dst v) w') : L P n ops Q (o :: rest) e w := by
 obtain ⟨fn, c, h1, h2, h3⟩ := F.fn
 refine ⟨fun a ha => wpList_step fun K hK => ?_⟩
 rw [ha.wn, if_pos hw]
 have hargs : xs.map a.eval = args.toArray := by
  apply Array.toList_inj.1
  rw [Array.toList_map, ha.eval, hx]
 have hr : (execOp a.eval o).run P w = .ok (.enter f args.toArray) w := by
  unfold execOp; rw [ho]
  simp only [resolve, Act.eval, Deferred.ofValue, Sem.run_bind, Sem.run_pure, Result.andThen_ok, invoke, callFunc]
  have : xs.map (fun x => a.eval x) = args.toArray := hargs
  simp [h1, h2, h3, hargs]
  simpa using h2
 unfold Oper.wp
 rw [hr]
 exact h.mono fun x w' ⟨v, hx', hl⟩ => by subst hx'; exact hK _ _ (hl.go _ (ha.put hd v))
end
def env0 : List Value → Env
 | [], _ => undef
 | v :: _, 0 => v
 | _ :: r, t + 1 => env0 r t
def ResE (P : Program) (fn : Func) (e : Env) (w : World) (v : Value) : Prop := ∀ a, envOf a = e → (results fn a.tmps).run P w = .ok v w
def bodyQ (P : Program) (fn : Func) (R : Ending → World → Prop) : Post := fun x e w => match x with
 | .normal => ∃ v, ResE P fn e w v ∧ R (.returned v) w
 | .ret => ∃ v, ResE P fn e w v ∧ R (.returned v) w
 | _ => False
section
variable {P : Program} {n : Nat} {ops : Array Oper} {Q : Post} {rest : List Oper} {o : Oper} {e : Env} {w w' : World} {s : Ro} {rs : List Asn}
theorem env0_get : ∀ (l : List Value) (t : Nat), env0 l t = l[t]?.getD undef
 | [], t => by simp [env0]
 | v :: r, 0 => by simp [env0]
 | v :: r, t + 1 => by simp only [env0, List.getElem?_cons_succ]; exact env0_get r t
theorem enter {f : FuncId} {fn : Func} {c : Code} {args : List Value} {R : Ending → World → Prop} (hf : P.funcs[f]? = some fn) (hb : fn.body = some c) (hn : fn.ntmps = n) (ha : Nat.ble args.length n = true) (h : C P n (bodyQ P fn R) c (env0 args) w) : Calls P f args.toArray w R := by
 refine calls_of_wp hf hb ?_
 have hle : args.length ≤ n := Nat.le_of_ble_eq_true ha
 have fr0 : Fr n { tmps := args.toArray ++ Array.replicate (fn.ntmps - args.toArray.size) undef, defers := [] } (env0 args) := by
  refine ⟨by simp [hn]; omega, rfl, ?_⟩
  funext t
  rw [env0_get]
  simp only [envOf, Array.getD_eq_getD_getElem?, Array.getElem?_append, List.size_toArray, List.getElem?_toArray]
  by_cases ht : t < args.length
  ·simp [ht]
  ·rw [if_neg ht, List.getElem?_eq_none (by omega)]
   simp only [Array.getElem?_replicate]
   split <;> rfl
 refine Code.wp_mono (fun x a w' ⟨e', fr, hq⟩ => ?_) (h.go _ fr0)
 cases x <;> first
   | (obtain ⟨v, h1, h2⟩ := hq; exact ⟨fr.defers, v, h1 a fr.env, h2⟩)
   | exact hq.elim
theorem res0 {fn : Func} (h : fn.results = #[]) : ResE P fn e w (.tuple #[]) := fun a ha => results_none h _ _ _
theorem resT {fn : Func} {t : Nat} (h : fn.results = #[.tmp t]) : ResE P fn e w (e t) := fun a ha => by rw [results_tmp h]; rw [← ha]; rfl
theorem resTT {fn : Func} {t u : Nat} (h : fn.results = #[.tmp t, .tmp u]) : ResE P fn e w (.tuple #[e t, e u]) := fun a ha => by rw [results_tmp2 h]; rw [← ha]; rfl
theorem resTTT {fn : Func} {t u v : Nat} (h : fn.results = #[.tmp t, .tmp u, .tmp v]) : ResE P fn e w (.tuple #[e t, e u, e v]) := fun a ha => by subst ha; simp [results, h, envOf]
theorem run_cell {ty b off : Nat} {k : Nat} [T : RowC P ty k] {t i : Nat} {cs : List Value} (H : Holds s w rs) (hi : rs[i]? = some (var b t cs)) (hn : cs.length = k) : (loadVar ty ⟨b, 0, none⟩).run P w = .ok (.agg cs.toArray) w := by
 obtain ⟨d, hu, hd⟩ := T.desc
 exact run_loadVar_mid w b 0 ty cs d (fun j v hv => by rw [cell_of_row w b _ _ _ _ (H.var hi)]; simpa using hv) hu hd (by rw [hn]; exact T.size)
theorem resC {fn : Func} {r ty k : Nat} [T : RowC P ty k] (i : Nat) {b t : Nat} {cs : List Value} (H : Holds s w rs) (h : fn.results = #[.cell r ty]) (hr : e r = .pointer (some ⟨b, 0, none⟩)) (hi : rs[i]? = some (var b t cs)) (hn : cs.length = k) : ResE P fn e w (.agg cs.toArray) := fun a ha => by
 have hr' : a.tmps.getD r undef = .pointer (some ⟨b, 0, none⟩) := by rw [← hr, ← ha]; rfl
 rw [Array.getD_eq_getD_getElem?] at hr'
 have := run_cell (P := P) (ty := ty) (off := 0) H hi hn
 simp [results, h, hr', asAddr, this]
theorem resCT {fn : Func} {r ty k u : Nat} [T : RowC P ty k] (i : Nat) {b t : Nat} {cs : List Value} (H : Holds s w rs) (h : fn.results = #[.cell r ty, .tmp u]) (hr : e r = .pointer (some ⟨b, 0, none⟩)) (hi : rs[i]? = some (var b t cs)) (hn : cs.length = k) : ResE P fn e w (.tuple #[.agg cs.toArray, e u]) := fun a ha => by
 have hr' : a.tmps.getD r undef = .pointer (some ⟨b, 0, none⟩) := by rw [← hr, ← ha]; rfl
 rw [Array.getD_eq_getD_getElem?] at hr'
 have := run_cell (P := P) (ty := ty) (off := 0) H hi hn
 subst ha
 simp [results, h, hr', asAddr, this, envOf]
theorem L.load {ty : TypeId} {x : Operand} [OneC P ty] (i : Nat) {b off : Nat} {t : TypeId} {cs : List Value} {v : Value} (H : Holds s w rs) (hw : wn n ops o e = true) (hd : okD n o.dst = true) (ho : o.op = .load ty x) (hx : ev e x = .pointer (some ⟨b, off, none⟩)) (hi : rs[i]? = some (var b t cs)) (hv : cs[off]? = some v)
  (h : L P n ops Q rest (put e o.dst v) w) : L P n ops Q (o :: rest) e w :=
 ⟨fun a ha => sl_load i H (by rw [ha.wn]; exact hw) ho (by rw [ha.eval]; exact hx) hi hv (h.go _ (ha.put hd v))⟩
theorem L.loadAll {ty : TypeId} {x : Operand} {k : Nat} [RowC P ty k] (i : Nat) {b : Nat} {t : TypeId} {cs : List Value} (H : Holds s w rs) (hw : wn n ops o e = true) (hd : okD n o.dst = true) (ho : o.op = .load ty x) (hx : ev e x = .pointer (some ⟨b, 0, none⟩)) (hi : rs[i]? = some (var b t cs)) (hn : cs.length = k)
  (h : L P n ops Q rest (put e o.dst (.agg cs.toArray)) w) : L P n ops Q (o :: rest) e w :=
 ⟨fun a ha => sl_loadall i H (by rw [ha.wn]; exact hw) ho (by rw [ha.eval]; exact hx) hi hn (h.go _ (ha.put hd _))⟩
theorem L.loadPart {ty : TypeId} {x : Operand} {k : Nat} [RowC P ty k] (i : Nat) {b off : Nat} {t : TypeId} {cs : List Value} (xs : List Value) (H : Holds s w rs) (hw : wn n ops o e = true) (hd : okD n o.dst = true) (ho : o.op = .load ty x) (hx : ev e x = .pointer (some ⟨b, off, none⟩)) (hi : rs[i]? = some (var b t cs)) (hxs : (cs.drop off).take k = xs) (hn : xs.length = k)
  (h : L P n ops Q rest (put e o.dst (.agg xs.toArray)) w) : L P n ops Q (o :: rest) e w :=
 ⟨fun a ha => sl_loadpart i xs H (by rw [ha.wn]; exact hw) ho (by rw [ha.eval]; exact hx) hi hxs hn (h.go _ (ha.put hd _))⟩
theorem L.loadS {ty : TypeId} {x : Operand} [OneC P ty] {g off off' : Nat} {v : Value} (H : Holds s w rs) (hp : Pin s g off' v) (hw : wn n ops o e = true) (hd : okD n o.dst = true) (ho : o.op = .load ty x) (hx : ev e x = .pointer (some ⟨g, off, none⟩)) (he : off = off')
  (h : L P n ops Q rest (put e o.dst v) w) : L P n ops Q (o :: rest) e w :=
 ⟨fun a ha => sl_loadS H hp (by rw [ha.wn]; exact hw) ho (by rw [ha.eval]; exact hx) he (h.go _ (ha.put hd _))⟩
theorem L.loadAllS {ty : TypeId} {x : Operand} {k : Nat} [RowC P ty k] {g off off' : Nat} {cs : List Value} (H : Holds s w rs) (hp : ∀ j v, cs[j]? = some v → Pin s g (off' + j) v) (hw : wn n ops o e = true) (hd : okD n o.dst = true) (ho : o.op = .load ty x) (hx : ev e x = .pointer (some ⟨g, off, none⟩)) (he : off = off') (hn : cs.length = k)
  (h : L P n ops Q rest (put e o.dst (.agg cs.toArray)) w) : L P n ops Q (o :: rest) e w :=
 ⟨fun a ha => sl_loadallS H hp (by rw [ha.wn]; exact hw) ho (by rw [ha.eval]; exact hx) he hn (h.go _ (ha.put hd _))⟩
theorem L.loadR {ty : TypeId} {x : Operand} [OneC P ty] (i : Nat) {g off c m sz : Nat} {el : TypeId} {xs : List Value} {v : Value} (H : Holds s w rs) (hw : wn n ops o e = true) (hd : okD n o.dst = true) (ho : o.op = .load ty x) (hx : ev e x = .pointer (some ⟨g, off, none⟩)) (hi : rs[i]? = some (row el sz (.slice (some ⟨g, 0, none⟩) m c) m xs)) (hv : xs[off]? = some v)
  (h : L P n ops Q rest (put e o.dst v) w) : L P n ops Q (o :: rest) e w :=
 ⟨fun a ha => load_one (by rw [ha.wn]; exact hw) ho (by rw [ha.eval]; exact hx) (by
  obtain ⟨aa, cc, he, _, _, _, h4⟩ := own_sl (H.row hi)
  cases he
  obtain ⟨ad, ha', hc⟩ := h4 off v hv
  cases ha'
  rwa [Addr.add_mid, Nat.zero_add] at hc) (h.go _ (ha.put hd v))⟩
theorem L.store {ty : TypeId} {x y : Operand} [T : OneC P ty] (i : Nat) {b off : Nat} {t : TypeId} {cs : List Value} {v : Value} (H : Holds s w rs) (hw : wn n ops o e = true) (hd : okD n o.dst = true) (ho : o.op = .store ty x y) (hx : ev e x = .pointer (some ⟨b, off, none⟩)) (hi : rs[i]? = some (var b t cs)) (hy : ev e y = v) (h1 : v.oneCell' = true) (hl : Nat.blt off cs.length = true)
  (h : ∀ w', Holds s w' (rs.set i (var b t (cs.set off v))) → L P n ops Q rest (put e o.dst undef) w') : L P n ops Q (o :: rest) e w :=
 ⟨fun a ha => sl_store i H (by rw [ha.wn]; exact hw) ho (by rw [ha.eval]; exact hx) hi (by rw [ha.eval]; exact hy) h1 (by simpa [Nat.blt_eq] using hl) (fun w' H' => (h w' H').go _ (ha.put hd _))⟩
theorem L.storeAll {ty : TypeId} {x y : Operand} {k : Nat} [T : RowC P ty k] (i : Nat) {b : Nat} {t : TypeId} {cs xs : List Value} (H : Holds s w rs) (hw : wn n ops o e = true) (hd : okD n o.dst = true) (ho : o.op = .store ty x y) (hx : ev e x = .pointer (some ⟨b, 0, none⟩)) (hi : rs[i]? = some (var b t cs)) (hy : ev e y = .agg xs.toArray) (h1 : xs.all Value.oneCell' = true) (hn : xs.length = k) (hl : cs.length = k)
  (h : ∀ w', Holds s w' (rs.set i (var b t xs)) → L P n ops Q rest (put e o.dst undef) w') : L P n ops Q (o :: rest) e w :=
 ⟨fun a ha => sl_storeall i H (by rw [ha.wn]; exact hw) ho (by rw [ha.eval]; exact hx) hi (by rw [ha.eval]; exact hy) (fun v hv => List.all_eq_true.1 h1 v hv) hn hl (fun w' H' => (h w' H').go _ (ha.put hd _))⟩
theorem L.storeR {ty : TypeId} {x y : Operand} [T : OneC P ty] (i : Nat) {g off c m sz : Nat} {el : TypeId} {xs : List Value} {v : Value} (H : Holds s w rs) (hw : wn n ops o e = true) (hd : okD n o.dst = true) (ho : o.op = .store ty x y) (hx : ev e x = .pointer (some ⟨g, off, none⟩)) (hi : rs[i]? = some (row el sz (.slice (some ⟨g, 0, none⟩) m c) m xs)) (hy : ev e y = v) (h1 : v.oneCell' = true) (hl : off < xs.length)
  (h : ∀ w', Holds s w' (rs.set i (row el sz (.slice (some ⟨g, 0, none⟩) m c) m (xs.set off v))) → L P n ops Q rest (put e o.dst undef) w') : L P n ops Q (o :: rest) e w := by
 refine ⟨fun a ha => wpList_step fun K hK => ?_⟩
 rw [ha.wn, if_pos hw]
 have hown := H.row hi
 obtain ⟨hlen, hrow⟩ := hown
 rcases hrow with ⟨hn, _⟩ | ⟨g', cap, cur, hv, _, hg, h3, h4, h5, h6⟩
 ·cases hn
 ·cases hv
  have hi1 := T.size
  have hcv : v.cells = #[v] := by cases v <;> first | rfl | cases h1
  have hcl : off < cur.size := by
   have := congrArg List.length h6
   simp at this; omega
  cases hq : P.info? ty with
  | none => simp [hq] at hi1
  | some ii =>
   have hs1 : ii.size = 1 := by simpa [hq] using hi1
   have hst := run_storeCells_at P g off el [v] 0 cur w hg (by simp; omega) (fun u hu => by simp at hu; subst hu; exact h1)
   have hst' : (storeVar ty ⟨g, off, none⟩ v).run P w = .ok () (w.setRow g (cur.toList.set off v).toArray) := by
    simp only [Nat.add_zero] at hst
    simp [storeVar, sizeOf, typeInfo, hq, hcv, hs1, hst]
    congr 2
    rw [List.set_eq_take_append_cons_drop, if_pos (by simpa using hcl)]
   unfold Oper.wp
   rw [ha.eval]
   unfold execOp
   rw [ho]
   simp only [hx, hy, Instr.storeAt, Instr.sureAddr, Sem.run_bind, Sem.run_pure, Result.andThen_ok, hst', Oper.upon]
   refine hK _ _ ((h _ (H.only_row hi (v' := .slice (some ⟨g, 0, none⟩) m c) (n' := m) (xs' := xs.set off v) ⟨by simpa using hlen, .inr ⟨g, c, (cur.toList.set off v).toArray, rfl, Nat.zero_le _, setRow_heap _ _ _ _ _ _ hg, h3, h4, by simpa using h5, ?_⟩⟩ (only_setRow _ _ _ (by simp [Value.ownBlock])) (fun k hk => .inl hk))).go _ (ha.put hd _))
   rw [← h6]
   simp [List.take_set]
theorem L.box {ty : TypeId} {x : Operand} {cs : List Value} (H : Holds s w rs) (hw : wn n ops o e = true) (hd : okD n o.dst = true) (ho : o.op = .box ty x) (hx : ev e x = .agg cs.toArray)
  (h : ∀ b w', Holds s w' (var b ty cs :: rs) → L P n ops Q rest (put e o.dst (.pointer (some ⟨b, 0, none⟩))) w') : L P n ops Q (o :: rest) e w :=
 ⟨fun a ha => sl_box H (by rw [ha.wn]; exact hw) ho (by rw [ha.eval]; exact hx) (fun b w' H' => (h b w' H').go _ (ha.put hd _))⟩
theorem L.box1 {ty : TypeId} {x : Operand} {v : Value} (H : Holds s w rs) (hw : wn n ops o e = true) (hd : okD n o.dst = true) (ho : o.op = .box ty x) (hx : ev e x = v) (h1 : v.oneCell' = true)
  (h : ∀ b w', Holds s w' (var b ty [v] :: rs) → L P n ops Q rest (put e o.dst (.pointer (some ⟨b, 0, none⟩))) w') : L P n ops Q (o :: rest) e w :=
 ⟨fun a ha => sl_box1 H (by rw [ha.wn]; exact hw) ho (by rw [ha.eval]; exact hx) h1 (fun b w' H' => (h b w' H').go _ (ha.put hd _))⟩
theorem L.alloc {ty : TypeId} {z : List Value} [T : ZeroC P ty z] (H : Holds s w rs) (hw : wn n ops o e = true) (hd : okD n o.dst = true) (ho : o.op = .alloc ty)
  (h : ∀ b w', Holds s w' (var b ty z :: rs) → L P n ops Q rest (put e o.dst (.pointer (some ⟨b, 0, none⟩))) w') : L P n ops Q (o :: rest) e w :=
 ⟨fun a ha => sl_alloc H (by rw [ha.wn]; exact hw) ho (fun b w' H' => (h b w' H').go _ (ha.put hd _))⟩
theorem L.empty {t el : TypeId} {size bytes : Nat} {z : List Value} [E : ElC P t el size bytes z] (H : Holds s w rs) (hw : wn n ops o e = true) (hd : okD n o.dst = true) (ho : o.op = .buildSlice t 0 #[])
  (h : ∀ g w', Holds s w' (row el size (.slice (some ⟨g, 0, none⟩) 0 0) 0 [] :: rs) → L P n ops Q rest (put e o.dst (.slice (some ⟨g, 0, none⟩) 0 0)) w') : L P n ops Q (o :: rest) e w :=
 ⟨fun a ha => sl_empty H (by rw [ha.wn]; exact hw) ho (fun b w' H' => (h b w' H').go _ (ha.put hd _))⟩
theorem L.one {t el : TypeId} {size bytes : Nat} {z : List Value} [E : ElC P t el size bytes z] {x : Operand} {cs : List Value} (H : Holds s w rs) (hsm : Nat.ble size 16777216 = true) (hgd : o.guard = none) (hd : okD n o.dst = true) (ho : o.op = .buildSlice t 1 #[(0, x)]) {v : Value} (hx : ev e x = v) (hcs : v.cells = cs.toArray) (hv : cs.length = size)
  (h : ∀ g w', Holds s w' (row el size (.slice (some ⟨g, 0, none⟩) 1 1) 1 cs :: rs) → L P n ops Q rest (put e o.dst (.slice (some ⟨g, 0, none⟩) 1 1)) w') : L P n ops Q (o :: rest) e w :=
 ⟨fun a ha => sl_one H (Nat.le_of_ble_eq_true hsm) hgd ho (by rw [ha.eval]; exact hx) hcs hv (fun b w' H' => (h b w' H').go _ (ha.put hd _))⟩
theorem L.app {t el : TypeId} {size bytes : Nat} {z : List Value} [E : ElC P t el size bytes z] {x y : Operand} (i : Nat) {v xv : Value} {k m : Nat} {xs news : List Value} (H : Holds s w rs) (hi : rs[i]? = some (row el size v k xs)) (hsrc : Src s rs xv size m news) (h1 : ∀ u ∈ news, u.oneCell' = true) (h63 : k + m ≤ maxLen) (hbytes : (k + m) * bytes ≤ 140737488355328)
  (hgd : o.guard = none) (hd : okD n o.dst = true) (ho : o.op = .call { callee := .builtin .append, args := #[x, y], argTypes := #[t, t] }) (hx : ev e x = v) (hy : ev e y = xv)
  (h : ∀ aa cc w', Holds s w' (rs.set i (row el size (.slice aa (k + m) cc) (k + m) (xs ++ news))) → L P n ops Q rest (put e o.dst (.slice aa (k + m) cc)) w') : L P n ops Q (o :: rest) e w :=
 ⟨fun a ha => sl_append i H hi hsrc h1 h63 hbytes hgd ho (by rw [ha.eval]; exact hx) (by rw [ha.eval]; exact hy) (fun aa cc w' H' => (h aa cc w' H').go _ (ha.put hd _))⟩
theorem L.make {t el : TypeId} {size bytes : Nat} {z : List Value} [E : ElC P t el size bytes z] {l c : Operand} {k m : Nat} {kk kk' : IntKind} {ik im : Int} (H : Holds s w rs) (hgd : o.guard = none) (hd : okD n o.dst = true) (ho : o.op = .makeSlice t l c) (hl : ev e l = .int kk ik) (hc : ev e c = .int kk' im) (hik : ik = (k : Int)) (him : im = (m : Int)) (hnm : k ≤ m) (hm : bytes * m ≤ 140737488355328) (hmx : m ≤ maxLen)
  (h : ∀ g w', Holds s w' (row el size (.slice (some ⟨g, 0, none⟩) k m) k (List.replicate k z).flatten :: rs) → L P n ops Q rest (put e o.dst (.slice (some ⟨g, 0, none⟩) k m)) w') : L P n ops Q (o :: rest) e w :=
 ⟨fun a ha => sl_make H hgd ho (by rw [ha.eval, hl, hik]) (by rw [ha.eval, hc, him]) hnm hm hmx (fun b w' H' => (h b w' H').go _ (ha.put hd _))⟩
theorem L.str {x : Operand} {t u : TypeId} [T : BytesC P t] [U : StrC P u] {v : Value} {l : List UInt8} (H : Holds s w rs) (hb : Src s rs v 1 l.length (u8s l)) (hw : wn n ops o e = true) (hd : okD n o.dst = true) (ho : o.op = .convert t u x) (hx : ev e x = v) (h : L P n ops Q rest (put e o.dst (.string ⟨l.toArray⟩)) w) : L P n ops Q (o :: rest) e w := by
 obtain ⟨el, h1, h2, _⟩ := T.el
 exact ⟨fun a ha => conv_string_g (v := v) h1 h2 U.str (by rw [ha.wn]; exact hw) ho (by rw [ha.eval]; exact hx) (hb.sl H) (h.go _ (ha.put hd _))⟩
def chkE (n : Nat) (ops : Array Oper) (l : List (Oper × Nat)) (e : Env) : Bool := l.all fun x => !wn n ops x.1 e || Reg.valC x.1.op x.2 (ev e)
theorem chk_fr {l : List (Oper × Nat)} {a : Act} (ha : Fr n a e) : Reg.chk ops l a = chkE n ops l e := by
 unfold Reg.chk chkE
 congr 1
 funext x
 rw [ha.wn, ha.eval]
def rbE (n : Nat) (ops : Array Oper) (l : List (Oper × Nat)) (e : Env) : List Nat := l.flatMap fun x => if x.2 == 1 && wn n ops x.1 e then Reg.rdBlock x.1.op (ev e) else []
theorem rb_fr {l : List (Oper × Nat)} {a : Act} (ha : Fr n a e) : Reg.rb ops l a = rbE n ops l e := by
 unfold Reg.rb rbE
 congr 1
 funext x
 rw [ha.wn, ha.eval]
structure Q1 (n : Nat) (ops : Array Oper) (l : List (Oper × Nat)) (R : Env → World → Prop) (x : Exit) (e : Env) (w : World) : Prop where
 nor : x = .normal
 chk : chkE n ops l e = true
 res : R e w
theorem wpList_post {l : List Oper} {a : Act} {Q Q' : Exit → Act → World → Prop} (hq : ∀ x a w, Q x a w → Q' x a w) (h : wpList P ops Q l a w) : wpList P ops Q' l a w := by
 induction l generalizing a w with
 | nil => exact hq _ _ _ h
 | cons o r ih =>
  unfold wpList at h ⊢
  split
  ·rename_i hw
   rw [if_pos hw] at h
   rcases h with h | ⟨h1, a', w', h2⟩
   ·left
    unfold Oper.wp at h ⊢
    revert h
    generalize (execOp a.eval o).run P w = res
    intro h
    cases res with
    | ok nx w1 =>
     cases nx <;> simp only [Oper.upon] at h ⊢ <;> first
      | exact ih h
      | exact h
      | exact Calls.mono h (fun e w2 he => by
        cases e with
        | returned v => exact ih he
        | panicked c => exact hq _ _ _ he
        | outgrown => obtain ⟨a', w', h'⟩ := he; exact ⟨a', w', hq _ _ _ h'⟩)
      | exact Rows.mono h (fun v w2 he => ih he)
    | halt hh w1 =>
     cases hh <;> simp only [Oper.upon] at h ⊢ <;> first | exact h | exact hq _ _ _ h
   ·exact .inr ⟨h1, a', w', hq _ _ _ h2⟩
  ·rename_i hw
   rw [if_neg hw] at h
   exact ih h
theorem C.drawn1 {id : Nat} {l : List Oper} (cls ms : List Nat) (hok : Reg.ok1 P l cls ms = true) (h : L P n l.toArray (Q1 n l.toArray (l.zip cls) (Q .normal)) l e w.drew) : C P n Q (.region id l.toArray true) e w :=
 ⟨fun a ha => Reg.region1d cls ms hok fun Q' hQ' => wpList_post (fun x a' w' ⟨e', fr, hq⟩ => by
  obtain ⟨rfl, h2, h3⟩ := hq
  exact hQ' a' w' ⟨by rw [chk_fr fr]; exact h2, e', fr, h3⟩) (h.go a ha)⟩
structure Q2 (n : Nat) (ops : Array Oper) (B : List Nat) (l : List (Oper × Nat)) (w0 : World) (R : Env → World → Prop) (x : Exit) (e : Env) (w : World) : Prop where
 nor : x = .normal
 chk : chkE n ops l e = true
 rb : ∀ b ∈ rbE n ops l e, b ∈ B
 keep : Reg.Keep B w0 w
 res : R e w
def segL (P : Program) (n : Nat) (ops : Array Oper) (B : List Nat) (R : Env → World → Prop) : List Nat → List Nat → List Oper → Env → World → Prop
 | [], cls, l, e, w => L P n ops (fun x e' w' => Q2 n ops B (l.zip cls) w' R x e' w') l e w
 | k :: ns, cls, l, e, w => L P n ops (Q2 n ops B ((l.take k).zip (cls.take k)) w (segL P n ops B R ns (cls.drop k) (l.drop k))) (l.take k) e w
theorem segW_of {B : List Nat} {R : Env → World → Prop} : ∀ (ns cls : List Nat) (l : List Oper) (e : Env) (w : World) (a : Act), Fr n a e → segL P n ops B R ns cls l e w → Reg.segW P ops B (fun a w => ∃ e, Fr n a e ∧ R e w) ns cls l a w
 | [], cls, l, e, w, a, fr, h => fun Q' hQ' => wpList_post (fun x a' w' ⟨e', fr', hq⟩ => by
   obtain ⟨rfl, h2, h3, h4, h5⟩ := hq
   exact hQ' a' w' ⟨⟨by rw [chk_fr fr']; exact h2, by rw [rb_fr fr']; exact h3⟩, e', fr', h5⟩) (L.go h a fr)
 | k :: ns, cls, l, e, w, a, fr, h => fun Q' hQ' => wpList_post (fun x a' w' ⟨e', fr', hq⟩ => by
   obtain ⟨rfl, h2, h3, h4, h5⟩ := hq
   exact hQ' a' w' ⟨⟨by rw [chk_fr fr']; exact h2, by rw [rb_fr fr']; exact h3⟩, h4, segW_of ns _ _ e' w' a' fr' h5⟩) (L.go h a fr)
theorem C.drawn2 {id : Nat} {l : List Oper} (B cls ns ms : List Nat) (hok : Reg.ok2 P l cls ns ms = true) (h : segL P n l.toArray B (Q .normal) ns cls l e w.drew) : C P n Q (.region id l.toArray true) e w :=
 ⟨fun a ha => Reg.region2d B cls ns ms hok (segW_of ns cls l e _ a ha h)⟩
structure Q4 (n : Nat) (ops : Array Oper) (l : List (Oper × Nat)) (w0 : World) (R : Env → World → Prop) (x : Exit) (e : Env) (w : World) : Prop where
 nor : x = .normal
 chk : chkE n ops l e = true
 ext : Reg.ends2 l = true → Reg.Ext w0 w
 res : R e w
def segN (P : Program) (n : Nat) (ops : Array Oper) (R : Env → World → Prop) : List Nat → List Nat → List Oper → Env → World → Prop
 | [], cls, l, e, w => L P n ops (Q1 n ops (l.zip cls) R) l e w
 | k :: ns, cls, l, e, w => L P n ops (Q4 n ops ((l.take k).zip (cls.take k)) w (segN P n ops R ns (cls.drop k) (l.drop k))) (l.take k) e w
theorem seg4_of {R : Env → World → Prop} : ∀ (ns cls : List Nat) (l : List Oper) (e : Env) (w : World) (a : Act), Fr n a e → segN P n ops R ns cls l e w → Reg.seg4 P ops (fun a w => ∃ e, Fr n a e ∧ R e w) ns cls l a w
 | [], cls, l, e, w, a, fr, h => fun Q' hQ' => wpList_post (fun x a' w' ⟨e', fr', hq⟩ => by
   obtain ⟨rfl, h2, h3⟩ := hq
   exact hQ' a' w' ⟨by rw [chk_fr fr']; exact h2, e', fr', h3⟩) (L.go h a fr)
 | k :: ns, cls, l, e, w, a, fr, h => fun Q' hQ' => wpList_post (fun x a' w' ⟨e', fr', hq⟩ => by
   obtain ⟨rfl, h2, h4, h5⟩ := hq
   exact hQ' a' w' ⟨by rw [chk_fr fr']; exact h2, h4, seg4_of ns _ _ e' w' a' fr' h5⟩) (L.go h a fr)
theorem C.drawn5 {id : Nat} {l : List Oper} (ks cls ns ms : List Nat) (hok : Reg.ok5 P l ks cls ns ms = true) (h : segN P n l.toArray (Q .normal) ns cls (Reg.pick l.toArray ks) e w.drew) : C P n Q (.region id l.toArray true) e w :=
 ⟨fun a ha => Reg.region5d ks cls ns ms hok (seg4_of ns cls (Reg.pick l.toArray ks) e _ a ha h)⟩
theorem ext_same {w : World} : Reg.Ext w w := ⟨Nat.le_refl _, fun _ _ => rfl⟩
def full (s : Ro) (w : World) : Ro := ⟨fun k => w.heap[k]?, s.cst⟩
theorem Holds.full {s : Ro} {w : World} {rs : List Asn} (H : Holds s w rs) : Holds (Own.full s w) w [] := ⟨⟨fun _ _ h => h, H.fits.os, H.fits.tape, H.fits.output⟩, [], rfl, by simp⟩
theorem Holds.le_full {s : Ro} {w : World} {rs : List Asn} (H : Holds s w rs) : s.Le (Own.full s w) := ⟨fun k o h => H.fits.mem k o h, rfl⟩
theorem only_full {s s2 : Ro} {w w' : World} {rs rs' : List Asn} (H0 : Holds s w rs') (h : (Own.full s w).Le s2) (H : Holds s2 w' rs) : Only [] w w' := by
 have hb : ∀ k, k < w.heap.size → w'.heap[k]? = w.heap[k]? := fun k hk => by
  have : w.heap[k]? = some w.heap[k] := by simp [hk]
  rw [this]
  exact H.fits.mem k _ (h.mem k _ this)
 have hc := h.cst
 refine ⟨by rw [H.fits.os, hc]; exact H0.fits.os.symm, by rw [H.fits.tape, hc]; exact H0.fits.tape.symm, by rw [H.fits.output, hc]; exact H0.fits.output.symm, ?_, fun k hk _ => hb k hk⟩
 cases hz : w.heap.size with
 | zero => omega
 | succ n =>
  have := hb n (by omega)
  have h2 : w.heap[n]? = some (w.heap[n]'(by omega)) := by simp [hz]
  rw [h2] at this
  have := lt_of_heap this
  omega
end
def wg (n : Nat) (ops : Array Oper) (g : Option (Nat × Bool)) (e : Env) : Bool := match g with
 | none => true
 | some (j, want) => yl n ops e j == some want
section
variable {P : Program} {n : Nat} {ops : Array Oper} {Q : Post} {rest : List Oper} {e : Env} {w w' : World} {s : Ro} {rs : List Asn} {tt : Nat} {pp : String} {af : Array Edge} {g : Option (Nat × Bool)}
theorem K.mv {d : Nat} {x : Operand} {v : Value} (hw : wg n ops g e = true) (hd : Nat.blt d n = true) (hx : ev e x = v) (h : L P n ops Q rest (upd e d v) w) : L P n ops Q (⟨some d, .move x, tt, pp, af, g⟩ :: rest) e w := by
 subst hx; exact L.mv hw hd rfl h
theorem K.asg {d : Nat} {x : Operand} {v : Value} (hw : wg n ops g e = true) (hd : Nat.blt d n = true) (hx : ev e x = v) (h : L P n ops Q rest (upd e d v) w) : L P n ops Q (⟨some d, .assign x, tt, pp, af, g⟩ :: rest) e w := by
 subst hx; exact L.asg hw hd rfl h
theorem K.pickT {d : Nat} {c x y : Operand} {v : Value} (hw : wg n ops g e = true) (hd : Nat.blt d n = true) (hc : ev e c = .bool true) (hx : ev e x = v) (h : L P n ops Q rest (upd e d v) w) : L P n ops Q (⟨some d, .pick c x y, tt, pp, af, g⟩ :: rest) e w := by
 subst hx; exact L.pickT hw hd rfl hc h
theorem K.pickF {d : Nat} {c x y : Operand} {v : Value} (hw : wg n ops g e = true) (hd : Nat.blt d n = true) (hc : ev e c = .bool false) (hx : ev e y = v) (h : L P n ops Q rest (upd e d v) w) : L P n ops Q (⟨some d, .pick c x y, tt, pp, af, g⟩ :: rest) e w := by
 subst hx; exact L.pickF hw hd rfl hc h
theorem K.not {d : Nat} {op : Op} (hw : wg n ops g e = false) (hd : Nat.blt d n = true) (h : L P n ops Q rest (upd e d undef) w) : L P n ops Q (⟨some d, op, tt, pp, af, g⟩ :: rest) e w := L.not hw hd h
theorem K.fa0 {d : Nat} {x : Operand} {t : TypeId} {k off b : Nat} [T : FldC P t k off] (hw : wg n ops g e = true) (hd : Nat.blt d n = true) (hx : ev e x = .pointer (some ⟨b, 0, none⟩)) (h : L P n ops Q rest (upd e d (.pointer (some ⟨b, off, none⟩))) w) : L P n ops Q (⟨some d, .fieldAddr t x k, tt, pp, af, g⟩ :: rest) e w :=
 L.fa hw hd rfl hx (by rw [Nat.zero_add]; exact h)
theorem K.ext {d : Nat} {x : Operand} {i : Nat} {vs : Array Value} {v : Value} (hw : wg n ops g e = true) (hd : Nat.blt d n = true) (hx : ev e x = .tuple vs) (hv : vs[i]? = some v) (h : L P n ops Q rest (upd e d v) w) : L P n ops Q (⟨some d, .extract x i, tt, pp, af, g⟩ :: rest) e w :=
 L.ext hw hd rfl hx hv h
theorem K.not_ {d : Nat} {x : Operand} {t : TypeId} {b : Bool} (hw : wg n ops g e = true) (hd : Nat.blt d n = true) (hx : ev e x = .bool b) (h : L P n ops Q rest (upd e d (.bool !b)) w) : L P n ops Q (⟨some d, .unOp .not t x, tt, pp, af, g⟩ :: rest) e w :=
 L.not_ hw hd rfl hx h
theorem K.cmp {d : Nat} {op : BinOp} {x y : Operand} {t u : TypeId} {k : IntKind} {a b : Int} {r : Bool} (hw : wg n ops g e = true) (hd : Nat.blt d n = true) (hx : ev e x = .int k a) (hy : ev e y = .int k b) (hr : cmpI op a b = some r) (h : L P n ops Q rest (upd e d (.bool r)) w) : L P n ops Q (⟨some d, .binOp op t x y u, tt, pp, af, g⟩ :: rest) e w :=
 L.cmp hw hd rfl hx hy hr h
theorem K.arith {d : Nat} {op : BinOp} {x y : Operand} {t u : TypeId} {k : IntKind} {a b : Int} (r : Int) (hw : wg n ops g e = true) (hd : Nat.blt d n = true) (hx : ev e x = .int k a) (hy : ev e y = .int k b) (hr : arI op k a b = some r) (h : L P n ops Q rest (upd e d (.int k r)) w) : L P n ops Q (⟨some d, .binOp op t x y u, tt, pp, af, g⟩ :: rest) e w :=
 L.arith r hw hd rfl hx hy hr h
theorem K.add {d : Nat} {x y : Operand} {t u : TypeId} {a b : Int} (hw : wg n ops g e = true) (hd : Nat.blt d n = true) (hx : ev e x = .int .i64 a) (hy : ev e y = .int .i64 b) (h1 : -9223372036854775808 ≤ a + b) (h2 : a + b ≤ 9223372036854775807) (h : L P n ops Q rest (upd e d (.int .i64 (a + b))) w) : L P n ops Q (⟨some d, .binOp .add t x y u, tt, pp, af, g⟩ :: rest) e w :=
 L.add hw hd rfl hx hy h1 h2 h
theorem K.sub {d : Nat} {x y : Operand} {t u : TypeId} {a b : Int} (hw : wg n ops g e = true) (hd : Nat.blt d n = true) (hx : ev e x = .int .i64 a) (hy : ev e y = .int .i64 b) (h1 : -9223372036854775808 ≤ a - b) (h2 : a - b ≤ 9223372036854775807) (h : L P n ops Q rest (upd e d (.int .i64 (a - b))) w) : L P n ops Q (⟨some d, .binOp .sub t x y u, tt, pp, af, g⟩ :: rest) e w :=
 L.sub hw hd rfl hx hy h1 h2 h
theorem K.mul {d : Nat} {x y : Operand} {t u : TypeId} {a b : Int} (hw : wg n ops g e = true) (hd : Nat.blt d n = true) (hx : ev e x = .int .i64 a) (hy : ev e y = .int .i64 b) (h1 : -9223372036854775808 ≤ a * b) (h2 : a * b ≤ 9223372036854775807) (h : L P n ops Q rest (upd e d (.int .i64 (a * b))) w) : L P n ops Q (⟨some d, .binOp .mul t x y u, tt, pp, af, g⟩ :: rest) e w :=
 L.mul hw hd rfl hx hy h1 h2 h
theorem K.rem {d : Nat} {x y : Operand} {t u : TypeId} {k : IntKind} {a b : Int} (hw : wg n ops g e = true) (hd : Nat.blt d n = true) (hx : ev e x = .int k a) (hy : ev e y = .int k b) (hb : b ≠ 0) (h : L P n ops Q rest (upd e d (.int k (a.tmod b))) w) : L P n ops Q (⟨some d, .binOp .rem t x y u, tt, pp, af, g⟩ :: rest) e w :=
 L.rem hw hd rfl hx hy hb h
theorem K.cat {d : Nat} {x y : Operand} {t u : TypeId} {a b : ByteArray} (hw : wg n ops g e = true) (hd : Nat.blt d n = true) (hx : ev e x = .string a) (hy : ev e y = .string b) (hl : a.size + b.size ≤ 9223372036854775807) (h : L P n ops Q rest (upd e d (.string (a ++ b))) w) : L P n ops Q (⟨some d, .binOp .add t x y u, tt, pp, af, g⟩ :: rest) e w :=
 L.cat hw hd rfl hx hy hl h
theorem K.nilP {d : Nat} {op : BinOp} {x y : Operand} {t u el : TypeId} {p : Option Addr} [T : PtrC P t el] {r : Bool} (hw : wg n ops g e = true) (hd : Nat.blt d n = true) (hx : ev e x = .pointer p) (hy : ev e y = .pointer none) (hr : cmP op p = some r) (h : L P n ops Q rest (upd e d (.bool r)) w) : L P n ops Q (⟨some d, .binOp op t x y u, tt, pp, af, g⟩ :: rest) e w :=
 L.nilP hw hd rfl hx hy hr h
theorem K.convI {d : Nat} {x : Operand} {t u : TypeId} {k j : IntKind} {a : Int} {dd : TypeDesc} (hs : P.underlying t = some dd) [T : IntC P u k] (hw : wg n ops g e = true) (hd : Nat.blt d n = true) (hx : ev e x = .int j a) (h : L P n ops Q rest (upd e d (.int k (k.wrap a))) w) : L P n ops Q (⟨some d, .convert t u x, tt, pp, af, g⟩ :: rest) e w :=
 L.convI hs hw hd rfl hx h
theorem K.len {d : Nat} {x : Operand} {t : TypeId} {a : Option Addr} {m c : Nat} {el : TypeId} {sz by_ : Nat} {zz : List Value} [E : ElC P t el sz by_ zz] (hw : wg n ops g e = true) (hd : Nat.blt d n = true) (hx : ev e x = .slice a m c) (h : L P n ops Q rest (upd e d (.int .i64 (m : Int))) w) : L P n ops Q (⟨some d, .call { callee := .builtin .len, args := #[x], argTypes := #[t] }, tt, pp, af, g⟩ :: rest) e w :=
 L.len (z := fun _ => true) hw hd rfl hx h
theorem K.lenS {d : Nat} {x : Operand} {t : TypeId} {b : ByteArray} [T : StrC P t] (hw : wg n ops g e = true) (hd : Nat.blt d n = true) (hx : ev e x = .string b) (h : L P n ops Q rest (upd e d (.int .i64 (b.size : Int))) w) : L P n ops Q (⟨some d, .call { callee := .builtin .len, args := #[x], argTypes := #[t] }, tt, pp, af, g⟩ :: rest) e w :=
 L.lenS hw hd rfl hx h
theorem K.fa {d : Nat} {x : Operand} {t : TypeId} {k off b j : Nat} [T : FldC P t k off] (hw : wg n ops g e = true) (hd : Nat.blt d n = true) (hx : ev e x = .pointer (some ⟨b, j, none⟩)) (h : L P n ops Q rest (upd e d (.pointer (some ⟨b, j + off, none⟩))) w) : L P n ops Q (⟨some d, .fieldAddr t x k, tt, pp, af, g⟩ :: rest) e w :=
 L.fa hw hd rfl hx h
theorem K.ia {d : Nat} {x y : Operand} {t el : TypeId} {gg off m c i sz by_ : Nat} {zz : List Value} {k : IntKind} {ii : Int} [E : ElC P t el sz by_ zz] (hw : wg n ops g e = true) (hd : Nat.blt d n = true) (hx : ev e x = .slice (some ⟨gg, off, none⟩) m c) (hy : ev e y = .int k ii) (hi : ii = (i : Int)) (hlt : i < m) (h : L P n ops Q rest (upd e d (.pointer (some ⟨gg, off + i * sz, none⟩))) w) : L P n ops Q (⟨some d, .indexAddr t x y, tt, pp, af, g⟩ :: rest) e w :=
 L.ia hw hd rfl hx hy hi hlt h
theorem K.iaA {d : Nat} {x y : Operand} {t : TypeId} {gg off len i sz : Nat} {one : Bool} {k : IntKind} {ii : Int} [A : ArrC P t len sz one] (hw : wg n ops g e = true) (hd : Nat.blt d n = true) (hx : ev e x = .pointer (some ⟨gg, off, none⟩)) (hy : ev e y = .int k ii) (hi : ii = (i : Int)) (hlt : i < len) (h : L P n ops Q rest (upd e d (.pointer (some ⟨gg, off + i * sz, none⟩))) w) : L P n ops Q (⟨some d, .indexAddr t x y, tt, pp, af, g⟩ :: rest) e w :=
 L.iaA hw hd rfl hx hy hi hlt h
theorem K.call {d : Nat} {f : FuncId} {xs : Array Operand} {ts : Array TypeId} {args : List Value} [F : FunC P f] (hw : wg n ops g e = true) (hd : Nat.blt d n = true) (hx : xs.toList.map (ev e) = args) (h : Calls P f args.toArray w fun x w' => ∃ v, x = .returned v ∧ L P n ops Q rest (upd e d v) w') : L P n ops Q (⟨some d, .call { callee := .value (.func f), args := xs, argTypes := ts }, tt, pp, af, g⟩ :: rest) e w :=
 L.call hw hd rfl hx h
theorem K.load {d : Nat} {ty : TypeId} {x : Operand} [OneC P ty] (i : Nat) {b off : Nat} {t : TypeId} {cs : List Value} {v : Value} (H : Holds s w rs) (hw : wg n ops g e = true) (hd : Nat.blt d n = true) (hx : ev e x = .pointer (some ⟨b, off, none⟩)) (hi : rs[i]? = some (var b t cs)) (hv : cs[off]? = some v) (h : L P n ops Q rest (upd e d v) w) : L P n ops Q (⟨some d, .load ty x, tt, pp, af, g⟩ :: rest) e w :=
 L.load i H hw hd rfl hx hi hv h
theorem K.loadAll {d : Nat} {ty : TypeId} {x : Operand} {k : Nat} [RowC P ty k] (i : Nat) {b : Nat} {t : TypeId} {cs : List Value} (H : Holds s w rs) (hw : wg n ops g e = true) (hd : Nat.blt d n = true) (hx : ev e x = .pointer (some ⟨b, 0, none⟩)) (hi : rs[i]? = some (var b t cs)) (hn : cs.length = k) (h : L P n ops Q rest (upd e d (.agg cs.toArray)) w) : L P n ops Q (⟨some d, .load ty x, tt, pp, af, g⟩ :: rest) e w :=
 L.loadAll i H hw hd rfl hx hi hn h
theorem K.loadPart {d : Nat} {ty : TypeId} {x : Operand} {k : Nat} [RowC P ty k] (i : Nat) {b off : Nat} {t : TypeId} {cs : List Value} (xs : List Value) (H : Holds s w rs) (hw : wg n ops g e = true) (hd : Nat.blt d n = true) (hx : ev e x = .pointer (some ⟨b, off, none⟩)) (hi : rs[i]? = some (var b t cs)) (hxs : (cs.drop off).take k = xs) (hn : xs.length = k) (h : L P n ops Q rest (upd e d (.agg xs.toArray)) w) : L P n ops Q (⟨some d, .load ty x, tt, pp, af, g⟩ :: rest) e w :=
 L.loadPart i xs H hw hd rfl hx hi hxs hn h
theorem K.loadS {d : Nat} {ty : TypeId} {x : Operand} [OneC P ty] {gg off off' : Nat} {v : Value} (H : Holds s w rs) (hp : Pin s gg off' v) (hw : wg n ops g e = true) (hd : Nat.blt d n = true) (hx : ev e x = .pointer (some ⟨gg, off, none⟩)) (he : off = off') (h : L P n ops Q rest (upd e d v) w) : L P n ops Q (⟨some d, .load ty x, tt, pp, af, g⟩ :: rest) e w :=
 L.loadS H hp hw hd rfl hx he h
theorem K.loadAllS {d : Nat} {ty : TypeId} {x : Operand} {k : Nat} [RowC P ty k] {gg off off' : Nat} {cs : List Value} (H : Holds s w rs) (hp : ∀ j v, cs[j]? = some v → Pin s gg (off' + j) v) (hw : wg n ops g e = true) (hd : Nat.blt d n = true) (hx : ev e x = .pointer (some ⟨gg, off, none⟩)) (he : off = off') (hn : cs.length = k) (h : L P n ops Q rest (upd e d (.agg cs.toArray)) w) : L P n ops Q (⟨some d, .load ty x, tt, pp, af, g⟩ :: rest) e w :=
 L.loadAllS H hp hw hd rfl hx he hn h
theorem K.loadR {d : Nat} {ty : TypeId} {x : Operand} [OneC P ty] (i : Nat) {gg off c m sz : Nat} {el : TypeId} {xs : List Value} {v : Value} (H : Holds s w rs) (hw : wg n ops g e = true) (hd : Nat.blt d n = true) (hx : ev e x = .pointer (some ⟨gg, off, none⟩)) (hi : rs[i]? = some (row el sz (.slice (some ⟨gg, 0, none⟩) m c) m xs)) (hv : xs[off]? = some v) (h : L P n ops Q rest (upd e d v) w) : L P n ops Q (⟨some d, .load ty x, tt, pp, af, g⟩ :: rest) e w :=
 L.loadR i H hw hd rfl hx hi hv h
theorem K.store {ty : TypeId} {x y : Operand} [T : OneC P ty] (i : Nat) {b off : Nat} {t : TypeId} {cs : List Value} {v : Value} (H : Holds s w rs) (hw : wg n ops g e = true) (hx : ev e x = .pointer (some ⟨b, off, none⟩)) (hi : rs[i]? = some (var b t cs)) (hy : ev e y = v) (h1 : v.oneCell' = true) (hl : Nat.blt off cs.length = true) (h : ∀ w', Holds s w' (rs.set i (var b t (cs.set off v))) → L P n ops Q rest e w') : L P n ops Q (⟨none, .store ty x y, tt, pp, af, g⟩ :: rest) e w :=
 L.store i H hw rfl rfl hx hi hy h1 hl h
theorem K.storeAll {ty : TypeId} {x y : Operand} {k : Nat} [T : RowC P ty k] (i : Nat) {b : Nat} {t : TypeId} {cs xs : List Value} (H : Holds s w rs) (hw : wg n ops g e = true) (hx : ev e x = .pointer (some ⟨b, 0, none⟩)) (hi : rs[i]? = some (var b t cs)) (hy : ev e y = .agg xs.toArray) (h1 : xs.all Value.oneCell' = true) (hn : xs.length = k) (hl : cs.length = k) (h : ∀ w', Holds s w' (rs.set i (var b t xs)) → L P n ops Q rest e w') : L P n ops Q (⟨none, .store ty x y, tt, pp, af, g⟩ :: rest) e w :=
 L.storeAll i H hw rfl rfl hx hi hy h1 hn hl h
theorem K.storeR {ty : TypeId} {x y : Operand} [T : OneC P ty] (i : Nat) {gg off c m sz : Nat} {el : TypeId} {xs : List Value} {v : Value} (H : Holds s w rs) (hw : wg n ops g e = true) (hx : ev e x = .pointer (some ⟨gg, off, none⟩)) (hi : rs[i]? = some (row el sz (.slice (some ⟨gg, 0, none⟩) m c) m xs)) (hy : ev e y = v) (h1 : v.oneCell' = true) (hl : off < xs.length) (h : ∀ w', Holds s w' (rs.set i (row el sz (.slice (some ⟨gg, 0, none⟩) m c) m (xs.set off v))) → L P n ops Q rest e w') : L P n ops Q (⟨none, .store ty x y, tt, pp, af, g⟩ :: rest) e w :=
 L.storeR i H hw rfl rfl hx hi hy h1 hl h
theorem K.box {d : Nat} {ty : TypeId} {x : Operand} {cs : List Value} (H : Holds s w rs) (hw : wg n ops g e = true) (hd : Nat.blt d n = true) (hx : ev e x = .agg cs.toArray) (h : ∀ b w', Holds s w' (var b ty cs :: rs) → L P n ops Q rest (upd e d (.pointer (some ⟨b, 0, none⟩))) w') : L P n ops Q (⟨some d, .box ty x, tt, pp, af, g⟩ :: rest) e w :=
 L.box H hw hd rfl hx h
theorem K.box1 {d : Nat} {ty : TypeId} {x : Operand} {v : Value} (H : Holds s w rs) (hw : wg n ops g e = true) (hd : Nat.blt d n = true) (hx : ev e x = v) (h1 : v.oneCell' = true) (h : ∀ b w', Holds s w' (var b ty [v] :: rs) → L P n ops Q rest (upd e d (.pointer (some ⟨b, 0, none⟩))) w') : L P n ops Q (⟨some d, .box ty x, tt, pp, af, g⟩ :: rest) e w :=
 L.box1 H hw hd rfl hx h1 h
theorem K.alloc {d : Nat} {ty : TypeId} {z : List Value} [T : ZeroC P ty z] (H : Holds s w rs) (hw : wg n ops g e = true) (hd : Nat.blt d n = true) (h : ∀ b w', Holds s w' (var b ty z :: rs) → L P n ops Q rest (upd e d (.pointer (some ⟨b, 0, none⟩))) w') : L P n ops Q (⟨some d, .alloc ty, tt, pp, af, g⟩ :: rest) e w :=
 L.alloc H hw hd rfl h
theorem K.empty {d : Nat} {t el : TypeId} {size bytes : Nat} {z : List Value} [E : ElC P t el size bytes z] (H : Holds s w rs) (hw : wg n ops g e = true) (hd : Nat.blt d n = true) (h : ∀ gg w', Holds s w' (row el size (.slice (some ⟨gg, 0, none⟩) 0 0) 0 [] :: rs) → L P n ops Q rest (upd e d (.slice (some ⟨gg, 0, none⟩) 0 0)) w') : L P n ops Q (⟨some d, .buildSlice t 0 #[], tt, pp, af, g⟩ :: rest) e w :=
 L.empty H hw hd rfl h
theorem K.one {d : Nat} {t el : TypeId} {size bytes : Nat} {z : List Value} [E : ElC P t el size bytes z] {x : Operand} {cs : List Value} (H : Holds s w rs) (hsm : Nat.ble size 16777216 = true) (hd : Nat.blt d n = true) {v : Value} (hx : ev e x = v) (hcs : v.cells = cs.toArray) (hv : cs.length = size) (h : ∀ gg w', Holds s w' (row el size (.slice (some ⟨gg, 0, none⟩) 1 1) 1 cs :: rs) → L P n ops Q rest (upd e d (.slice (some ⟨gg, 0, none⟩) 1 1)) w') : L P n ops Q (⟨some d, .buildSlice t 1 #[(0, x)], tt, pp, af, none⟩ :: rest) e w :=
 L.one H hsm rfl hd rfl hx hcs hv h
theorem K.app {d : Nat} {t el : TypeId} {size bytes : Nat} {z : List Value} [E : ElC P t el size bytes z] {x y : Operand} (i : Nat) {v xv : Value} {k m : Nat} {xs news : List Value} (H : Holds s w rs) (hi : rs[i]? = some (row el size v k xs)) (hsrc : Src s rs xv size m news) (h1 : ∀ u ∈ news, u.oneCell' = true) (h63 : k + m ≤ maxLen) (hbytes : (k + m) * bytes ≤ 140737488355328) (hd : Nat.blt d n = true) (hx : ev e x = v) (hy : ev e y = xv) (h : ∀ aa cc w', Holds s w' (rs.set i (row el size (.slice aa (k + m) cc) (k + m) (xs ++ news))) → L P n ops Q rest (upd e d (.slice aa (k + m) cc)) w') : L P n ops Q (⟨some d, .call { callee := .builtin .append, args := #[x, y], argTypes := #[t, t] }, tt, pp, af, none⟩ :: rest) e w :=
 L.app i H hi hsrc h1 h63 hbytes rfl hd rfl hx hy h
theorem K.make {d : Nat} {t el : TypeId} {size bytes : Nat} {z : List Value} [E : ElC P t el size bytes z] {l c : Operand} {k m : Nat} {kk kk' : IntKind} {ik im : Int} (H : Holds s w rs) (hd : Nat.blt d n = true) (hl : ev e l = .int kk ik) (hc : ev e c = .int kk' im) (hik : ik = (k : Int)) (him : im = (m : Int)) (hnm : k ≤ m) (hm : bytes * m ≤ 140737488355328) (hmx : m ≤ maxLen) (h : ∀ gg w', Holds s w' (row el size (.slice (some ⟨gg, 0, none⟩) k m) k (List.replicate k z).flatten :: rs) → L P n ops Q rest (upd e d (.slice (some ⟨gg, 0, none⟩) k m)) w') : L P n ops Q (⟨some d, .makeSlice t l c, tt, pp, af, none⟩ :: rest) e w :=
 L.make H rfl hd rfl hl hc hik him hnm hm hmx h
theorem K.str {d : Nat} {x : Operand} {t u : TypeId} [T : BytesC P t] [U : StrC P u] {v : Value} {l : List UInt8} (H : Holds s w rs) (hb : Src s rs v 1 l.length (u8s l)) (hw : wg n ops g e = true) (hd : Nat.blt d n = true) (hx : ev e x = v) (h : L P n ops Q rest (upd e d (.string ⟨l.toArray⟩)) w) : L P n ops Q (⟨some d, .convert t u x, tt, pp, af, g⟩ :: rest) e w :=
 L.str H hb hw hd rfl hx h
end
def upds : List Nat → List Value → Env → Env
 | t :: ts, v :: vs, e => upd (upds ts vs e) t v
 | _, _, e => e
theorem upds_map (h : Env) : ∀ (sl : List Nat), upds sl (sl.map h) h = h
 | [] => rfl
 | t :: ts => by
  show upd (upds ts (ts.map h) h) t (h t) = h
  rw [upds_map h ts]
  funext u
  unfold upd
  cases hc : Nat.beq u t with
  | false => rfl
  | true => rw [Nat.eq_of_beq_eq_true hc]; rfl
section
variable {P : Program} {n : Nat} {ops : Array Oper} {Q : Post} {rest : List Oper} {e : Env} {w w' : World} {s : Ro} {rs : List Asn}
theorem hav_upds {wr sl : List Nat} (hs : sl.all (fun t => wr.any (Nat.beq t)) = true) (h : Env) : hav wr h e = upds sl (sl.map h) (hav wr h e) := by
 have hm : sl.map h = sl.map (hav wr h e) := by
  apply List.map_congr_left
  intro t ht
  have := List.all_eq_true.1 hs t ht
  unfold hav; rw [this]; rfl
 rw [hm, upds_map]
theorem C.loopS {c : Code} (wr sl : List Nat) (hs : sl.all (fun t => wr.any (Nat.beq t)) = true) (I : Nat → List Value → World → Prop) (m : Nat) (h0 : I m (sl.map e) w)
  (hr : ∀ m vs h w, I m vs w → C P n (thenE (fun e' w' => Agr wr e e' ∧ ∃ k, k < m ∧ I k (sl.map e') w') Q) c (upds sl vs (hav wr h e)) w) : C P n Q (.loop c) e w := by
 refine C.loop wr (fun k h w => I k (sl.map h) w) m h0 fun k h w hI => ?_
 have := hr k (sl.map h) h w hI
 rwa [← hav_upds hs h] at this
theorem C.cut {x y : Code} (wr sl : List Nat) (hs : sl.all (fun t => wr.any (Nat.beq t)) = true) (J : List Value → World → Prop) (h1 : C P n (thenE (fun e' w' => Agr wr e e' ∧ J (sl.map e') w') Q) x e w)
  (h2 : ∀ vs h w, J vs w → C P n Q y (upds sl vs (hav wr h e)) w) : C P n Q (.seq x y) e w := by
 refine C.seq ⟨fun a ha => Code.wp_mono (fun ex a' w' ⟨e', fr, hq⟩ => ?_) (h1.go a ha)⟩
 cases ex with
 | normal =>
  obtain ⟨ag, hj⟩ := hq
  have := h2 (sl.map e') e' w' hj
  rw [← hav_upds hs e', ← ag.eq] at this
  exact ⟨e', fr, this⟩
 | _ => exact ⟨e', fr, hq⟩
theorem C.cutH {x y : Code} (H : Holds s w rs) (wr sl : List Nat) (hs : sl.all (fun t => wr.any (Nat.beq t)) = true) (p : List Value → Prop) (h1 : C P n (thenE (fun e' w' => Agr wr e e' ∧ p (sl.map e') ∧ Holds s w' rs) Q) x e w)
  (h2 : ∀ vs h w, p vs → Holds s w rs → C P n Q y (upds sl vs (hav wr h e)) w) : C P n Q (.seq x y) e w :=
 C.cut wr sl hs (fun vs w => p vs ∧ Holds s w rs) h1 (fun vs h w hj => h2 vs h w hj.1 hj.2)
theorem C.loopH {c : Code} (H : Holds s w rs) (wr sl : List Nat) (hs : sl.all (fun t => wr.any (Nat.beq t)) = true) (I : Nat → List Value → Prop) (m : Nat) (h0 : I m (sl.map e))
  (hr : ∀ m vs h w, I m vs → Holds s w rs → C P n (thenE (fun e' w' => Agr wr e e' ∧ ∃ k, k < m ∧ I k (sl.map e') ∧ Holds s w' rs) Q) c (upds sl vs (hav wr h e)) w) : C P n Q (.loop c) e w :=
 C.loopS wr sl hs (fun m vs w => I m vs ∧ Holds s w rs) m ⟨h0, H⟩ (fun m vs h w hj => hr m vs h w hj.1 hj.2)
theorem K.app0 {d : Nat} {t el : TypeId} {size bytes : Nat} {z : List Value} {tt : Nat} {pp : String} {af : Array Edge} [E : ElC P t el size bytes z] {x y : Operand} (i : Nat) {v xv : Value} {m : Nat} {news : List Value} (H : Holds s w rs) (hi : rs[i]? = some (row el size v 0 [])) (hsrc : Src s rs xv size m news) (h1 : ∀ u ∈ news, u.oneCell' = true) (h63 : m ≤ maxLen) (hbytes : m * bytes ≤ 140737488355328) (hd : Nat.blt d n = true) (hx : ev e x = v) (hy : ev e y = xv)
  (h : ∀ aa cc w', Holds s w' (rs.set i (row el size (.slice aa m cc) m news)) → L P n ops Q rest (upd e d (.slice aa m cc)) w') : L P n ops Q (⟨some d, .call { callee := .builtin .append, args := #[x, y], argTypes := #[t, t] }, tt, pp, af, none⟩ :: rest) e w :=
 K.app i H hi hsrc h1 (by omega) (by rw [Nat.zero_add]; exact hbytes) hd hx hy (fun aa cc w' H' => by
  rw [Nat.zero_add, List.nil_append] at H'
  rw [Nat.zero_add]
  exact h aa cc w' H')
theorem Holds.form (H : Holds s w rs) {i n sz cc : Nat} {el : TypeId} {aa : Option Addr} {xs : List Value} (hi : rs[i]? = some (Own.row el sz (.slice aa n cc) n xs)) (hn : 0 < n) : ∃ g, aa = some ⟨g, 0, none⟩ ∧ n ≤ cc ∧ cc ≤ maxLen := by
 obtain ⟨_, h⟩ := H.row hi
 rcases h with ⟨_, h⟩ | ⟨g, cap, cur, hv, _, _, h1, h2, _⟩
 ·omega
 ·cases hv; exact ⟨g, rfl, h1, h2⟩
theorem K.build {d : Nat} {tt : Nat} {pp : String} {af : Array Edge} {g : Option (Nat × Bool)} {ty : TypeId} {parts : Array (Nat × Operand)} (ps : List (Nat × Value)) (v : Value) (hrun : ∀ w, (Instr.build ty ps.toArray).run P w = .ok v w) (hw : wg n ops g e = true) (hd : Nat.blt d n = true) (hps : (parts.toList.map fun x => (x.1, ev e x.2)) = ps) (h : L P n ops Q rest (upd e d v) w) : L P n ops Q (⟨some d, .build ty parts, tt, pp, af, g⟩ :: rest) e w := by
 refine L.val (o := ⟨some d, .build ty parts, tt, pp, af, g⟩) v w hw hd (run_v (sm := Instr.build ty ps.toArray) ?_ (hrun w)) h
 have : (parts.map fun (i, x) => (i, ev e x)) = ps.toArray := by
  apply Array.toList_inj.1
  rw [Array.toList_map]
  exact hps
 unfold execOp
 simp only [this]
theorem run_sliceBound {k : IntKind} {i : Int} {y : Nat} {c : BoundsCode} {j : Nat} (hi : i = (j : Int)) (h : j ≤ y) : (Instr.sliceBound (.int k i) y c).run P w = .ok j w := by
 subst hi
 simp [Instr.sliceBound, asIntOf, h]
theorem K.nil {d : Nat} {tt : Nat} {pp : String} {af : Array Edge} {g : Option (Nat × Bool)} {x : Operand} {a : Addr} (hw : wg n ops g e = true) (hd : Nat.blt d n = true) (hx : ev e x = .pointer (some a)) (h : L P n ops Q rest (upd e d (.pointer (some a))) w) : L P n ops Q (⟨some d, .nilCheck x, tt, pp, af, g⟩ :: rest) e w :=
 L.val (o := ⟨some d, .nilCheck x, tt, pp, af, g⟩) _ w hw hd (by unfold execOp; simp [hx]) h
theorem K.arr {d : Nat} {tt : Nat} {pp : String} {af : Array Edge} {g : Option (Nat × Bool)} {t : TypeId} {x : Operand} {a : Addr} {len sz : Nat} {one : Bool} [A : ArrC P t len sz one] (hw : wg n ops g e = true) (hd : Nat.blt d n = true) (hx : ev e x = .pointer (some a)) (h : L P n ops Q rest (upd e d (.slice (some a) len len)) w) : L P n ops Q (⟨some d, .slice t x none none none, tt, pp, af, g⟩ :: rest) e w := by
 obtain ⟨el, dd, h1, h2, h3, h4⟩ := A.arr
 refine L.val (o := ⟨some d, .slice t x none none none, tt, pp, af, g⟩) _ w hw hd (run_v (sm := Instr.sliceAt t (ev e x) none none none) rfl ?_) h
 cases hq : P.info? el with
 | none => simp [hq] at h2
 | some i =>
  rw [hx]
  simp [Instr.sliceAt, run_underlying h1, Instr.sureAddr, Instr.sliceBounds, sizeOf, typeInfo, hq, Addr.add]
theorem K.from {d : Nat} {tt : Nat} {pp : String} {af : Array Edge} {g : Option (Nat × Bool)} {t el : TypeId} {x lo : Operand} {a : Option Addr} {m c sz by_ l : Nat} {zz : List Value} {k : IntKind} {il : Int} [E : ElC P t el sz by_ zz] (hw : wg n ops g e = true) (hd : Nat.blt d n = true) (hx : ev e x = .slice a m c) (hlo : ev e lo = .int k il) (hl : il = (l : Int)) (h1 : l ≤ m) (h : L P n ops Q rest (upd e d (.slice (subAddr a c l sz) (m - l) (c - l))) w) : L P n ops Q (⟨some d, .slice t x (some lo) none none, tt, pp, af, g⟩ :: rest) e w := by
 obtain ⟨v, E', _⟩ := E.el
 obtain ⟨inf, i1, i2, i3, i4⟩ := E'.info
 refine L.val (o := ⟨some d, .slice t x (some lo) none none, tt, pp, af, g⟩) _ w hw hd (run_v (sm := Instr.sliceAt t (ev e x) (some (ev e lo)) none none) rfl ?_) h
 rw [hx, hlo]
 simp [Instr.sliceAt, run_underlying E'.slice, Instr.slice, Instr.sliceBounds, run_sliceBound hl h1, sizeOf, typeInfo, i1, i3, subAddr]
theorem K.copyV {d : Nat} {tt : Nat} {pp : String} {af : Array Edge} {x y : Operand} {t u el : TypeId} {by_ : Nat} {zz : List Value} [E : ElC P t el 1 by_ zz] (i : Nat) {b off dl dc m q : Nat} {ty : TypeId} {cs xs : List Value} {xv : Value} (H : Holds s w rs) (hi : rs[i]? = some (var b ty cs)) (hsrc : Src s rs xv 1 m xs) (h1 : ∀ v ∈ xs, v.oneCell' = true) (hq : Nat.min m dl = q) (hfit : off + q ≤ cs.length) (hd : Nat.blt d n = true) (hx : ev e x = .slice (some ⟨b, off, none⟩) dl dc) (hy : ev e y = xv)
  (h : ∀ w', Holds s w' (rs.set i (var b ty (cs.take off ++ (xs.take dl ++ cs.drop (off + q))))) → L P n ops Q rest (upd e d (.int .i64 (q : Int))) w') : L P n ops Q (⟨some d, .call { callee := .builtin .copy, args := #[x, y], argTypes := #[t, u] }, tt, pp, af, none⟩ :: rest) e w := by
 obtain ⟨v, E', _⟩ := E.el
 obtain ⟨inf, i1, i2, i3, i4⟩ := E'.info
 refine ⟨fun a ha => copy_sl (d := x) (s := y) E'.slice (by rw [i1]; simp [i3]) rfl rfl (by rw [ha.eval]; exact hx) (by rw [ha.eval]; exact hy) (hsrc.sl H) (H.var hi) q hq (by simpa using hfit) h1 ?_⟩
 have := (h _ (H.setVar hi (cs.take off ++ (xs.take dl ++ cs.drop (off + q))))).go _ (ha.put (d := some d) hd _)
 exact this
theorem keep_var {s' : Ro} {rs' : List Asn} (H : Holds s w rs) (H' : Holds s' w' rs') {i j b : Nat} {t : TypeId} {cs : List Value} (hi : rs[i]? = some (Own.var b t cs)) (hj : rs'[j]? = some (Own.var b t cs)) : Reg.Keep [b] w w' := by
 intro k hk
 simp at hk; subst hk
 have h1 := H.var hi
 exact Reg.seen_cells h1 ((H'.var hj).trans h1.symm)
theorem keep_same {B : List Nat} : Reg.Keep B w w := fun x hx => rfl
end
section
variable {P : Program} {n : Nat} {ops : Array Oper} {Q : Post} {rest : List Oper} {e : Env} {w w' : World} {s : Ro} {rs : List Asn} {tt : Nat} {pp : String} {af : Array Edge} {g : Option (Nat × Bool)} {d : Nat}
theorem J.tru {c : Operand} {x y : Code} (h : C P n Q x e w) (hc : ev e c = .bool true := by rfl) : C P n Q (.cond c x y) e w := C.tru hc h
theorem J.fls {c : Operand} {x y : Code} (h : C P n Q y e w) (hc : ev e c = .bool false := by rfl) : C P n Q (.cond c x y) e w := C.fls hc h
theorem J.nil {l : List (Oper × Nat)} {R : Env → World → Prop} (h : R e w) (hc : chkE n ops l e = true := by rfl) : L P n ops (Q1 n ops l R) [] e w := L.nil ⟨rfl, hc, h⟩
theorem J.mv {x : Operand} {v : Value} (h : L P n ops Q rest (upd e d v) w) (hw : wg n ops g e = true := by rfl) (hd : Nat.blt d n = true := by rfl) (hx : ev e x = v := by conv => lhs; whnf) : L P n ops Q (⟨some d, .move x, tt, pp, af, g⟩ :: rest) e w := K.mv hw hd hx h
theorem J.asg {x : Operand} {v : Value} (h : L P n ops Q rest (upd e d v) w) (hw : wg n ops g e = true := by rfl) (hd : Nat.blt d n = true := by rfl) (hx : ev e x = v := by conv => lhs; whnf) : L P n ops Q (⟨some d, .assign x, tt, pp, af, g⟩ :: rest) e w := K.asg hw hd hx h
theorem J.pickT {c x y : Operand} {v : Value} (h : L P n ops Q rest (upd e d v) w) (hw : wg n ops g e = true := by rfl) (hd : Nat.blt d n = true := by rfl) (hc : ev e c = .bool true := by rfl) (hx : ev e x = v := by conv => lhs; whnf) : L P n ops Q (⟨some d, .pick c x y, tt, pp, af, g⟩ :: rest) e w := K.pickT hw hd hc hx h
theorem J.pickF {c x y : Operand} {v : Value} (h : L P n ops Q rest (upd e d v) w) (hw : wg n ops g e = true := by rfl) (hd : Nat.blt d n = true := by rfl) (hc : ev e c = .bool false := by rfl) (hx : ev e y = v := by conv => lhs; whnf) : L P n ops Q (⟨some d, .pick c x y, tt, pp, af, g⟩ :: rest) e w := K.pickF hw hd hc hx h
theorem J.not {op : Op} (h : L P n ops Q rest (upd e d undef) w) (hw : wg n ops g e = false := by rfl) (hd : Nat.blt d n = true := by rfl) : L P n ops Q (⟨some d, op, tt, pp, af, g⟩ :: rest) e w := K.not hw hd h
theorem J.fa0 {x : Operand} {t : TypeId} {k off b : Nat} [T : FldC P t k off] (h : L P n ops Q rest (upd e d (.pointer (some ⟨b, off, none⟩))) w) (hw : wg n ops g e = true := by rfl) (hd : Nat.blt d n = true := by rfl) (hx : ev e x = .pointer (some ⟨b, 0, none⟩) := by rfl) : L P n ops Q (⟨some d, .fieldAddr t x k, tt, pp, af, g⟩ :: rest) e w := K.fa0 hw hd hx h
theorem J.fa {x : Operand} {t : TypeId} {k off b j : Nat} [T : FldC P t k off] (h : L P n ops Q rest (upd e d (.pointer (some ⟨b, j + off, none⟩))) w) (hw : wg n ops g e = true := by rfl) (hd : Nat.blt d n = true := by rfl) (hx : ev e x = .pointer (some ⟨b, j, none⟩) := by rfl) : L P n ops Q (⟨some d, .fieldAddr t x k, tt, pp, af, g⟩ :: rest) e w := K.fa hw hd hx h
theorem J.len {x : Operand} {t : TypeId} {a : Option Addr} {m c : Nat} {el : TypeId} {sz by_ : Nat} {zz : List Value} [E : ElC P t el sz by_ zz] (h : L P n ops Q rest (upd e d (.int .i64 (m : Int))) w) (hw : wg n ops g e = true := by rfl) (hd : Nat.blt d n = true := by rfl) (hx : ev e x = .slice a m c := by rfl) : L P n ops Q (⟨some d, .call { callee := .builtin .len, args := #[x], argTypes := #[t] }, tt, pp, af, g⟩ :: rest) e w := K.len hw hd hx h
theorem J.lenS {x : Operand} {t : TypeId} {b : ByteArray} [T : StrC P t] (h : L P n ops Q rest (upd e d (.int .i64 (b.size : Int))) w) (hw : wg n ops g e = true := by rfl) (hd : Nat.blt d n = true := by rfl) (hx : ev e x = .string b := by rfl) : L P n ops Q (⟨some d, .call { callee := .builtin .len, args := #[x], argTypes := #[t] }, tt, pp, af, g⟩ :: rest) e w := K.lenS hw hd hx h
theorem bytes_eq {a b : ByteArray} : (a.toList == b.toList) = true ↔ a = b := by
 constructor
 ·intro h
  have := eq_of_beq h
  cases a; cases b
  simp only [ByteArray.toList_eq] at this
  exact congrArg _ (Array.toList_inj.1 this)
 ·rintro rfl; simp
theorem J.eqS {x y : Operand} {t u : TypeId} {a b : ByteArray} (h1 : a = b → L P n ops Q rest (upd e d (.bool true)) w) (h2 : a ≠ b → L P n ops Q rest (upd e d (.bool false)) w) (hw : wg n ops g e = true := by rfl) (hd : Nat.blt d n = true := by rfl) (hx : ev e x = .string a := by rfl) (hy : ev e y = .string b := by rfl) : L P n ops Q (⟨some d, .binOp .eql t x y u, tt, pp, af, g⟩ :: rest) e w := by
 by_cases hc : a = b
 ·exact L.cmpS hw hd rfl hx hy (by simp only [Own.cmpS]; rw [bytes_eq.2 hc]) (h1 hc)
 ·exact L.cmpS hw hd rfl hx hy (by simp only [Own.cmpS]; rw [Bool.eq_false_iff.2 (fun h => hc (bytes_eq.1 h))]) (h2 hc)
theorem J.neS {x y : Operand} {t u : TypeId} {a b : ByteArray} (h1 : a ≠ b → L P n ops Q rest (upd e d (.bool true)) w) (h2 : a = b → L P n ops Q rest (upd e d (.bool false)) w) (hw : wg n ops g e = true := by rfl) (hd : Nat.blt d n = true := by rfl) (hx : ev e x = .string a := by rfl) (hy : ev e y = .string b := by rfl) : L P n ops Q (⟨some d, .binOp .neq t x y u, tt, pp, af, g⟩ :: rest) e w := by
 by_cases hc : a = b
 ·exact L.cmpS hw hd rfl hx hy (by simp only [Own.cmpS]; rw [bytes_eq.2 hc]; rfl) (h2 hc)
 ·exact L.cmpS hw hd rfl hx hy (by simp only [Own.cmpS]; rw [Bool.eq_false_iff.2 (fun h => hc (bytes_eq.1 h))]; rfl) (h1 hc)
theorem J.ext {x : Operand} {i : Nat} {vs : Array Value} {v : Value} (h : L P n ops Q rest (upd e d v) w) (hw : wg n ops g e = true := by rfl) (hd : Nat.blt d n = true := by rfl) (hx : ev e x = .tuple vs := by rfl) (hv : vs[i]? = some v := by rfl) : L P n ops Q (⟨some d, .extract x i, tt, pp, af, g⟩ :: rest) e w := K.ext hw hd hx hv h
theorem J.neg {x : Operand} {t : TypeId} {b : Bool} (h : L P n ops Q rest (upd e d (.bool !b)) w) (hw : wg n ops g e = true := by rfl) (hd : Nat.blt d n = true := by rfl) (hx : ev e x = .bool b := by rfl) : L P n ops Q (⟨some d, .unOp .not t x, tt, pp, af, g⟩ :: rest) e w := K.not_ hw hd hx h
theorem J.add {x y : Operand} {t u : TypeId} {a b : Int} (h : L P n ops Q rest (upd e d (.int .i64 (a + b))) w) (hw : wg n ops g e = true := by rfl) (hd : Nat.blt d n = true := by rfl) (hx : ev e x = .int .i64 a := by rfl) (hy : ev e y = .int .i64 b := by rfl) (h1 : -9223372036854775808 ≤ a + b := by omega) (h2 : a + b ≤ 9223372036854775807 := by omega) : L P n ops Q (⟨some d, .binOp .add t x y u, tt, pp, af, g⟩ :: rest) e w := K.add hw hd hx hy h1 h2 h
theorem J.sub {x y : Operand} {t u : TypeId} {a b : Int} (h : L P n ops Q rest (upd e d (.int .i64 (a - b))) w) (hw : wg n ops g e = true := by rfl) (hd : Nat.blt d n = true := by rfl) (hx : ev e x = .int .i64 a := by rfl) (hy : ev e y = .int .i64 b := by rfl) (h1 : -9223372036854775808 ≤ a - b := by omega) (h2 : a - b ≤ 9223372036854775807 := by omega) : L P n ops Q (⟨some d, .binOp .sub t x y u, tt, pp, af, g⟩ :: rest) e w := K.sub hw hd hx hy h1 h2 h
theorem J.mul {x y : Operand} {t u : TypeId} {a b : Int} (h : L P n ops Q rest (upd e d (.int .i64 (a * b))) w) (hw : wg n ops g e = true := by rfl) (hd : Nat.blt d n = true := by rfl) (hx : ev e x = .int .i64 a := by rfl) (hy : ev e y = .int .i64 b := by rfl) (h1 : -9223372036854775808 ≤ a * b := by omega) (h2 : a * b ≤ 9223372036854775807 := by omega) : L P n ops Q (⟨some d, .binOp .mul t x y u, tt, pp, af, g⟩ :: rest) e w := K.mul hw hd hx hy h1 h2 h
theorem J.cat {x y : Operand} {t u : TypeId} {a b : ByteArray} (h : L P n ops Q rest (upd e d (.string (a ++ b))) w) (hw : wg n ops g e = true := by rfl) (hd : Nat.blt d n = true := by rfl) (hx : ev e x = .string a := by rfl) (hy : ev e y = .string b := by rfl) (hl : a.size + b.size ≤ 9223372036854775807 := by omega) : L P n ops Q (⟨some d, .binOp .add t x y u, tt, pp, af, g⟩ :: rest) e w := K.cat hw hd hx hy hl h
theorem J.nilP {op : BinOp} {x y : Operand} {t u el : TypeId} {p : Option Addr} [T : PtrC P t el] {r : Bool} (h : L P n ops Q rest (upd e d (.bool r)) w) (hw : wg n ops g e = true := by rfl) (hd : Nat.blt d n = true := by rfl) (hx : ev e x = .pointer p := by rfl) (hy : ev e y = .pointer none := by rfl) (hr : cmP op p = some r := by rfl) : L P n ops Q (⟨some d, .binOp op t x y u, tt, pp, af, g⟩ :: rest) e w := K.nilP hw hd hx hy hr h
theorem J.ia {x y : Operand} {t el : TypeId} {gb off m c i sz by_ : Nat} {zz : List Value} {k : IntKind} {ii : Int} [E : ElC P t el sz by_ zz] (h : L P n ops Q rest (upd e d (.pointer (some ⟨gb, off + i * sz, none⟩))) w) (hw : wg n ops g e = true := by rfl) (hd : Nat.blt d n = true := by rfl) (hx : ev e x = .slice (some ⟨gb, off, none⟩) m c := by rfl) (hy : ev e y = .int k ii := by rfl) (hi : ii = (i : Int) := by rfl) (hlt : i < m := by omega) : L P n ops Q (⟨some d, .indexAddr t x y, tt, pp, af, g⟩ :: rest) e w := K.ia hw hd hx hy hi hlt h
theorem J.iaA {x y : Operand} {t : TypeId} {gb off len i sz : Nat} {one : Bool} {k : IntKind} {ii : Int} [A : ArrC P t len sz one] (h : L P n ops Q rest (upd e d (.pointer (some ⟨gb, off + i * sz, none⟩))) w) (hw : wg n ops g e = true := by rfl) (hd : Nat.blt d n = true := by rfl) (hx : ev e x = .pointer (some ⟨gb, off, none⟩) := by rfl) (hy : ev e y = .int k ii := by rfl) (hi : ii = (i : Int) := by rfl) (hlt : i < len := by omega) : L P n ops Q (⟨some d, .indexAddr t x y, tt, pp, af, g⟩ :: rest) e w := K.iaA hw hd hx hy hi hlt h
theorem J.chk {x : Operand} {a : Addr} (h : L P n ops Q rest (upd e d (.pointer (some a))) w) (hw : wg n ops g e = true := by rfl) (hd : Nat.blt d n = true := by rfl) (hx : ev e x = .pointer (some a) := by rfl) : L P n ops Q (⟨some d, .nilCheck x, tt, pp, af, g⟩ :: rest) e w := K.nil hw hd hx h
theorem J.arr {t : TypeId} {x : Operand} {a : Addr} {len sz : Nat} {one : Bool} [A : ArrC P t len sz one] (h : L P n ops Q rest (upd e d (.slice (some a) len len)) w) (hw : wg n ops g e = true := by rfl) (hd : Nat.blt d n = true := by rfl) (hx : ev e x = .pointer (some a) := by rfl) : L P n ops Q (⟨some d, .slice t x none none none, tt, pp, af, g⟩ :: rest) e w := K.arr hw hd hx h
theorem J.box {ty : TypeId} {x : Operand} {cs : List Value} (H : Holds s w rs) (h : ∀ b w', Holds s w' (var b ty cs :: rs) → L P n ops Q rest (upd e d (.pointer (some ⟨b, 0, none⟩))) w') (hw : wg n ops g e = true := by rfl) (hd : Nat.blt d n = true := by rfl) (hx : ev e x = .agg cs.toArray := by rfl) : L P n ops Q (⟨some d, .box ty x, tt, pp, af, g⟩ :: rest) e w := K.box H hw hd hx h
theorem J.box1 {ty : TypeId} {x : Operand} {v : Value} (H : Holds s w rs) (h : ∀ b w', Holds s w' (var b ty [v] :: rs) → L P n ops Q rest (upd e d (.pointer (some ⟨b, 0, none⟩))) w') (hw : wg n ops g e = true := by rfl) (hd : Nat.blt d n = true := by rfl) (hx : ev e x = v := by conv => lhs; whnf) (h1 : v.oneCell' = true := by rfl) : L P n ops Q (⟨some d, .box ty x, tt, pp, af, g⟩ :: rest) e w := K.box1 H hw hd hx h1 h
theorem J.new {ty : TypeId} {z : List Value} [T : ZeroC P ty z] (H : Holds s w rs) (h : ∀ b w', Holds s w' (var b ty z :: rs) → L P n ops Q rest (upd e d (.pointer (some ⟨b, 0, none⟩))) w') (hw : wg n ops g e = true := by rfl) (hd : Nat.blt d n = true := by rfl) : L P n ops Q (⟨some d, .alloc ty, tt, pp, af, g⟩ :: rest) e w := K.alloc H hw hd h
theorem J.empty {t el : TypeId} {size bytes : Nat} {z : List Value} [E : ElC P t el size bytes z] (H : Holds s w rs) (h : ∀ gb w', Holds s w' (row el size (.slice (some ⟨gb, 0, none⟩) 0 0) 0 [] :: rs) → L P n ops Q rest (upd e d (.slice (some ⟨gb, 0, none⟩) 0 0)) w') (hw : wg n ops g e = true := by rfl) (hd : Nat.blt d n = true := by rfl) : L P n ops Q (⟨some d, .buildSlice t 0 #[], tt, pp, af, g⟩ :: rest) e w := K.empty H hw hd h
end
theorem flat_get {α β : Type} {f : α → List β} {sz : Nat} : ∀ (l : List α), (∀ x ∈ l, (f x).length = sz) → ∀ (i j : Nat) (hi : i < l.length), j < sz → (l.flatMap f)[i * sz + j]? = (f l[i])[j]?
 | [], _, i, j, hi, _ => by simp at hi
 | x :: l, hf, 0, j, hi, hj => by
  rw [List.flatMap_cons, Nat.zero_mul, Nat.zero_add, List.getElem?_append_left (by rw [hf x (by simp)]; exact hj)]
  rfl
 | x :: l, hf, i + 1, j, hi, hj => by
  have hx := hf x (by simp)
  rw [List.flatMap_cons, List.getElem?_append_right (by rw [hx, Nat.add_mul]; omega), hx]
  have : (i + 1) * sz + j - sz = i * sz + j := by rw [Nat.add_mul]; omega
  rw [this, flat_get l (fun y hy => hf y (by simp [hy])) i j (by simpa using hi) hj]
  rfl
theorem elemS {s : Ro} {α : Type} {f : α → List Value} {v : Value} {sz : Nat} {l : List α} (h : SlS s v sz l.length (l.flatMap f)) (hf : ∀ x ∈ l, (f x).length = sz) (hsz : 0 < sz) (hne : 0 < l.length) :
  ∃ g o c, v = .slice (some ⟨g, o, none⟩) l.length c ∧ l.length ≤ c ∧ c ≤ maxLen ∧ ∀ i (hi : i < l.length) j x, (f l[i])[j]? = some x → Pin s g (o + i * sz + j) x := by
 obtain ⟨g, o, c, rfl, h1, h2, h3⟩ := posS h hne hsz
 refine ⟨g, o, c, rfl, h1, h2, fun i hi j x hx => ?_⟩
 have hj : j < sz := by
  have := (List.getElem?_eq_some_iff.1 hx).1
  rwa [hf _ (List.getElem_mem hi)] at this
 rw [Nat.add_assoc]
 exact h3 _ _ (by rw [flat_get l hf i j hi hj]; exact hx)
theorem elemS1 {s : Ro} {α : Type} {f : α → Value} {v : Value} {l : List α} (h : SlS s v 1 l.length (l.map f)) (hne : 0 < l.length) :
  ∃ g o c, v = .slice (some ⟨g, o, none⟩) l.length c ∧ l.length ≤ c ∧ c ≤ maxLen ∧ ∀ i (hi : i < l.length), Pin s g (o + i) (f l[i]) := by
 obtain ⟨g, o, c, rfl, h1, h2, h3⟩ := posS h hne (by decide)
 exact ⟨g, o, c, rfl, h1, h2, fun i hi => h3 i (f l[i]) (by simp [hi])⟩
theorem formS {s : Ro} {v : Value} {sz n : Nat} {xs : List Value} (h : SlS s v sz n xs) : ∃ a c, v = .slice a n c ∧ n ≤ c ∧ c ≤ maxLen := by
 obtain ⟨a, c, h1, _, h2, h3, _⟩ := h; exact ⟨a, c, h1, h2, h3⟩
def DM.lay (d : DM) (all : Bool) (sv : List Bool) : DM := { d with secs := if all then layAll d.secs d.pend else layS d.secs d.pend sv, pend := [] }
def layT (d : DM) (all : Bool) (sv : List Bool) (i : Nat) : List (List UInt8) := if all then layAll d.secs (d.pend.take i) else layS d.secs (d.pend.take i) sv
theorem layT_len (d : DM) (all : Bool) (sv : List Bool) (i : Nat) : (layT d all sv i).length = d.secs.length := by
 unfold layT; split <;> simp [layAll_len, layS_len]
theorem layT_succ (d : DM) (all : Bool) (sv : List Bool) {i : Nat} (h : i < d.pend.length) : layT d all sv (i + 1) = if (all || sv[i]?.getD false) = true then (layT d all sv i).set d.pend[i].1 d.pend[i].2 else layT d all sv i := by
 unfold layT
 rw [take_snoc' _ h]
 have hl : (d.pend.take i).length = i := by simp; omega
 cases all with
 | true => simp only [if_true, Bool.true_or]; exact layAll_snoc _ _ _
 | false =>
  have := layS_snoc d.secs (d.pend.take i) d.pend[i] sv
  rw [hl] at this
  simpa using this
theorem layT_all (d : DM) (all : Bool) (sv : List Bool) : layT d all sv d.pend.length = (d.lay all sv).secs := by
 unfold layT DM.lay; rw [List.take_length]
theorem DM.Wf.lay {d : DM} (h : d.Wf) (all : Bool) (sv : List Bool) : (d.lay all sv).Wf := by
 have h1 := h.lo
 have h2 := h.hi
 refine ⟨?_, fun p hp => by simp [DM.lay] at hp, ?_, ?_, h.l0, h.l1⟩
 ·unfold DM.lay
  cases all
  ·exact layS_64 _ _ _ h.sec (fun q hq => (h.pnd q hq).2)
  ·exact layAll_64 _ _ h.sec (fun q hq => (h.pnd q hq).2)
 ·unfold DM.lay; cases all <;> simp [layAll_len, layS_len, h1]
 ·unfold DM.lay; cases all <;> simp [layAll_len, layS_len, h2]
section
variable {P : Program} {n : Nat} {ops : Array Oper} {Q : Post} {rest : List Oper} {e : Env} {w w' : World} {s : Ro} {rs : List Asn}
theorem Holds.drop1 {A B : Asn} (H : Holds s w (A :: B :: rs)) : Holds s w (A :: rs) := (H.up 1 rfl).tail
theorem C.loopR {c : Code} {A : Asn} (H : Holds s w (A :: rs)) (wr sl : List Nat) (hs : sl.all (fun t => wr.any (Nat.beq t)) = true) (I : Nat → List Value → Asn → Prop) (m : Nat) (h0 : I m (sl.map e) A)
  (hr : ∀ m vs h w A, I m vs A → Holds s w (A :: rs) → C P n (thenE (fun e' w' => Agr wr e e' ∧ ∃ k, k < m ∧ ∃ A', I k (sl.map e') A' ∧ Holds s w' (A' :: rs)) Q) c (upds sl vs (hav wr h e)) w) : C P n Q (.loop c) e w := by
 refine C.loopS wr sl hs (fun m vs w => ∃ A, I m vs A ∧ Holds s w (A :: rs)) m ⟨A, h0, H⟩ (fun m vs h w hj => ?_)
 obtain ⟨A, h1, h2⟩ := hj
 exact hr m vs h w A h1 h2
theorem K.copyR {d : Nat} {tt : Nat} {pp : String} {af : Array Edge} {x y : Operand} {t u el el' : TypeId} {by_ : Nat} {zz : List Value} [E : ElC P t el 1 by_ zz] (i : Nat) {g off dl dc m c k q : Nat} {xs ys : List Value} {yv : Value} (H : Holds s w rs) (hi : rs[i]? = some (row el' 1 (.slice (some ⟨g, 0, none⟩) m c) m xs)) (hsrc : Src s rs yv 1 k ys) (h1 : ∀ v ∈ ys, v.oneCell' = true) (hq : Nat.min k dl = q) (hfit : off + dl ≤ m) (hd : Nat.blt d n = true) (hx : ev e x = .slice (some ⟨g, off, none⟩) dl dc) (hy : ev e y = yv)
  (h : ∀ w', Holds s w' (rs.set i (row el' 1 (.slice (some ⟨g, 0, none⟩) m c) m (xs.take off ++ (ys.take dl ++ xs.drop (off + q))))) → L P n ops Q rest (upd e d (.int .i64 (q : Int))) w') : L P n ops Q (⟨some d, .call { callee := .builtin .copy, args := #[x, y], argTypes := #[t, u] }, tt, pp, af, none⟩ :: rest) e w := by
 obtain ⟨v, E', _⟩ := E.el
 obtain ⟨inf, i1, i2, i3, i4⟩ := E'.info
 have hrow := H.row hi
 obtain ⟨hlen, hrw⟩ := hrow
 have hyl : ys.length = k := by obtain ⟨_, _, _, h', _⟩ := hsrc.sl H; simpa using h'
 rcases hrw with ⟨hv, _⟩ | ⟨g', cap, cur, hv, _, hg, a1, a2, a3, a4⟩
 ·cases hv
 ·cases hv
  rw [Nat.mul_one] at hlen a3 a4
  have hq' : q ≤ dl := by rw [← hq]; exact Nat.min_le_right _ _
  have hqk : (ys.take dl).length = q := by rw [List.length_take, hyl, ← hq]; exact Nat.min_comm _ _
  refine ⟨fun a ha => copy_sl (d := x) (s := y) E'.slice (by rw [i1]; simp [i3]) rfl rfl (by rw [ha.eval]; exact hx) (by rw [ha.eval]; exact hy) (hsrc.sl H) hg q hq (by omega) h1 ?_⟩
  have H' := H.only_row hi (w' := w.setRow g (cur.toList.take off ++ (ys.take dl ++ cur.toList.drop (off + q))).toArray) (v' := .slice (some ⟨g, 0, none⟩) m c) (n' := m) (xs' := xs.take off ++ (ys.take dl ++ xs.drop (off + q))) ⟨by simp only [List.length_append, List.length_take, List.length_drop, hlen] at hqk ⊢; omega, .inr ⟨g, c, _, rfl, Nat.zero_le _, setRow_heap _ _ _ _ _ _ hg, a1, a2, by
   have hcl : cur.toList.length = c := by simpa using a3
   simp only [List.size_toArray, List.length_append, List.length_take, List.length_drop, hcl] at hqk ⊢; omega, ?_⟩⟩ (only_setRow _ _ _ (by simp [Value.ownBlock])) (fun k hk => .inl hk)
  ·have := (h _ H').go _ (ha.put (d := some d) hd (.int .i64 (q : Int)))
   exact this
  ·rw [Nat.mul_one, ← a4]
   have e1 : (cur.toList.take m).take off = cur.toList.take off := by rw [List.take_take, Nat.min_eq_left (by omega)]
   have e2 : (cur.toList.take m).drop (off + q) = (cur.toList.drop (off + q)).take (m - (off + q)) := by rw [List.drop_take]
   have hcl : cur.toList.length = c := by simpa using a3
   have l1 : (cur.toList.take off).length = off := by rw [List.length_take]; omega
   rw [e1, e2]
   show (cur.toList.take off ++ (ys.take dl ++ cur.toList.drop (off + q))).take m = _
   have t1 : (cur.toList.take off).take m = cur.toList.take off := List.take_of_length_le (by rw [l1]; omega)
   have t2 : (ys.take dl).take (m - off) = ys.take dl := List.take_of_length_le (by rw [hqk]; omega)
   rw [List.take_append, l1, t1, List.take_append, hqk, t2, show m - off - q = m - (off + q) by omega]
variable {tt : Nat} {pp : String} {af : Array Edge} {g : Option (Nat × Bool)}
end
section
variable {P : Program} {n : Nat} {ops : Array Oper} {Q : Post} {rest : List Oper} {e : Env} {w w' : World} {s : Ro} {rs : List Asn}
end
section
variable {P : Program} {n : Nat} {ops : Array Oper} {Q : Post} {rest : List Oper} {e : Env} {w w' : World} {s : Ro} {rs : List Asn}
theorem K.lit {d : Nat} {tt : Nat} {pp : String} {af : Array Edge} {g : Option (Nat × Bool)} {ty : TypeId} {parts : Array (Nat × Operand)} {k : Nat} (ps : List (Nat × Value)) (el : TypeId) (size : Nat) (cs : List Value) (H : Holds s w rs)
  (hrun : ∀ w, (Instr.buildSlice ty k ps.toArray).run P w = .ok (.slice (some ⟨w.heap.size, 0, none⟩) k k) (w.alloc (.cells cs.toArray el))) (hw : wg n ops g e = true) (hd : Nat.blt d n = true) (hps : (parts.toList.map fun x => (x.1, ev e x.2)) = ps) (hl : cs.length = k * size) (hk : k ≤ maxLen)
  (h : ∀ gb w', Holds s w' (row el size (.slice (some ⟨gb, 0, none⟩) k k) k cs :: rs) → L P n ops Q rest (upd e d (.slice (some ⟨gb, 0, none⟩) k k)) w') : L P n ops Q (⟨some d, .buildSlice ty k parts, tt, pp, af, g⟩ :: rest) e w := by
 refine L.val (o := ⟨some d, .buildSlice ty k parts, tt, pp, af, g⟩) _ _ hw hd (run_v (sm := Instr.buildSlice ty k ps.toArray) ?_ (hrun w)) (h _ _ (H.add (F1 := [w.heap.size]) ⟨rfl, ?_⟩ (only_alloc _ _ _) (by simp)))
 ·have : (parts.map fun (i, x) => (i, ev e x)) = ps.toArray := by
   apply Array.toList_inj.1
   rw [Array.toList_map]
   exact hps
  unfold execOp
  simp only [this]
 ·exact ⟨hl, .inr ⟨_, k, cs.toArray, rfl, Nat.zero_le _, heap_alloc_new _ _, Nat.le_refl _, hk, by simp [hl], by simp [← hl]⟩⟩
theorem Addr.add0 (a : Addr) : a.add 0 = a := by cases a; simp [Addr.add]
theorem K.upto {d : Nat} {tt : Nat} {pp : String} {af : Array Edge} {g : Option (Nat × Bool)} {t el : TypeId} {x hi : Operand} {a : Option Addr} {m c sz by_ l : Nat} {zz : List Value} {k : IntKind} {ih : Int} [E : ElC P t el sz by_ zz] (hw : wg n ops g e = true) (hd : Nat.blt d n = true) (hx : ev e x = .slice a m c) (hhi : ev e hi = .int k ih) (hl : ih = (l : Int)) (h1 : l ≤ c)
  (h : L P n ops Q rest (upd e d (.slice a l c)) w) : L P n ops Q (⟨some d, .slice t x none (some hi) none, tt, pp, af, g⟩ :: rest) e w := by
 obtain ⟨u, E', _⟩ := E.el
 obtain ⟨i, i1, i2, i3, i4⟩ := E'.info
 refine L.val (o := ⟨some d, .slice t x none (some hi) none, tt, pp, af, g⟩) _ w hw hd (run_v (sm := Instr.sliceAt t (ev e x) none (some (ev e hi)) none) rfl ?_) h
 rw [hx, hhi]
 cases a with
 | none => simp [Instr.sliceAt, run_underlying E'.slice, Instr.slice, Instr.sliceBounds, run_sliceBound hl h1, sizeOf, typeInfo, i1, i3]
 | some a => simp [Instr.sliceAt, run_underlying E'.slice, Instr.slice, Instr.sliceBounds, run_sliceBound hl h1, sizeOf, typeInfo, i1, i3, Addr.add0]
theorem SlS.upto {a : Option Addr} {c sz n l : Nat} {xs : List Value} (h : SlS s (.slice a n c) sz n xs) (hl : l ≤ n) : SlS s (.slice a l c) sz l (xs.take (l * sz)) := by
 obtain ⟨a', c', hv, h1, h2, h3, h4⟩ := h
 cases hv
 refine ⟨a, c, rfl, ?_, by omega, h3, ?_⟩
 ·rw [List.length_take, h1]; exact Nat.min_eq_left (Nat.mul_le_mul_right _ hl)
 ·rcases h4 with rfl | ⟨g, o, rfl, h5⟩
  ·left; simp
  ·right
   refine ⟨g, o, rfl, fun j x hj => h5 j x ?_⟩
   rw [List.getElem?_take] at hj
   split at hj
   ·exact hj
   ·cases hj
end
class CmpC (op : BinOp) (p q : outParam (Int → Int → Prop)) : Prop where
 spec : ∀ a b, (p a b ∧ cmpI op a b = some true) ∨ (q a b ∧ cmpI op a b = some false)
instance : CmpC .lss (fun a b => a < b) (fun a b => b ≤ a) := ⟨fun a b => by by_cases h : a < b <;> simp [cmpI] <;> omega⟩
instance : CmpC .leq (fun a b => a ≤ b) (fun a b => b < a) := ⟨fun a b => by by_cases h : a ≤ b <;> simp [cmpI] <;> omega⟩
instance : CmpC .gtr (fun a b => b < a) (fun a b => a ≤ b) := ⟨fun a b => by by_cases h : b < a <;> simp [cmpI] <;> omega⟩
instance : CmpC .geq (fun a b => b ≤ a) (fun a b => a < b) := ⟨fun a b => by by_cases h : b ≤ a <;> simp [cmpI] <;> omega⟩
instance : CmpC .eql (fun a b => a = b) (fun a b => a ≠ b) := ⟨fun a b => by by_cases h : a = b <;> simp [cmpI, h]⟩
instance : CmpC .neq (fun a b => a ≠ b) (fun a b => a = b) := ⟨fun a b => by by_cases h : a = b <;> simp [cmpI, h]⟩
class PutV (rs : List Asn) (b : Nat) (t : outParam TypeId) (cs : outParam (List Value)) (f : outParam (List Value → List Asn)) : Prop where
 ix : ∃ i, rs[i]? = some (var b t cs) ∧ ∀ cs', rs.set i (var b t cs') = f cs'
instance (priority := high) PutV.head {b : Nat} {t : TypeId} {cs : List Value} {rs : List Asn} : PutV (var b t cs :: rs) b t cs (fun cs' => var b t cs' :: rs) := ⟨⟨0, rfl, fun _ => rfl⟩⟩
instance PutV.tail {A : Asn} {b : Nat} {t : TypeId} {cs : List Value} {rs : List Asn} {f : List Value → List Asn} [h : PutV rs b t cs f] : PutV (A :: rs) b t cs (fun cs' => A :: f cs') := by
 obtain ⟨i, h1, h2⟩ := h.ix
 exact ⟨⟨i + 1, h1, fun cs' => by rw [List.set_cons_succ, h2]⟩⟩
class PutR (rs : List Asn) (b : Nat) (e : outParam TypeId) (sz n c : outParam Nat) (xs : outParam (List Value)) (f : outParam (List Value → List Asn)) : Prop where
 ix : ∃ i, rs[i]? = some (row e sz (.slice (some ⟨b, 0, none⟩) n c) n xs) ∧ ∀ xs', rs.set i (row e sz (.slice (some ⟨b, 0, none⟩) n c) n xs') = f xs'
instance (priority := high) PutR.head {b : Nat} {e : TypeId} {sz n c : Nat} {xs : List Value} {rs : List Asn} : PutR (row e sz (.slice (some ⟨b, 0, none⟩) n c) n xs :: rs) b e sz n c xs (fun xs' => row e sz (.slice (some ⟨b, 0, none⟩) n c) n xs' :: rs) := ⟨⟨0, rfl, fun _ => rfl⟩⟩
instance PutR.tail {A : Asn} {b : Nat} {e : TypeId} {sz n c : Nat} {xs : List Value} {rs : List Asn} {f : List Value → List Asn} [h : PutR rs b e sz n c xs f] : PutR (A :: rs) b e sz n c xs (fun xs' => A :: f xs') := by
 obtain ⟨i, h1, h2⟩ := h.ix
 exact ⟨⟨i + 1, h1, fun cs' => by rw [List.set_cons_succ, h2]⟩⟩
class SetL (cs : List Value) (off : Nat) (v : Value) (cs' : outParam (List Value)) : Prop where
 eq : cs.set off v = cs'
instance SetL.zero {a v : Value} {r : List Value} : SetL (a :: r) 0 v (v :: r) := ⟨rfl⟩
instance SetL.succ {a v : Value} {r r' : List Value} {k : Nat} [h : SetL r k v r'] : SetL (a :: r) (k + 1) v (a :: r') := ⟨by rw [List.set_cons_succ, h.eq]⟩
class TakeA (rs : List Asn) (A : Asn) (rest : outParam (List Asn)) : Prop where
 ix : ∃ (i : Nat), rs[i]? = some A ∧ rs.eraseIdx i = rest
instance (priority := high) TakeA.head {A : Asn} {rs : List Asn} : TakeA (A :: rs) A rs := ⟨⟨0, rfl, rfl⟩⟩
instance TakeA.tail {A B : Asn} {rs rest : List Asn} [h : TakeA rs A rest] : TakeA (B :: rs) A (B :: rest) := by
 obtain ⟨i, h1, h2⟩ := h.ix
 exact ⟨⟨i + 1, h1, by rw [List.eraseIdx_cons_succ, h2]⟩⟩
class Arr (rs rs' : List Asn) : Prop where
 sub : ∀ w F, Sep w rs F → ∃ F', Sep w rs' F' ∧ ∀ k ∈ F', k ∈ F
instance (priority := high) Arr.refl {rs : List Asn} : Arr rs rs := ⟨fun w F h => ⟨F, h, fun _ h => h⟩⟩
instance Arr.cons {A : Asn} {rs rs' rest : List Asn} [h : TakeA rs A rest] [k : Arr rest rs'] : Arr rs (A :: rs') := by
 obtain ⟨i, h1, h2⟩ := h.ix
 refine ⟨fun w F hF => ?_⟩
 obtain ⟨F', hF', hs⟩ := hF.up h1
 rw [h2] at hF'
 obtain ⟨F1, F2, rfl, a1, a2, a3⟩ := hF'
 obtain ⟨G, g1, g2⟩ := k.sub w F2 a2
 exact ⟨F1 ++ G, ⟨F1, G, rfl, a1, g1, fun x hx hg => a3 x hx (g2 x hg)⟩, fun x hx => hs x (by
  rcases List.mem_append.1 hx with h | h
  ·simp [h]
  ·simp [g2 x h])⟩
instance (priority := low) Arr.drop {A : Asn} {rs rs' : List Asn} [k : Arr rs rs'] : Arr (A :: rs) rs' := ⟨fun w F h => by
 obtain ⟨F1, F2, rfl, a1, a2, a3⟩ := h
 obtain ⟨G, g1, g2⟩ := k.sub w F2 a2
 exact ⟨G, g1, fun x hx => by simp [g2 x hx]⟩⟩
theorem Holds.arr {s : Ro} {w : World} {rs rs' : List Asn} (H : Holds s w rs) (T : Arr rs rs' := by infer_instance) : Holds s w rs' := by
 obtain ⟨hf, F, hF, hn⟩ := H
 obtain ⟨G, g1, g2⟩ := T.sub w F hF
 exact ⟨hf, G, g1, fun k hk => hn k (g2 k hk)⟩
section
variable {P : Program} {n : Nat} {ops : Array Oper} {Q : Post} {rest : List Oper} {e : Env} {w w' : World} {s : Ro} {rs : List Asn} {tt : Nat} {pp : String} {af : Array Edge} {g : Option (Nat × Bool)} {d : Nat}
theorem X.cm {op : BinOp} {p q : Int → Int → Prop} [T : CmpC op p q] {x y : Operand} {t u : TypeId} {k : IntKind} {a b : Int} (h1 : p a b → L P n ops Q rest (upd e d (.bool true)) w) (h2 : q a b → L P n ops Q rest (upd e d (.bool false)) w) (hw : wg n ops g e = true := by rfl) (hd : Nat.blt d n = true := by rfl) (hx : ev e x = .int k a := by rfl) (hy : ev e y = .int k b := by rfl) : L P n ops Q (⟨some d, .binOp op t x y u, tt, pp, af, g⟩ :: rest) e w := by
 rcases T.spec a b with ⟨h, k⟩ | ⟨h, k⟩
 ·exact K.cmp hw hd hx hy k (h1 h)
 ·exact K.cmp hw hd hx hy k (h2 h)
theorem X.ld {ty : TypeId} {x : Operand} [OneC P ty] {b off : Nat} {t : TypeId} {cs : List Value} {f : List Value → List Asn} {v : Value} (H : Holds s w rs) (h : L P n ops Q rest (upd e d v) w) (hw : wg n ops g e = true := by rfl) (hd : Nat.blt d n = true := by rfl) (hx : ev e x = .pointer (some ⟨b, off, none⟩) := by rfl) (T : PutV rs b t cs f := by infer_instance) (hv : cs[off]? = some v := by rfl) : L P n ops Q (⟨some d, .load ty x, tt, pp, af, g⟩ :: rest) e w := by
 obtain ⟨i, hi, _⟩ := T.ix
 exact K.load i H hw hd hx hi hv h
theorem X.lda {ty : TypeId} {x : Operand} {k : Nat} [RowC P ty k] {b : Nat} {t : TypeId} {cs : List Value} {f : List Value → List Asn} (H : Holds s w rs) (h : L P n ops Q rest (upd e d (.agg cs.toArray)) w) (hw : wg n ops g e = true := by rfl) (hd : Nat.blt d n = true := by rfl) (hx : ev e x = .pointer (some ⟨b, 0, none⟩) := by rfl) (T : PutV rs b t cs f := by infer_instance) (hn : cs.length = k := by rfl) : L P n ops Q (⟨some d, .load ty x, tt, pp, af, g⟩ :: rest) e w := by
 obtain ⟨i, hi, _⟩ := T.ix
 exact K.loadAll i H hw hd hx hi hn h
theorem X.pn {ty : TypeId} {x : Operand} [OneC P ty] {b off : Nat} {v : Value} (H : Holds s w rs) (h : L P n ops Q rest (upd e d v) w) (hw : wg n ops g e = true := by rfl) (hd : Nat.blt d n = true := by rfl) (hx : ev e x = .pointer (some ⟨b, off, none⟩) := by rfl) (hp : Pin s b off v := by assumption) : L P n ops Q (⟨some d, .load ty x, tt, pp, af, g⟩ :: rest) e w := K.loadS H hp hw hd hx rfl h
theorem X.pna {ty : TypeId} {x : Operand} {k : Nat} [RowC P ty k] {b off : Nat} {cs : List Value} (H : Holds s w rs) (h : L P n ops Q rest (upd e d (.agg cs.toArray)) w) (hw : wg n ops g e = true := by rfl) (hd : Nat.blt d n = true := by rfl) (hx : ev e x = .pointer (some ⟨b, off, none⟩) := by rfl) (hp : ∀ j v, cs[j]? = some v → Pin s b (off + j) v := by assumption) (hn : cs.length = k := by rfl) : L P n ops Q (⟨some d, .load ty x, tt, pp, af, g⟩ :: rest) e w := K.loadAllS H hp hw hd hx rfl hn h
theorem X.rd {ty : TypeId} {x : Operand} [OneC P ty] {b off m c sz : Nat} {t : TypeId} {xs : List Value} {f : List Value → List Asn} {v : Value} (H : Holds s w rs) (h : L P n ops Q rest (upd e d v) w) (hw : wg n ops g e = true := by rfl) (hd : Nat.blt d n = true := by rfl) (hx : ev e x = .pointer (some ⟨b, off, none⟩) := by rfl) (T : PutR rs b t sz m c xs f := by infer_instance) (hv : xs[off]? = some v := by assumption) : L P n ops Q (⟨some d, .load ty x, tt, pp, af, g⟩ :: rest) e w := by
 obtain ⟨i, hi, _⟩ := T.ix
 exact K.loadR i H hw hd hx hi hv h
theorem X.st {ty : TypeId} {x y : Operand} [T : OneC P ty] {b off : Nat} {t : TypeId} {cs : List Value} {f : List Value → List Asn} {v : Value} {cs' : List Value} (H : Holds s w rs) (h : ∀ w', Holds s w' (f cs') → L P n ops Q rest e w') (hw : wg n ops g e = true := by rfl) (hx : ev e x = .pointer (some ⟨b, off, none⟩) := by rfl) (V : PutV rs b t cs f := by infer_instance) (hy : ev e y = v := by conv => lhs; whnf) (S : SetL cs off v cs' := by infer_instance) (h1 : v.oneCell' = true := by rfl) (hl : Nat.blt off cs.length = true := by rfl) : L P n ops Q (⟨none, .store ty x y, tt, pp, af, g⟩ :: rest) e w := by
 obtain ⟨i, hi, hf⟩ := V.ix
 exact K.store i H hw hx hi hy h1 hl (fun w' H' => h w' (by rw [hf, S.eq] at H'; exact H'))
theorem X.sta {ty : TypeId} {x y : Operand} {k : Nat} [T : RowC P ty k] {b : Nat} {t : TypeId} {cs xs : List Value} {f : List Value → List Asn} (H : Holds s w rs) (h : ∀ w', Holds s w' (f xs) → L P n ops Q rest e w') (hw : wg n ops g e = true := by rfl) (hx : ev e x = .pointer (some ⟨b, 0, none⟩) := by rfl) (V : PutV rs b t cs f := by infer_instance) (hy : ev e y = .agg xs.toArray := by rfl) (h1 : xs.all Value.oneCell' = true := by rfl) (hn : xs.length = k := by rfl) (hl : cs.length = k := by rfl) : L P n ops Q (⟨none, .store ty x y, tt, pp, af, g⟩ :: rest) e w := by
 obtain ⟨i, hi, hf⟩ := V.ix
 exact K.storeAll i H hw hx hi hy h1 hn hl (fun w' H' => h w' (by rw [hf] at H'; exact H'))
theorem X.rst {ty : TypeId} {x y : Operand} [T : OneC P ty] {b off m c sz : Nat} {t : TypeId} {xs : List Value} {f : List Value → List Asn} {v : Value} (H : Holds s w rs) (h : ∀ w', Holds s w' (f (xs.set off v)) → L P n ops Q rest e w') (hw : wg n ops g e = true := by rfl) (hx : ev e x = .pointer (some ⟨b, off, none⟩) := by rfl) (V : PutR rs b t sz m c xs f := by infer_instance) (hy : ev e y = v := by conv => lhs; whnf) (h1 : v.oneCell' = true := by rfl) (hl : off < xs.length := by first | assumption | (simp only [List.length_set]; assumption) | omega) : L P n ops Q (⟨none, .store ty x y, tt, pp, af, g⟩ :: rest) e w := by
 obtain ⟨i, hi, hf⟩ := V.ix
 exact K.storeR i H hw hx hi hy h1 hl (fun w' H' => h w' (by rw [hf] at H'; exact H'))
theorem X.call {f : FuncId} {xs : Array Operand} {ts : Array TypeId} {args : List Value} {R : Ending → World → Prop} [F : FunC P f] (hc : Calls P f args.toArray w R) (h : ∀ x w', R x w' → ∃ v, x = .returned v ∧ L P n ops Q rest (upd e d v) w') (hw : wg n ops g e = true := by rfl) (hd : Nat.blt d n = true := by rfl) (hx : xs.toList.map (ev e) = args := by rfl) : L P n ops Q (⟨some d, .call { callee := .value (.func f), args := xs, argTypes := ts }, tt, pp, af, g⟩ :: rest) e w := K.call hw hd hx (hc.mono h)
class HasRow (rs : List Asn) (v : Value) (sz : outParam Nat) (n : outParam Nat) (xs : outParam (List Value)) : Prop where
 ix : ∃ (i : Nat) (e : TypeId), rs[i]? = some (row e sz v n xs)
instance (priority := high) HasRow.head {v : Value} {e : TypeId} {sz n : Nat} {xs : List Value} {rs : List Asn} : HasRow (row e sz v n xs :: rs) v sz n xs := ⟨⟨0, e, rfl⟩⟩
theorem Src.row {v : Value} {sz m : Nat} {xs : List Value} (T : HasRow rs v sz m xs := by infer_instance) : Src s rs v sz m xs := by
 obtain ⟨i, el, h⟩ := T.ix
 exact Src.own i el h
theorem X.stro {x : Operand} {t u : TypeId} [T : BytesC P t] [U : StrC P u] {v : Value} {l : List UInt8} {m sz : Nat} {xs : List Value} (H : Holds s w rs) (h : L P n ops Q rest (upd e d (.string ⟨l.toArray⟩)) w) (hw : wg n ops g e = true := by rfl) (hd : Nat.blt d n = true := by rfl) (hx : ev e x = v := by conv => lhs; whnf) (V : HasRow rs v sz m xs := by infer_instance) (hs : sz = 1 := by rfl) (h1 : xs = u8s l := by rfl) (h2 : m = l.length := by rfl) : L P n ops Q (⟨some d, .convert t u x, tt, pp, af, g⟩ :: rest) e w := by
 subst hs h1 h2
 exact K.str H .row hw hd hx h
class PutRow (rs : List Asn) (v : Value) (e : outParam TypeId) (sz n : outParam Nat) (xs : outParam (List Value)) (f : outParam (Value → Nat → List Value → List Asn)) : Prop where
 ix : ∃ (i : Nat), rs[i]? = some (row e sz v n xs) ∧ ∀ v' n' xs', rs.set i (row e sz v' n' xs') = f v' n' xs'
instance (priority := high) PutRow.head {v : Value} {e : TypeId} {sz n : Nat} {xs : List Value} {rs : List Asn} : PutRow (row e sz v n xs :: rs) v e sz n xs (fun v' n' xs' => row e sz v' n' xs' :: rs) := ⟨⟨0, rfl, fun _ _ _ => rfl⟩⟩
instance PutRow.tail {A : Asn} {v : Value} {e : TypeId} {sz n : Nat} {xs : List Value} {rs : List Asn} {f : Value → Nat → List Value → List Asn} [h : PutRow rs v e sz n xs f] : PutRow (A :: rs) v e sz n xs (fun v' n' xs' => A :: f v' n' xs') := by
 obtain ⟨i, h1, h2⟩ := h.ix
 exact ⟨⟨i + 1, h1, fun v' n' xs' => by rw [List.set_cons_succ, h2]⟩⟩
theorem X.app {t el : TypeId} {size bytes : Nat} {z : List Value} [E : ElC P t el size bytes z] {x y : Operand} {v xv : Value} {k m : Nat} {xs news : List Value} {f : Value → Nat → List Value → List Asn} (H : Holds s w rs)
  (h : ∀ aa cc w', Holds s w' (f (.slice aa (k + m) cc) (k + m) (xs ++ news)) → L P n ops Q rest (upd e d (.slice aa (k + m) cc)) w') (hd : Nat.blt d n = true := by rfl) (hx : ev e x = v := by conv => lhs; whnf) (hy : ev e y = xv := by conv => lhs; whnf) (V : PutRow rs v el size k xs f := by infer_instance) (hsrc : Src s rs xv size m news := by first | exact Src.row | exact Src.ro (by assumption)) (h1 : ∀ u ∈ news, u.oneCell' = true := by first | exact u8s_one _ | simp [Value.oneCell']) (h63 : k + m ≤ maxLen := by first | omega | (unfold maxLen; omega)) (hbytes : (k + m) * bytes ≤ 140737488355328 := by omega) : L P n ops Q (⟨some d, .call { callee := .builtin .append, args := #[x, y], argTypes := #[t, t] }, tt, pp, af, none⟩ :: rest) e w := by
 obtain ⟨i, hi, hf⟩ := V.ix
 exact K.app i H hi hsrc h1 h63 hbytes hd hx hy (fun aa cc w' H' => h aa cc w' (by rw [hf] at H'; exact H'))
theorem Holds.fixB {l : List UInt8} {t : TypeId} {aa : Option Addr} {cc : Nat} (H : Holds s w (Own.row t 1 (.slice aa l.length cc) l.length (u8s l) :: rs)) (hl : 0 < l.length) : ∃ s' gb, aa = some ⟨gb, 0, none⟩ ∧ s.Le s' ∧ Holds s' w rs ∧ SlS s' (.slice (some ⟨gb, 0, none⟩) l.length cc) 1 l.length (u8s l) ∧ ∃ x, Pin s' gb 0 x := by
 obtain ⟨gb, rfl, _⟩ := H.form (i := 0) rfl hl
 obtain ⟨s', hs, H', h⟩ := H.fixRow
 refine ⟨s', gb, rfl, hs, H', h, ?_⟩
 obtain ⟨g', o, c, hv, _, _, hp⟩ := posS h hl (by decide)
 cases hv
 exact ⟨u8 l[0], by simpa using hp 0 _ (by simp [u8s, hl])⟩
def Fin (s : Ro) (w' : World) : Prop := ∃ s' rs, s.Le s' ∧ Holds s' w' rs
theorem Holds.done {s' : Ro} (H : Holds s' w rs) (hs : s.Le s') : Fin s w := ⟨s', rs, hs, H⟩
theorem Fin.only {w0 : World} (h : Fin (startRo w0) w) : Only [] w0 w := by
 obtain ⟨s', rs, h1, h2⟩ := h
 exact h2.fin h1
theorem subN_nil {B : List Nat} : ∀ q ∈ ([] : List Nat), q ∈ B := fun q hq => by simp at hq
theorem subN_cons {a : Nat} {l B : List Nat} (h : a ∈ B) (k : ∀ q ∈ l, q ∈ B) : ∀ q ∈ a :: l, q ∈ B := fun q hq => by
 rcases List.mem_cons.1 hq with rfl | hq
 ·exact h
 ·exact k q hq
theorem keepV {b : Nat} {t : TypeId} {cs : List Value} {rs' : List Asn} {s' : Ro} {f f' : List Value → List Asn} (H : Holds s w rs) (H' : Holds s' w' rs') (T : PutV rs b t cs f := by infer_instance) (T' : PutV rs' b t cs f' := by infer_instance) : Reg.Keep [b] w w' := by
 obtain ⟨i, hi, _⟩ := T.ix
 obtain ⟨j, hj, _⟩ := T'.ix
 exact keep_var H H' hi hj
theorem Holds.fixVar {b : Nat} {t : TypeId} {cs : List Value} (H : Holds s w (Own.var b t cs :: rs)) : ∃ s', s.Le s' ∧ Holds s' w rs ∧ ∀ j v, cs[j]? = some v → Pin s' b j v := by
 obtain ⟨F, s', ⟨rfl, ho⟩, hs, H', hm⟩ := H.fix
 exact ⟨s', hs, H', fun j v hv => ⟨cs.toArray, t, (0, 0), (hm b (by simp)).trans ho, by simpa using hv⟩⟩
theorem Holds.pure1 {A : Asn} (H : Holds s w rs) (H' : Holds (Own.full s w) w' [A]) : Only [] w w' ∧ Holds s w' (A :: rs) := by
 have ho := only_full H (Ro.Le.refl _) H'
 refine ⟨ho, ?_⟩
 obtain ⟨_, F, ⟨F1, F2, rfl, h1, h2, _⟩, hn⟩ := H'
 refine H.add h1 ho fun k hk => ?_
 have := hn k (by simp [hk])
 simp only [Own.full, Array.getElem?_eq_none_iff] at this
 exact this
theorem Holds.pure0 (H : Holds s w rs) (H' : Holds (Own.full s w) w' []) : Only [] w w' ∧ Holds s w' rs := by
 have ho := only_full H (Ro.Le.refl _) H'
 exact ⟨ho, H.only0 ho⟩
end
section
variable {p q q' : Prop} {s : Ro} {w : World} {rs : List Asn}
theorem Z (H : Holds s w rs) (h : q) (g : Holds s w rs → q → p := by intro H h; first
  | ((with_reducible show L _ _ _ _ (_ :: _) _ _); first
   | exact J.mv h | exact J.asg h
   | ((with_reducible show L _ _ _ _ (⟨_, .load _ _, _, _, _, _⟩ :: _) _ _); first | exact X.ld H h | exact X.pn H h | exact X.lda H h | exact X.pna H h | exact X.rd H h)
   | ((with_reducible show L _ _ _ _ (⟨_, .fieldAddr _ _ _, _, _, _, _⟩ :: _) _ _); first | exact J.fa0 h | exact J.fa h)
   | ((with_reducible show L _ _ _ _ (⟨_, .binOp _ _ _ _ _, _, _, _, _⟩ :: _) _ _); first | exact J.add h | exact J.neS (fun hc => absurd rfl hc) (fun _ => h) | exact J.eqS (fun _ => h) (fun hc => absurd rfl hc) | exact J.sub h | exact J.cat h | exact J.nilP h)
   | exact J.chk h | exact J.ext h | exact J.pickT h | exact J.pickF h
   | ((with_reducible show L _ _ _ _ (⟨_, .indexAddr _ _ _, _, _, _, _⟩ :: _) _ _); first | exact J.ia h | exact J.iaA h)
   | ((with_reducible show L _ _ _ _ (⟨_, .call _, _, _, _, _⟩ :: _) _ _); first | exact J.len h | exact J.lenS h)
   | ((with_reducible show L _ _ _ _ (⟨_, .convert _ _ _, _, _, _, _⟩ :: _) _ _); first | exact X.str H h | exact X.stro H h)
   | exact J.arr h | exact J.neg h | exact J.not h | exact J.not0 h)
  | exact C.seq h | exact C.region h | exact C.block h | exact C.ret h | exact J.tru h | exact J.fls h | fail) : p := g H h
theorem Zc (h1 : q) (h2 : q') (g : q → q' → p := by intro h1 h2; (with_reducible show L _ _ _ _ (⟨_, .binOp _ _ _ _ _, _, _, _, _⟩ :: _) _ _); first | exact X.cm h1 h2 | exact J.eqS h1 h2 | exact J.neS h1 h2 | fail) : p := g h1 h2
theorem Y (h : q) (g : q → p := by intro h; first | exact C.skip h | exact C.exit h | exact J.nil h | exact L.nil h | fail) : p := g h
theorem Zs (H : Holds s w rs) (h : q) (g : Holds s w rs → q → p := by intro H h; (with_reducible show L _ _ _ _ (⟨_, .store _ _ _, _, _, _, _⟩ :: _) _ _); first | exact X.st H h | exact X.sta H h | exact X.rst H h | fail) : p := g H h
theorem Zn (H : Holds s w rs) (h : q) (g : Holds s w rs → q → p := by intro H h; first | exact J.new H h | exact J.box H h | exact J.box1 H h | fail) : p := g H h
theorem Ze (H : Holds s w rs) (h : q) (g : Holds s w rs → q → p := by intro H h; first | exact J.empty H h | fail) : p := g H h
structure Wq (q : Prop) : Prop where
  out : q
theorem Gn {p q : Prop} {s : Ro} {w : World} {rs : List Asn} (H : Holds s w rs) (h : q) (g : Holds s w rs → Wq q → p := by intro H h; (first | (refine Zn H ?_; clear H; (try clear w); intro b w H) | (refine Ze H ?_; clear H; (try clear w); intro b w H)) <;> (revert w; revert b; exact h.out)) : p := g H ⟨h⟩
theorem agr {wr : List Nat} {e e' : Env} (h : Agr wr e e' := by (repeat (first | exact Agr.refl | exact Agr.hav | refine Agr.upd rfl ?_ | refine Agr.in rfl ?_))) : Agr wr e e' := h
theorem Holds.u1 {s : Ro} {w : World} {A B1 : Asn} {r : List Asn} (H : Holds s w (B1 :: A :: r)) : Holds s w (A :: B1 :: r) := H.up 1 rfl
theorem Holds.u2 {s : Ro} {w : World} {A B1 B2 : Asn} {r : List Asn} (H : Holds s w (B1 :: B2 :: A :: r)) : Holds s w (A :: B1 :: B2 :: r) := H.up 2 rfl
theorem Holds.u3 {s : Ro} {w : World} {A B1 B2 B3 : Asn} {r : List Asn} (H : Holds s w (B1 :: B2 :: B3 :: A :: r)) : Holds s w (A :: B1 :: B2 :: B3 :: r) := H.up 3 rfl
theorem tp {s : Ro} {w : World} {rs rs' : List Asn} (H : Holds s w rs) (g : Holds s w rs → Holds s w rs' := by intro H; first | exact H | exact H.u1 | exact H.u2 | exact H.u3 | exact H.u4 | exact H.u5 | exact H.u6) : Holds s w rs' := g H
theorem q4 {p : Prop} (h : p := by first | exact fun h => Bool.noConfusion (show false = true from h) | exact fun _ => ext_same | exact fun _ => ext_only (by assumption)) : p := h
theorem sgA {p q : Prop} (h : q) (g : q → p := by intro h; simp only [Reg.pick, List.filterMap_cons, List.filterMap_nil, List.getElem?_toArray, List.getElem?_cons_zero, List.getElem?_cons_succ, segN, List.take_succ_cons, List.take_zero, List.drop_succ_cons, List.drop_zero]; exact h) : p := g h
theorem sgB {p q : Prop} (h : q) (g : q → p := by intro h; simp only [segL, List.take_succ_cons, List.take_zero, List.drop_succ_cons, List.drop_zero]; exact h) : p := g h
theorem sgC {p q : Prop} (h : q) (g : q → p := by intro h; simp only [segN, List.take_succ_cons, List.take_zero, List.drop_succ_cons, List.drop_zero]; exact h) : p := g h
end
end Go.Own

/- The walk's rules for bits of numbers without a sign, and for function values. The types of the program, as instances; by types.py. -/
import Derived.Test.YtbknpbihgfphaaaDoorOpK3
import Derived.Test.YtbknpbihgfphaaaDoorRows
set_option linter.unusedSimpArgs false
set_option linter.unusedVariables false
namespace Go.Own
open Go Go.RowKit
def bitN (op : BinOp) (a b : Nat) : Option Nat := match op with
  | .and => some (a &&& b)
  | .or => some (a ||| b)
  | .xor => some (a ^^^ b)
  | _ => none
/-- a kind without a sign -/
class Uns (k : IntKind) (B : outParam Nat) : Prop where
  bits : k.bits = B
  sg : k.signed = false
instance : Uns .u8 8 := ⟨rfl, rfl⟩
instance : Uns .u32 32 := ⟨rfl, rfl⟩
instance : Uns .u64 64 := ⟨rfl, rfl⟩
theorem uwrap {k : IntKind} {B : Nat} [U : Uns k B] (n : Nat) : k.wrap (n : Int) = ((n % 2 ^ B : Nat) : Int) := by
  unfold IntKind.wrap
  rw [U.sg, U.bits]
  simp
theorem uwrap_lt {k : IntKind} {B : Nat} [U : Uns k B] {n : Nat} (h : n < 2 ^ B) : k.wrap (n : Int) = (n : Int) := by rw [uwrap, Nat.mod_eq_of_lt h]
theorem run_bits {P : Program} {w : World} {op : BinOp} {k : IntKind} {B a b r : Nat} [U : Uns k B] (ha : a < 2 ^ B) (hb : b < 2 ^ B) (hr : bitN op a b = some r) : (Op.intBits op k (a : Int) (b : Int)).run P w = .ok (.int k (r : Int)) w := by
  obtain ⟨hB, hs⟩ := U
  subst hB
  unfold Op.intBits
  have ea : (BitVec.ofInt k.bits (a : Int)).toNat = a := by simp [BitVec.toNat_ofInt]; exact Nat.mod_eq_of_lt ha
  have eb : (BitVec.ofInt k.bits (b : Int)).toNat = b := by simp [BitVec.toNat_ofInt]; exact Nat.mod_eq_of_lt hb
  have hU : Uns k k.bits := ⟨rfl, hs⟩
  cases op <;> simp only [bitN, Option.some.injEq, reduceCtorEq] at hr <;> subst hr <;> simp only [Sem.run_pure]
  · rw [BitVec.toNat_and, ea, eb, uwrap_lt (Nat.and_lt_two_pow _ hb)]
  · rw [BitVec.toNat_or, ea, eb, uwrap_lt (Nat.or_lt_two_pow ha hb)]
  · rw [BitVec.toNat_xor, ea, eb, uwrap_lt (Nat.xor_lt_two_pow ha hb)]
section
variable {P : Program} {n : Nat} {ops : Array Oper} {Q : Post} {rest : List Oper} {e : Env} {w w' : World} {s : Ro} {rs : List Asn} {tt : Nat} {pp : String} {af : Array Edge} {g : Option (Nat × Bool)} {d : Nat}
theorem B.bit {op : BinOp} {x y : Operand} {t u : TypeId} {k : IntKind} {B a b r : Nat} [T : IntC P t k] [U : Uns k B] (h : L P n ops Q rest (upd e d (.int k (r : Int))) w) (hw : wg n ops g e = true := by rfl) (hd : Nat.blt d n = true := by rfl) (hx : ev e x = .int k (a : Int) := by rfl) (hy : ev e y = .int k (b : Int) := by rfl) (hr : bitN op a b = some r := by rfl) (ha : a < 2 ^ B := by first | assumption | decide | omega) (hb : b < 2 ^ B := by first | assumption | decide | omega) : L P n ops Q (⟨some d, .binOp op t x y u, tt, pp, af, g⟩ :: rest) e w :=
  L.val (o := ⟨some d, .binOp op t x y u, tt, pp, af, g⟩) _ w hw hd (by
    have := run_bits (P := P) (w := w) (k := k) ha hb hr
    unfold execOp
    cases op <;> simp only [bitN, reduceCtorEq] at hr <;> simp [hx, hy, eqGuard, binOp, Sem.run_bind, this]) h
theorem B.not {x : Operand} {t : TypeId} {k : IntKind} {B a : Nat} [T : IntC P t k] [U : Uns k B] (h : L P n ops Q rest (upd e d (.int k (((2 ^ B - 1) ^^^ a : Nat) : Int))) w) (hw : wg n ops g e = true := by rfl) (hd : Nat.blt d n = true := by rfl) (hx : ev e x = .int k (a : Int) := by rfl) (ha : a < 2 ^ B := by first | assumption | decide | omega) : L P n ops Q (⟨some d, .unOp .xor t x, tt, pp, af, g⟩ :: rest) e w :=
  L.val (o := ⟨some d, .unOp .xor t x, tt, pp, af, g⟩) _ w hw hd (by
    have hp : 0 < 2 ^ B := Nat.two_pow_pos B
    have h1 := run_bits (P := P) (w := w) (op := .xor) (k := k) (a := 2 ^ B - 1) (by omega) ha rfl
    have hm : k.max = ((2 ^ B - 1 : Nat) : Int) := by
      rw [← U.bits]
      unfold IntKind.max
      rw [U.sg]
      have : 1 ≤ 2 ^ k.bits := Nat.two_pow_pos _
      rw [Int.ofNat_sub this]
      push_cast
      simp
    unfold execOp
    simp [hx, Op.unary, U.sg, hm, Sem.run_bind, h1]) h
theorem B.shr {x y : Operand} {t u : TypeId} {k j : IntKind} {B a m : Nat} [T : IntC P t k] [U : Uns k B] (h : L P n ops Q rest (upd e d (.int k ((a >>> m : Nat) : Int))) w) (hw : wg n ops g e = true := by rfl) (hd : Nat.blt d n = true := by rfl) (hx : ev e x = .int k (a : Int) := by rfl) (hy : ev e y = .int j (m : Int) := by rfl) (hm : m ≤ B := by first | decide | omega) : L P n ops Q (⟨some d, .binOp .shr t x y u, tt, pp, af, g⟩ :: rest) e w :=
  L.val (o := ⟨some d, .binOp .shr t x y u, tt, pp, af, g⟩) _ w hw hd (by
    have hB := U.bits
    unfold execOp
    have e1 : min m k.bits = m := by omega
    have e2 : (a : Int).fdiv (2 ^ m) = ((a >>> m : Nat) : Int) := by
      rw [Nat.shiftRight_eq_div_pow]
      rw [Int.fdiv_eq_ediv_of_nonneg _ (by exact_mod_cast (Nat.zero_le _))]
      push_cast
      rfl
    simp [hx, hy, eqGuard, binOp, Op.shift, e1, e2, show ¬ (m : Int) < 0 by omega]) h
theorem B.shl {x y : Operand} {t u : TypeId} {k j : IntKind} {B a m : Nat} [T : IntC P t k] [U : Uns k B] (h : L P n ops Q rest (upd e d (.int k (((a <<< m) % 2 ^ B : Nat) : Int))) w) (hw : wg n ops g e = true := by rfl) (hd : Nat.blt d n = true := by rfl) (hx : ev e x = .int k (a : Int) := by rfl) (hy : ev e y = .int j (m : Int) := by rfl) (hm : m ≤ B := by first | decide | omega) : L P n ops Q (⟨some d, .binOp .shl t x y u, tt, pp, af, g⟩ :: rest) e w :=
  L.val (o := ⟨some d, .binOp .shl t x y u, tt, pp, af, g⟩) _ w hw hd (by
    have hB := U.bits
    unfold execOp
    have e1 : min m k.bits = m := by omega
    have e2 : k.wrap ((a : Int) * 2 ^ m) = (((a <<< m) % 2 ^ B : Nat) : Int) := by
      rw [← uwrap (k := k), Nat.shiftLeft_eq]; push_cast; rfl
    simp [hx, hy, eqGuard, binOp, Op.shift, e1, e2, show ¬ (m : Int) < 0 by omega]) h
/-- a number without a sign becomes one of another kind without a sign -/
theorem B.conv {x : Operand} {t u : TypeId} {k j : IntKind} {B a : Nat} {dd : TypeDesc} [U : Uns k B] [T : IntC P u k] (hs : P.underlying t = some dd) (h : L P n ops Q rest (upd e d (.int k ((a % 2 ^ B : Nat) : Int))) w) (hw : wg n ops g e = true := by rfl) (hd : Nat.blt d n = true := by rfl) (hx : ev e x = .int j (a : Int) := by rfl) : L P n ops Q (⟨some d, .convert t u x, tt, pp, af, g⟩ :: rest) e w :=
  K.convI hs hw hd hx (by rw [uwrap]; exact h)
/-- a function value is made -/
theorem B.fn {f : Fn} {fs cs : Array Operand} {l m : List Value} (h : L P n ops Q rest (upd e d (.func f l.toArray m.toArray)) w) (hw : wg n ops g e = true := by rfl) (hd : Nat.blt d n = true := by rfl) (h1 : fs.toList.map (ev e) = l := by rfl) (h2 : cs.toList.map (ev e) = m := by rfl) : L P n ops Q (⟨some d, .makeFunc f fs cs, tt, pp, af, g⟩ :: rest) e w :=
  L.val (o := ⟨some d, .makeFunc f fs cs, tt, pp, af, g⟩) _ w hw hd (by
    have e1 : fs.map (ev e) = l.toArray := by apply Array.toList_inj.1; rw [Array.toList_map, h1]
    have e2 : cs.map (ev e) = m.toArray := by apply Array.toList_inj.1; rw [Array.toList_map, h2]
    unfold execOp
    simp [Instr.makeFunc, e1, e2]) h
/-- a function value is called -/
theorem B.call {f : FuncId} {c : Operand} {xs : Array Operand} {ts : Array TypeId} {l m args all : List Value} {R : Ending → World → Prop} [F : FunC P f] (hc : Calls P f all.toArray w R) (h : ∀ x w', R x w' → ∃ v, x = .returned v ∧ L P n ops Q rest (upd e d v) w') (hw : wg n ops g e = true := by rfl) (hd : Nat.blt d n = true := by rfl) (hf : ev e c = .func (.func f) l.toArray m.toArray := by rfl) (hx : xs.toList.map (ev e) = args := by rfl) (ha : l ++ args ++ m = all := by rfl) : L P n ops Q (⟨some d, .call { callee := .value c, args := xs, argTypes := ts }, tt, pp, af, g⟩ :: rest) e w := by
  obtain ⟨fn, cc, h1, h2, h3⟩ := F.fn
  refine ⟨fun a hfr => wpList_step fun K hK => ?_⟩
  have hw' : wn n ops ⟨some d, .call { callee := .value c, args := xs, argTypes := ts }, tt, pp, af, g⟩ e = true := hw
  rw [hfr.wn, if_pos hw']
  have hargs : xs.map a.eval = args.toArray := by
    apply Array.toList_inj.1
    rw [Array.toList_map, hfr.eval, hx]
  have hcv : a.eval c = .func (.func f) l.toArray m.toArray := by rw [hfr.eval]; exact hf
  have hr : (execOp a.eval ⟨some d, .call { callee := .value c, args := xs, argTypes := ts }, tt, pp, af, g⟩).run P w = .ok (.enter f all.toArray) w := by
    unfold execOp
    simp only [resolve, hcv, Deferred.ofValue, Sem.run_bind, Sem.run_pure, Result.andThen_ok, invoke, callFunc]
    have e1 : l.toArray ++ args.toArray ++ m.toArray = all.toArray := by rw [← ha]; simp
    have : xs.map (fun x => a.eval x) = args.toArray := hargs
    have h2' : ¬ fn.name = "runtime.NumGoroutine" := by simpa using h2
    simp [h1, h2', h3, hargs, ← ha]
  unfold Oper.wp
  rw [hr]
  exact hc.mono fun x w' hR => by
    obtain ⟨v, hx', hl⟩ := h x w' hR
    subst hx'
    exact hK _ _ (hl.go _ (hfr.put (d := some d) hd v))
end
end Go.Own
set_option linter.unusedSimpArgs false
namespace Go.Proofs.YtbknpbihgfphaaaDoor
open Go Go.RowKit Go.Own
-- 1 func()
-- 2 int64
-- 3 int
instance : OneC Tryd.prog 3 := ⟨⟨_, Tryd.underlying3, rfl⟩, by kernel_rfl⟩
instance : IntC Tryd.prog 3 .i64 := ⟨Tryd.underlying3⟩
-- 4 bool
instance : OneC Tryd.prog 4 := ⟨⟨_, Tryd.underlying4, rfl⟩, by kernel_rfl⟩
instance : BoolC Tryd.prog 4 := ⟨Tryd.underlying4⟩
-- 5 uint8
instance : OneC Tryd.prog 5 := ⟨⟨_, Tryd.underlying5, rfl⟩, by kernel_rfl⟩
instance : IntC Tryd.prog 5 .u8 := ⟨Tryd.underlying5⟩
-- 6 abi.BoundsErrorCode
-- 7 struct%20{%20x%20int64;%20y%20int;%20signed%20bool;%20code%20abi.BoundsErrorCode%20}
-- 9 string
instance : OneC Tryd.prog 9 := ⟨⟨_, Tryd.underlying9, rfl⟩, by kernel_rfl⟩
instance : StrC Tryd.prog 9 := ⟨Tryd.underlying9⟩
-- 10 runtime.errorString
-- 11 runtime.plainError
-- 12 uintptr
-- 13 struct%20{%20msg%20string;%20addr%20uintptr%20}
-- 15 *runtime.TypeAssertionError
-- 16 *runtime.PanicNilError
-- 17 *abi.Type
-- 18 struct%20{%20typ%20*abi.Type%20}
-- 20 interface%20{}
-- 21 int32
-- 22 []api.Entry
-- 23 *disk.Disk
instance : OneC Tryd.prog 23 := ⟨⟨_, Tryd.underlying23, rfl⟩, by kernel_rfl⟩
-- 24 *extent.Part
instance : OneC Tryd.prog 24 := ⟨⟨_, Tryd.underlying24, rfl⟩, by kernel_rfl⟩
-- 26 func(int)%20(*disk.Disk,%20*extent.Part,%20bool)
-- 27 *audit.Log
-- 28 api.Errno
instance : OneC Tryd.prog 28 := ⟨⟨_, Tryd.underlying28, rfl⟩, by kernel_rfl⟩
instance : ZeroC Tryd.prog 28 ([.int .i64 0]) := ⟨⟨.int .i64 0, by kernel_rfl, by kernel_rfl⟩⟩
-- 30 func(*extent.Part)%20(*audit.Log,%20api.Errno)
-- 31 func(api.Entry)%20api.Errno
-- 32 uint32
instance : OneC Tryd.prog 32 := ⟨⟨_, Tryd.underlying32, rfl⟩, by kernel_rfl⟩
instance : IntC Tryd.prog 32 .u32 := ⟨Tryd.underlying32⟩
-- 33 struct%20{%20Kind%20int;%20Part%20int;%20Version%20uint32;%20Code%20int%20}
-- 35 func(api.Entry)%20bool
-- 36 func()%20[]api.Entry
-- 37 []uint8
instance : OneC Tryd.prog 37 := ⟨⟨_, Tryd.underlying37, rfl⟩, by kernel_rfl⟩
instance : ElC Tryd.prog 37 5 1 1 ([.int .u8 0]) := ⟨⟨.int .u8 0, elT Tryd.underlying37 (by kernel_rfl) (by kernel_rfl) (by decide), by kernel_rfl⟩⟩
instance : BytesC Tryd.prog 37 := ⟨⟨_, Tryd.underlying37, Tryd.underlying5, by kernel_rfl⟩⟩
-- 39 func(int)%20([]uint8,%20api.Errno)
-- 40 func()%20string
-- 41 func()%20bool
-- 42 func([]api.Entry)%20bool
-- 43 []nacellelaw20.Act
-- 44 []bool
instance : OneC Tryd.prog 44 := ⟨⟨_, Tryd.underlying44, rfl⟩, by kernel_rfl⟩
instance : ElC Tryd.prog 44 4 1 1 ([.bool false]) := ⟨⟨.bool false, elT Tryd.underlying44 (by kernel_rfl) (by kernel_rfl) (by decide), by kernel_rfl⟩⟩
-- 45 struct%20{%20Do%20int;%20N%20int;%20Entry%20api.Entry;%20Keep%20[]bool%20}
-- 46 nacellelaw20.Act
-- 47 func(int,%20[]bool)
-- 48 func([]api.Entry,%20[]api.Entry)%20bool
-- 49 func([]nacellelaw20.Act)%20bool
-- 50 func(int)%20int
-- 51 []string
instance : OneC Tryd.prog 51 := ⟨⟨_, Tryd.underlying51, rfl⟩, by kernel_rfl⟩
instance : ElC Tryd.prog 51 9 1 16 ([.string ⟨#[]⟩]) := ⟨⟨.string ⟨#[]⟩, elT Tryd.underlying51 (by kernel_rfl) (by kernel_rfl) (by decide), by kernel_rfl⟩⟩
-- 52 []nacelleref05.Write
instance : OneC Tryd.prog 52 := ⟨⟨_, Tryd.underlying52, rfl⟩, by kernel_rfl⟩
instance : ElC Tryd.prog 52 153 2 24 ([.int .i64 0, .string ⟨#[]⟩]) := ⟨⟨.agg ([.int .i64 0, .string ⟨#[]⟩]).toArray, elT Tryd.underlying52 (by kernel_rfl) (by kernel_rfl) (by decide), by kernel_rfl⟩⟩
-- 53 struct%20{%20Has%20[]string;%20Waits%20[]nacelleref05.Write;%20Off%20bool;%20Left%20int;%20Survivors%20[]bool%20}
-- 54 nacelleref05.Disk
instance : RowC Tryd.prog 54 5 := ⟨⟨_, Tryd.underlying54, rfl⟩, by kernel_rfl⟩
instance : ZeroC Tryd.prog 54 ([.slice none 0 0, .slice none 0 0, .bool false, .int .i64 0, .slice none 0 0]) := ⟨⟨.agg ([.slice none 0 0, .slice none 0 0, .bool false, .int .i64 0, .slice none 0 0]).toArray, by kernel_rfl, by kernel_rfl⟩⟩
instance : FldC Tryd.prog 54 0 0 := ⟨⟨_, _, Tryd.underlying54, rfl, rfl, 0, by kernel_rfl⟩⟩
instance : FldC Tryd.prog 54 1 1 := ⟨⟨_, _, Tryd.underlying54, rfl, rfl, 0, by kernel_rfl⟩⟩
instance : FldC Tryd.prog 54 2 2 := ⟨⟨_, _, Tryd.underlying54, rfl, rfl, 0, by kernel_rfl⟩⟩
instance : FldC Tryd.prog 54 3 3 := ⟨⟨_, _, Tryd.underlying54, rfl, rfl, 0, by kernel_rfl⟩⟩
instance : FldC Tryd.prog 54 4 4 := ⟨⟨_, _, Tryd.underlying54, rfl, rfl, 0, by kernel_rfl⟩⟩
-- 56 func(int)%20(nacelleref05.Disk,%20bool)
-- 57 struct%20{%20D%20nacelleref05.Disk;%20From%20int;%20Count%20int;%20L%20[]api.Entry;%20Dead%20bool%20}
-- 58 nacelleref20.Log
-- 60 func(nacelleref05.Disk,%20int,%20int)%20(nacelleref20.Log,%20int)
-- 61 func(api.Entry)%20(nacelleref20.Log,%20int)
-- 62 func(int,%20[]bool)%20nacelleref05.Disk
-- 63 func([]bool)
-- 64 func([]bool)%20nacelleref05.Disk
-- 65 func()%20nacelleref05.Disk
-- 66 func()%20[]uint8
-- 67 func(int,%20[]nacellelaw20.Act)%20bool
-- 68 []nacellelaw16.Act
instance : OneC Tryd.prog 68 := ⟨⟨_, Tryd.underlying68, rfl⟩, by kernel_rfl⟩
instance : ElC Tryd.prog 68 78 6 64 ([.int .i64 0, .int .i64 0, .int .i64 0, .int .i64 0, .int .u8 0, .slice none 0 0]) := ⟨⟨.agg ([.int .i64 0, .int .i64 0, .int .i64 0, .int .i64 0, .int .u8 0, .slice none 0 0]).toArray, elT Tryd.underlying68 (by kernel_rfl) (by kernel_rfl) (by decide), by kernel_rfl⟩⟩
-- 70 func(int)%20(*disk.Disk,%20*extent.Part,%20nacelleref05.Disk,%20bool)
-- 71 *wal.Log
instance : OneC Tryd.prog 71 := ⟨⟨_, Tryd.underlying71, rfl⟩, by kernel_rfl⟩
instance : PtrC Tryd.prog 71 140 := ⟨Tryd.underlying71⟩
-- 73 func(*extent.Part)%20(*wal.Log,%20api.Errno)
-- 74 func([]api.Change)%20api.Errno
-- 75 []api.Change
instance : ElC Tryd.prog 75 98 2 32 ([.int .i64 0, .slice none 0 0]) := ⟨⟨.agg ([.int .i64 0, .slice none 0 0]).toArray, elT Tryd.underlying75 (by kernel_rfl) (by kernel_rfl) (by decide), by kernel_rfl⟩⟩
-- 76 func(nacellelaw16.Act)%20[]api.Change
-- 77 struct%20{%20Do%20int;%20N%20int;%20At%20int;%20Off%20int;%20Fill%20uint8;%20Keep%20[]bool%20}
-- 78 nacellelaw16.Act
instance : RowC Tryd.prog 78 6 := ⟨⟨_, Tryd.underlying78, rfl⟩, by kernel_rfl⟩
instance : FldC Tryd.prog 78 1 1 := ⟨⟨_, _, Tryd.underlying78, rfl, rfl, 0, by kernel_rfl⟩⟩
instance : FldC Tryd.prog 78 2 2 := ⟨⟨_, _, Tryd.underlying78, rfl, rfl, 0, by kernel_rfl⟩⟩
instance : FldC Tryd.prog 78 3 3 := ⟨⟨_, _, Tryd.underlying78, rfl, rfl, 0, by kernel_rfl⟩⟩
instance : FldC Tryd.prog 78 4 4 := ⟨⟨_, _, Tryd.underlying78, rfl, rfl, 0, by kernel_rfl⟩⟩
-- 79 func([]nacellelaw16.Act)%20bool
-- 80 func(string,%20uint32,%20string)%20string
-- 81 func(int)%20string
-- 82 func(int,%20[]uint8)%20api.Errno
-- 84 func(int,%20string)%20(nacelleref05.Disk,%20int)
-- 85 struct%20{%20D%20nacelleref05.Disk;%20From%20int;%20Pages%20[]string;%20Epoch%20uint32;%20Home%20int;%20Used%20int;%20Dead%20bool%20}
-- 86 nacelleref16.Log
instance : RowC Tryd.prog 86 11 := ⟨⟨_, Tryd.underlying86, rfl⟩, by kernel_rfl⟩
instance : ZeroC Tryd.prog 86 ([.slice none 0 0, .slice none 0 0, .bool false, .int .i64 0, .slice none 0 0, .int .i64 0, .slice none 0 0, .int .u32 0, .int .i64 0, .int .i64 0, .bool false]) := ⟨⟨.agg ([.slice none 0 0, .slice none 0 0, .bool false, .int .i64 0, .slice none 0 0, .int .i64 0, .slice none 0 0, .int .u32 0, .int .i64 0, .int .i64 0, .bool false]).toArray, by kernel_rfl, by kernel_rfl⟩⟩
instance : FldC Tryd.prog 86 0 0 := ⟨⟨_, _, Tryd.underlying86, rfl, rfl, 4, by kernel_rfl⟩⟩
instance : FldC Tryd.prog 86 1 5 := ⟨⟨_, _, Tryd.underlying86, rfl, rfl, 0, by kernel_rfl⟩⟩
instance : FldC Tryd.prog 86 2 6 := ⟨⟨_, _, Tryd.underlying86, rfl, rfl, 0, by kernel_rfl⟩⟩
instance : FldC Tryd.prog 86 3 7 := ⟨⟨_, _, Tryd.underlying86, rfl, rfl, 0, by kernel_rfl⟩⟩
instance : FldC Tryd.prog 86 4 8 := ⟨⟨_, _, Tryd.underlying86, rfl, rfl, 0, by kernel_rfl⟩⟩
instance : FldC Tryd.prog 86 5 9 := ⟨⟨_, _, Tryd.underlying86, rfl, rfl, 0, by kernel_rfl⟩⟩
instance : FldC Tryd.prog 86 6 10 := ⟨⟨_, _, Tryd.underlying86, rfl, rfl, 0, by kernel_rfl⟩⟩
-- 88 func(nacelleref05.Disk,%20int)%20(nacelleref16.Log,%20int)
-- 89 func(*wal.Log,%20nacelleref16.Log)%20bool
-- 90 func([]api.Change)%20(nacelleref16.Log,%20int)
-- 91 func([]uint8,%20uint32)%20bool
-- 92 struct%20{%20Acts%20[]nacellelaw16.Act;%20At%20int;%20Sector%20[]uint8;%20More%20[]nacellelaw16.Act%20}
-- 93 nacellelaw16.Forged
instance : FldC Tryd.prog 93 0 0 := ⟨⟨_, _, Tryd.underlying93, rfl, rfl, 0, by kernel_rfl⟩⟩
instance : FldC Tryd.prog 93 1 1 := ⟨⟨_, _, Tryd.underlying93, rfl, rfl, 0, by kernel_rfl⟩⟩
instance : FldC Tryd.prog 93 2 2 := ⟨⟨_, _, Tryd.underlying93, rfl, rfl, 0, by kernel_rfl⟩⟩
instance : FldC Tryd.prog 93 3 3 := ⟨⟨_, _, Tryd.underlying93, rfl, rfl, 0, by kernel_rfl⟩⟩
-- 94 func(nacellelaw16.Forged)%20bool
-- 95 func(*wal.Log)%20string
-- 96 func([]api.Change)%20bool
-- 97 struct%20{%20Page%20int;%20Data%20[]uint8%20}
-- 99 func(int,%20[]nacellelaw16.Act)%20bool
-- 100 []int
instance : ElC Tryd.prog 100 3 1 8 ([.int .i64 0]) := ⟨⟨.int .i64 0, elT Tryd.underlying100 (by kernel_rfl) (by kernel_rfl) (by decide), by kernel_rfl⟩⟩
-- 101 func()%20[]int
-- 102 func()%20uint32
-- 103 func()%20int
-- 104 func(int,%20[]nacellelaw16.Act,%20[]bool)%20bool
-- 106 func(int)%20(*disk.Disk,%20api.Errno)
-- 108 func(*disk.Disk,%20extent.Extent)%20(*extent.Part,%20api.Errno)
-- 109 struct%20{%20From%20int;%20Count%20int%20}
-- 110 extent.Extent
instance : RowC Tryd.prog 110 2 := ⟨⟨_, Tryd.underlying110, rfl⟩, by kernel_rfl⟩
instance : FldC Tryd.prog 110 0 0 := ⟨⟨_, _, Tryd.underlying110, rfl, rfl, 0, by kernel_rfl⟩⟩
instance : FldC Tryd.prog 110 1 1 := ⟨⟨_, _, Tryd.underlying110, rfl, rfl, 0, by kernel_rfl⟩⟩
-- 111 struct%20{%20part%20*extent.Part;%20entries%20[]api.Entry;%20dead%20bool%20}
-- 113 func([]uint8)%20(api.Entry,%20bool)
-- 114 audit.place
-- 116 func(api.Entry)%20[]uint8
-- 117 func()%20api.Errno
-- 118 func([]api.Entry)%20[]api.Entry
-- 119 func(int)%20bool
-- 120 []disk.sector
-- 121 []disk.write
-- 122 struct%20{%20sectors%20[]disk.sector;%20pending%20[]disk.write;%20off%20bool;%20armed%20bool;%20left%20int;%20survivors%20[]bool%20}
-- 123 disk.Disk
-- 124 [64]uint8
-- 125 disk.sector
-- 126 struct%20{%20at%20int;%20content%20disk.sector%20}
-- 127 disk.write
-- 128 func([]bool)%20[]bool
-- 130 func(int)%20(string,%20int)
-- 131 func(int,%20string)%20(api.Entry,%20bool)
-- 132 func(int,%20api.Entry)%20string
-- 133 func()%20(nacelleref05.Disk,%20int)
-- 134 func(bool,%20[]bool)%20nacelleref05.Disk
-- 135 func(*extent.Part)%20api.Errno
-- 136 func(nacelleref05.Disk,%20int)%20(nacelleref05.Disk,%20int)
-- 137 [40]uint8
instance : ArrC Tryd.prog 137 40 1 true := ⟨⟨_, _, Tryd.underlying137, by kernel_rfl, Tryd.underlying5, rfl⟩⟩
-- 138 [16][40]uint8
instance : ZeroC Tryd.prog 138 (List.replicate 640 (.int .u8 0)) := ⟨⟨.agg (List.replicate 640 (.int .u8 0)).toArray, by kernel_rfl, by kernel_rfl⟩⟩
instance : ArrC Tryd.prog 138 16 40 false := ⟨⟨_, _, Tryd.underlying138, by kernel_rfl, Tryd.underlying137, rfl⟩⟩
-- 139 struct%20{%20part%20*extent.Part;%20epoch%20uint32;%20home%20int;%20used%20int;%20pages%20[16][40]uint8;%20dead%20bool%20}
-- 141 func(int,%20int)%20int
-- 143 func([]uint8)%20(uint32,%20int,%20[]uint8,%20bool)
-- 144 func(uint64,%20int)%20[]uint8
-- 145 uint64
instance : IntC Tryd.prog 145 .u64 := ⟨Tryd.underlying145⟩
-- 146 func([]uint8)%20[]uint8
-- 148 func(extent.Extent,%20int)%20(int,%20api.Errno)
-- 149 struct%20{%20extent.Extent;%20d%20*disk.Disk%20}
-- 150 extent.Part
instance : FldC Tryd.prog 150 0 0 := ⟨⟨_, _, Tryd.underlying150, rfl, rfl, 1, by kernel_rfl⟩⟩
instance : FldC Tryd.prog 150 1 2 := ⟨⟨_, _, Tryd.underlying150, rfl, rfl, 0, by kernel_rfl⟩⟩
-- 151 func()%20(nacelleref05.Disk,%20bool)
-- 152 struct%20{%20At%20int;%20B%20string%20}
-- 153 nacelleref05.Write
instance : FldC Tryd.prog 153 0 0 := ⟨⟨_, _, Tryd.underlying153, rfl, rfl, 0, by kernel_rfl⟩⟩
instance : FldC Tryd.prog 153 1 1 := ⟨⟨_, _, Tryd.underlying153, rfl, rfl, 0, by kernel_rfl⟩⟩
-- 154 func([]string)%20(nacelleref16.Log,%20int)
-- 155 func(uint32,%20int,%20[]int,%20[]string)%20(nacelleref16.Log,%20int)
-- 156 func([]int,%20[]string)%20(nacelleref16.Log,%20int)
-- 157 func(extent.Extent,%20int)%20bool
-- 158 func([]uint8)%20([]uint8,%20api.Errno)
-- 159 *octet.Reader
-- 160 func([]uint8)%20*octet.Reader
-- 161 func(int)%20uint64
-- 162 func([]uint8,%20[]uint8)%20bool
-- 163 func(uint64,%20int)
-- 164 func([]uint8)%20uint64
-- 165 func([]string,%20int,%20string)%20[]string
-- 166 func(*extent.Part,%20uint32,%20int,%20*[16][40]uint8)%20api.Errno
-- 167 *[16][40]uint8
-- 169 func([]uint8)%20(uint32,%20int,%20bool)
-- 170 func(uint32)%20int
-- 172 func([]uint8,%20uint8,%20int)%20(uint32,%20[]uint8,%20bool)
-- 174 func([]uint8)%20(uint32,%20int,%20int,%20[]uint8,%20bool)
-- 175 func([]api.Change)
-- 176 func(uint32,%20int,%20api.Change)%20[]uint8
-- 177 func(uint32,%20int)%20[]uint8
-- 178 func([]uint8)%20uint32
-- 179 func(int,%20string)%20(nacelleref16.Log,%20int)
-- 180 func()%20(nacelleref16.Log,%20int)
-- 182 func([]uint8)%20(uint64,%20api.Errno)
-- 183 struct%20{%20b%20[]uint8;%20at%20int;%20code%20api.Errno%20}
-- 185 func(api.Errno)
-- 187 func(int)%20([]uint8,%20bool)
-- 188 func(uint32,%20int,%20[]uint8)%20[]uint8
-- 189 func([]uint8,%20func(uint8)%20bool)%20bool
-- 190 func(uint8)%20bool
-- 191 func(uint8,%20uint32,%20...uint8)%20[]uint8
-- 192 func(...[]uint8)%20[]uint8
-- 193 func(uint32,%20[]uint8)%20uint32
-- 194 func([]uint8,%20func(uint8)%20bool)%20int
-- 195 [][]uint8
instance : ElC Tryd.prog 195 37 1 24 ([.slice none 0 0]) := ⟨⟨.slice none 0 0, elT Tryd.underlying195 (by kernel_rfl) (by kernel_rfl) (by decide), by kernel_rfl⟩⟩
-- 196 func([]uint8,%20int)%20[]uint8
-- 197 uint
instance : IntC Tryd.prog 197 .u64 := ⟨Tryd.underlying197⟩
-- 198 [16]uint32
instance : ArrC Tryd.prog 198 16 1 true := ⟨⟨_, _, Tryd.underlying198, by kernel_rfl, Tryd.underlying32, rfl⟩⟩
-- 199 struct%20{%20_interface%20*abi.Type;%20concrete%20*abi.Type;%20asserted%20*abi.Type;%20missingMethod%20string%20}
-- 201 [0]*runtime.PanicNilError
-- 202 struct%20{%20_%20[0]*runtime.PanicNilError%20}
-- 204 abi.TFlag
-- 205 abi.Kind
-- 206 func(unsafe.Pointer,%20unsafe.Pointer)%20bool
-- 207 *uint8
-- 208 abi.NameOff
-- 209 abi.TypeOff
-- 210 struct%20{%20Size_%20uintptr;%20PtrBytes%20uintptr;%20Hash%20uint32;%20TFlag%20abi.TFlag;%20Align_%20uint8;%20FieldAlign_%20uint8;%20Kind_%20abi.Kind;%20Equal%20func(unsafe.Pointer,%20unsafe.Pointer)%20bool;%20GCData%20*uint8;%20Str%20abi.NameOff;%20PtrToThis%20abi.TypeOff%20}
instance : FunC Tryd.prog 17 := ⟨⟨_, _, Tryd.func17, by kernel_rfl, rfl⟩⟩  -- (*nacelle/disk.Disk).Read
instance : FunC Tryd.prog 18 := ⟨⟨_, _, Tryd.func18, by kernel_rfl, rfl⟩⟩  -- nacelle/nacelleref05.Noughts
instance : FunC Tryd.prog 24 := ⟨⟨_, _, Tryd.func24, by kernel_rfl, rfl⟩⟩  -- nacelle/nacelleref05.New
instance : FunC Tryd.prog 29 := ⟨⟨_, _, Tryd.func29, by kernel_rfl, rfl⟩⟩  -- (nacelle/nacelleref05.Disk).Crash
instance : FunC Tryd.prog 32 := ⟨⟨_, _, Tryd.func32, by kernel_rfl, rfl⟩⟩  -- (*nacelle/disk.Disk).Image
instance : FunC Tryd.prog 33 := ⟨⟨_, _, Tryd.func33, by kernel_rfl, rfl⟩⟩  -- (nacelle/nacelleref05.Disk).Image
instance : FunC Tryd.prog 34 := ⟨⟨_, _, Tryd.func34, by kernel_rfl, rfl⟩⟩  -- nacelle/nacellelaw16.awake
instance : FunC Tryd.prog 35 := ⟨⟨_, _, Tryd.func35, by kernel_rfl, rfl⟩⟩  -- nacelle/nacellelaw16.part
instance : FunC Tryd.prog 36 := ⟨⟨_, _, Tryd.func36, by kernel_rfl, rfl⟩⟩  -- nacelle/wal.Open
instance : FunC Tryd.prog 37 := ⟨⟨_, _, Tryd.func37, by kernel_rfl, rfl⟩⟩  -- (*nacelle/wal.Log).Commit
instance : FunC Tryd.prog 38 := ⟨⟨_, _, Tryd.func38, by kernel_rfl, rfl⟩⟩  -- nacelle/nacellelaw16.Changes
instance : FunC Tryd.prog 39 := ⟨⟨_, _, Tryd.func39, by kernel_rfl, rfl⟩⟩  -- nacelle/nacelleref16.Sector
instance : FunC Tryd.prog 40 := ⟨⟨_, _, Tryd.func40, by kernel_rfl, rfl⟩⟩  -- nacelle/nacelleref16.Noughts
instance : FunC Tryd.prog 41 := ⟨⟨_, _, Tryd.func41, by kernel_rfl, rfl⟩⟩  -- (*nacelle/extent.Part).Write
instance : FunC Tryd.prog 42 := ⟨⟨_, _, Tryd.func42, by kernel_rfl, rfl⟩⟩  -- (nacelle/nacelleref05.Disk).Write
instance : FunC Tryd.prog 43 := ⟨⟨_, _, Tryd.func43, by kernel_rfl, rfl⟩⟩  -- nacelle/nacelleref16.Open
instance : FunC Tryd.prog 44 := ⟨⟨_, _, Tryd.func44, by kernel_rfl, rfl⟩⟩  -- nacelle/nacellelaw16.is
instance : FunC Tryd.prog 45 := ⟨⟨_, _, Tryd.func45, by kernel_rfl, rfl⟩⟩  -- (nacelle/nacelleref16.Log).Commit
instance : FunC Tryd.prog 49 := ⟨⟨_, _, Tryd.func49, by kernel_rfl, rfl⟩⟩  -- nacelle/nacelleref16.May
instance : FunC Tryd.prog 51 := ⟨⟨_, _, Tryd.func51, by kernel_rfl, rfl⟩⟩  -- (*nacelle/wal.Log).Epoch
instance : FunC Tryd.prog 52 := ⟨⟨_, _, Tryd.func52, by kernel_rfl, rfl⟩⟩  -- (*nacelle/wal.Log).Used
instance : FunC Tryd.prog 53 := ⟨⟨_, _, Tryd.func53, by kernel_rfl, rfl⟩⟩  -- nacelle/disk.New
instance : FunC Tryd.prog 54 := ⟨⟨_, _, Tryd.func54, by kernel_rfl, rfl⟩⟩  -- nacelle/extent.New
instance : FunC Tryd.prog 55 := ⟨⟨_, _, Tryd.func55, by kernel_rfl, rfl⟩⟩  -- (*nacelle/extent.Part).Size
instance : FunC Tryd.prog 56 := ⟨⟨_, _, Tryd.func56, by kernel_rfl, rfl⟩⟩  -- (*nacelle/extent.Part).Read
instance : FunC Tryd.prog 60 := ⟨⟨_, _, Tryd.func60, by kernel_rfl, rfl⟩⟩  -- (*nacelle/extent.Part).Flush
instance : FunC Tryd.prog 65 := ⟨⟨_, _, Tryd.func65, by kernel_rfl, rfl⟩⟩  -- (nacelle/nacelleref05.Disk).Read
instance : FunC Tryd.prog 68 := ⟨⟨_, _, Tryd.func68, by kernel_rfl, rfl⟩⟩  -- (nacelle/nacelleref05.Disk).Flush
instance : FunC Tryd.prog 69 := ⟨⟨_, _, Tryd.func69, by kernel_rfl, rfl⟩⟩  -- (nacelle/nacelleref05.Disk).laid
instance : FunC Tryd.prog 70 := ⟨⟨_, _, Tryd.func70, by kernel_rfl, rfl⟩⟩  -- (*nacelle/wal.Log).Page
instance : FunC Tryd.prog 71 := ⟨⟨_, _, Tryd.func71, by kernel_rfl, rfl⟩⟩  -- nacelle/wal.Format
instance : FunC Tryd.prog 72 := ⟨⟨_, _, Tryd.func72, by kernel_rfl, rfl⟩⟩  -- nacelle/nacelleref16.Format
instance : FunC Tryd.prog 73 := ⟨⟨_, _, Tryd.func73, by kernel_rfl, rfl⟩⟩  -- (*nacelle/wal.Log).readHead
instance : FunC Tryd.prog 74 := ⟨⟨_, _, Tryd.func74, by kernel_rfl, rfl⟩⟩  -- nacelle/wal.homeAt
instance : FunC Tryd.prog 75 := ⟨⟨_, _, Tryd.func75, by kernel_rfl, rfl⟩⟩  -- nacelle/wal.readPage
instance : FunC Tryd.prog 76 := ⟨⟨_, _, Tryd.func76, by kernel_rfl, rfl⟩⟩  -- (*nacelle/wal.Log).readRecords
instance : FunC Tryd.prog 77 := ⟨⟨_, _, Tryd.func77, by kernel_rfl, rfl⟩⟩  -- nacelle/wal.valid
instance : FunC Tryd.prog 78 := ⟨⟨_, _, Tryd.func78, by kernel_rfl, rfl⟩⟩  -- (*nacelle/wal.Log).Commit$1
instance : FunC Tryd.prog 79 := ⟨⟨_, _, Tryd.func79, by kernel_rfl, rfl⟩⟩  -- (*nacelle/wal.Log).checkpoint
instance : FunC Tryd.prog 80 := ⟨⟨_, _, Tryd.func80, by kernel_rfl, rfl⟩⟩  -- (*nacelle/wal.Log).record
instance : FunC Tryd.prog 81 := ⟨⟨_, _, Tryd.func81, by kernel_rfl, rfl⟩⟩  -- nacelle/nacelleref02.Put
instance : FunC Tryd.prog 82 := ⟨⟨_, _, Tryd.func82, by kernel_rfl, rfl⟩⟩  -- nacelle/nacelleref03.Seal
instance : FunC Tryd.prog 83 := ⟨⟨_, _, Tryd.func83, by kernel_rfl, rfl⟩⟩  -- nacelle/extent.Place
instance : FunC Tryd.prog 84 := ⟨⟨_, _, Tryd.func84, by kernel_rfl, rfl⟩⟩  -- (*nacelle/disk.Disk).Write
instance : FunC Tryd.prog 85 := ⟨⟨_, _, Tryd.func85, by kernel_rfl, rfl⟩⟩  -- (nacelle/nacelleref05.Disk).step
instance : FunC Tryd.prog 86 := ⟨⟨_, _, Tryd.func86, by kernel_rfl, rfl⟩⟩  -- nacelle/nacelleref16.State
instance : FunC Tryd.prog 87 := ⟨⟨_, _, Tryd.func87, by kernel_rfl, rfl⟩⟩  -- (*nacelle/wal.Log).Dead
instance : FunC Tryd.prog 88 := ⟨⟨_, _, Tryd.func88, by kernel_rfl, rfl⟩⟩  -- (nacelle/nacelleref16.Log).settle
instance : FunC Tryd.prog 89 := ⟨⟨_, _, Tryd.func89, by kernel_rfl, rfl⟩⟩  -- nacelle/nacelleref16.one
instance : FunC Tryd.prog 90 := ⟨⟨_, _, Tryd.func90, by kernel_rfl, rfl⟩⟩  -- (nacelle/nacelleref16.Log).all
instance : FunC Tryd.prog 91 := ⟨⟨_, _, Tryd.func91, by kernel_rfl, rfl⟩⟩  -- nacelle/extent.Lies
instance : FunC Tryd.prog 92 := ⟨⟨_, _, Tryd.func92, by kernel_rfl, rfl⟩⟩  -- (*nacelle/disk.Disk).Size
instance : FunC Tryd.prog 93 := ⟨⟨_, _, Tryd.func93, by kernel_rfl, rfl⟩⟩  -- nacelle/crc.Open
instance : FunC Tryd.prog 98 := ⟨⟨_, _, Tryd.func98, by kernel_rfl, rfl⟩⟩  -- nacelle/octet.Put
instance : FunC Tryd.prog 99 := ⟨⟨_, _, Tryd.func99, by kernel_rfl, rfl⟩⟩  -- nacelle/crc.Seal
instance : FunC Tryd.prog 100 := ⟨⟨_, _, Tryd.func100, by kernel_rfl, rfl⟩⟩  -- (*nacelle/disk.Disk).Flush
instance : FunC Tryd.prog 101 := ⟨⟨_, _, Tryd.func101, by kernel_rfl, rfl⟩⟩  -- nacelle/nacelleref02.Number
instance : FunC Tryd.prog 102 := ⟨⟨_, _, Tryd.func102, by kernel_rfl, rfl⟩⟩  -- nacelle/nacelleref05.with
instance : FunC Tryd.prog 103 := ⟨⟨_, _, Tryd.func103, by kernel_rfl, rfl⟩⟩  -- nacelle/wal.writeHome
instance : FunC Tryd.prog 104 := ⟨⟨_, _, Tryd.func104, by kernel_rfl, rfl⟩⟩  -- nacelle/wal.readHead
instance : FunC Tryd.prog 105 := ⟨⟨_, _, Tryd.func105, by kernel_rfl, rfl⟩⟩  -- nacelle/wal.headAt
instance : FunC Tryd.prog 106 := ⟨⟨_, _, Tryd.func106, by kernel_rfl, rfl⟩⟩  -- nacelle/wal.content
instance : FunC Tryd.prog 107 := ⟨⟨_, _, Tryd.func107, by kernel_rfl, rfl⟩⟩  -- nacelle/wal.readRecord
instance : FunC Tryd.prog 108 := ⟨⟨_, _, Tryd.func108, by kernel_rfl, rfl⟩⟩  -- nacelle/wal.readMark
instance : FunC Tryd.prog 109 := ⟨⟨_, _, Tryd.func109, by kernel_rfl, rfl⟩⟩  -- (*nacelle/wal.Log).apply
instance : FunC Tryd.prog 110 := ⟨⟨_, _, Tryd.func110, by kernel_rfl, rfl⟩⟩  -- nacelle/wal.recordSector
instance : FunC Tryd.prog 111 := ⟨⟨_, _, Tryd.func111, by kernel_rfl, rfl⟩⟩  -- nacelle/wal.markSector
instance : FunC Tryd.prog 112 := ⟨⟨_, _, Tryd.func112, by kernel_rfl, rfl⟩⟩  -- nacelle/nacelleref03.Of
instance : FunC Tryd.prog 114 := ⟨⟨_, _, Tryd.func114, by kernel_rfl, rfl⟩⟩  -- (nacelle/nacelleref16.Log).write
instance : FunC Tryd.prog 115 := ⟨⟨_, _, Tryd.func115, by kernel_rfl, rfl⟩⟩  -- (nacelle/nacelleref16.Log).flush
instance : FunC Tryd.prog 116 := ⟨⟨_, _, Tryd.func116, by kernel_rfl, rfl⟩⟩  -- nacelle/octet.Get
instance : FunC Tryd.prog 117 := ⟨⟨_, _, Tryd.func117, by kernel_rfl, rfl⟩⟩  -- nacelle/crc.Of
instance : FunC Tryd.prog 120 := ⟨⟨_, _, Tryd.func120, by kernel_rfl, rfl⟩⟩  -- nacelle/octet.number
instance : FunC Tryd.prog 121 := ⟨⟨_, _, Tryd.func121, by kernel_rfl, rfl⟩⟩  -- nacelle/wal.pageSector
instance : FunC Tryd.prog 122 := ⟨⟨_, _, Tryd.func122, by kernel_rfl, rfl⟩⟩  -- nacelle/wal.headSector
instance : FunC Tryd.prog 123 := ⟨⟨_, _, Tryd.func123, by kernel_rfl, rfl⟩⟩  -- slices.ContainsFunc[[]byte,byte]
instance : FunC Tryd.prog 124 := ⟨⟨_, _, Tryd.func124, by kernel_rfl, rfl⟩⟩  -- nacelle/wal.content$1
instance : FunC Tryd.prog 125 := ⟨⟨_, _, Tryd.func125, by kernel_rfl, rfl⟩⟩  -- nacelle/wal.sector
instance : FunC Tryd.prog 126 := ⟨⟨_, _, Tryd.func126, by kernel_rfl, rfl⟩⟩  -- slices.Concat[[]byte,byte]
instance : FunC Tryd.prog 127 := ⟨⟨_, _, Tryd.func127, by kernel_rfl, rfl⟩⟩  -- nacelle/nacelleref03.On
instance : FunC Tryd.prog 128 := ⟨⟨_, _, Tryd.func128, by kernel_rfl, rfl⟩⟩  -- nacelle/crc.On
instance : FunC Tryd.prog 130 := ⟨⟨_, _, Tryd.func130, by kernel_rfl, rfl⟩⟩  -- slices.IndexFunc[[]byte,byte]
instance : FunC Tryd.prog 131 := ⟨⟨_, _, Tryd.func131, by kernel_rfl, rfl⟩⟩  -- slices.Grow[[]byte,byte]
end Go.Proofs.YtbknpbihgfphaaaDoor

/- Squeezed copy of the texts K9 Tc Tw1 Tw2 Te. -/
import Derived.Test.YtgilmcpdpggikaaGreatDoorCK4
import Derived.Test.YtgilmcpdpggikaaGreatDoorCTy
import Derived.Scope
set_option maxRecDepth 100000
set_option maxHeartbeats 1000000
set_option linter.unusedSimpArgs false
set_option linter.unusedVariables false
namespace Go.Own
open Go Go.RowKit
section
variable {P : Program} {n : Nat} {ops : Array Oper} {Q : Post} {rest : List Oper} {e : Env} {w w' : World} {s : Ro} {rs : List Asn} {tt : Nat} {pp : String} {af : Array Edge} {g : Option (Nat × Bool)} {d : Nat}
theorem B.add {x y : Operand} {t u : TypeId} {k : IntKind} {B a b : Nat} [T : IntC P t k] [U : Uns k B] (h : L P n ops Q rest (upd e d (.int k ((a + b : Nat) : Int))) w) (hw : wg n ops g e = true := by rfl) (hd : Nat.blt d n = true := by rfl) (hx : ev e x = .int k (a : Int) := by rfl) (hy : ev e y = .int k (b : Int) := by rfl) (hb : a + b < 2 ^ B := by first | assumption | decide | omega) : L P n ops Q (⟨some d, .binOp .add t x y u, tt, pp, af, g⟩ :: rest) e w :=
 K.arith _ hw hd hx hy (by
  show some (k.wrap ((a : Int) + (b : Int))) = some ((a + b : Nat) : Int)
  rw [← Int.natCast_add, uwrap_lt hb]) h
theorem B.sub {x y : Operand} {t u : TypeId} {k : IntKind} {B a b : Nat} [T : IntC P t k] [U : Uns k B] (h : L P n ops Q rest (upd e d (.int k ((a - b : Nat) : Int))) w) (hw : wg n ops g e = true := by rfl) (hd : Nat.blt d n = true := by rfl) (hx : ev e x = .int k (a : Int) := by rfl) (hy : ev e y = .int k (b : Int) := by rfl) (ha : a < 2 ^ B := by first | assumption | decide | omega) (hb : b ≤ a := by first | assumption | decide | omega) : L P n ops Q (⟨some d, .binOp .sub t x y u, tt, pp, af, g⟩ :: rest) e w :=
 K.arith _ hw hd hx hy (by
  show some (k.wrap ((a : Int) - (b : Int))) = some ((a - b : Nat) : Int)
  rw [← Int.ofNat_sub hb, uwrap_lt (Nat.lt_of_le_of_lt (Nat.sub_le _ _) ha)]) h
theorem B.rem {x y : Operand} {t u : TypeId} {k : IntKind} {B a b : Nat} [T : IntC P t k] [U : Uns k B] (h : L P n ops Q rest (upd e d (.int k ((a % b : Nat) : Int))) w) (hw : wg n ops g e = true := by rfl) (hd : Nat.blt d n = true := by rfl) (hx : ev e x = .int k (a : Int) := by rfl) (hy : ev e y = .int k (b : Int) := by rfl) (hb : 0 < b := by first | assumption | decide | omega) : L P n ops Q (⟨some d, .binOp .rem t x y u, tt, pp, af, g⟩ :: rest) e w :=
 K.rem hw hd hx hy (by omega) (by rw [← Int.ofNat_tmod]; exact h)
theorem B.quo {x y : Operand} {t u : TypeId} {k : IntKind} {B a b : Nat} [T : IntC P t k] [U : Uns k B] (h : L P n ops Q rest (upd e d (.int k ((a / b : Nat) : Int))) w) (hw : wg n ops g e = true := by rfl) (hd : Nat.blt d n = true := by rfl) (hx : ev e x = .int k (a : Int) := by rfl) (hy : ev e y = .int k (b : Int) := by rfl) (ha : a < 2 ^ B := by first | assumption | decide | omega) (hb : 0 < b := by first | assumption | decide | omega) : L P n ops Q (⟨some d, .binOp .quo t x y u, tt, pp, af, g⟩ :: rest) e w :=
 L.val (o := ⟨some d, .binOp .quo t x y u, tt, pp, af, g⟩) _ w hw hd (by
  have h1 : (b : Int) ≠ 0 := by omega
  have h2 : k.wrap ((a : Int).tdiv (b : Int)) = ((a / b : Nat) : Int) := by
   rw [← Int.ofNat_tdiv, uwrap_lt (Nat.lt_of_le_of_lt (Nat.div_le_self _ _) ha)]
  unfold execOp
  simp only [hx, hy, eqGuard, binOp, Op.intDiv, if_neg h1, h2]
  simp) h
theorem X.sidx {x y : Operand} {t : TypeId} [T : StrC P t] {l : List UInt8} {k : IntKind} {ii : Int} (i : Nat) (h : L P n ops Q rest (upd e d (.int .u8 ((l[i]?.getD 0).toNat : Int))) w) (hw : wg n ops g e = true := by rfl) (hd : Nat.blt d n = true := by rfl) (hx : ev e x = .string ⟨l.toArray⟩ := by rfl) (hy : ev e y = .int k ii := by rfl) (hii : ii = (i : Int) := by first | rfl | omega) (hl : i < l.length := by first | assumption | decide | omega) : L P n ops Q (⟨some d, .index t x y, tt, pp, af, g⟩ :: rest) e w :=
 L.val (o := ⟨some d, .index t x y, tt, pp, af, g⟩) _ w hw hd (by
  subst hii
  have := run_index_string w t ⟨l.toArray⟩ k (i : Int) T.str
  have hs : (⟨l.toArray⟩ : ByteArray).size = l.length := by simp [ByteArray.size]
  rw [dif_pos (by rw [hs]; omega)] at this
  have hg : ((⟨l.toArray⟩ : ByteArray)[(i : Int).toNat]'(by rw [hs]; omega)) = l[i]?.getD 0 := by
   simp [ByteArray.getElem_eq_getElem_data, hl]
  rw [hg] at this
  unfold execOp
  simp [hx, hy, this]) h
def brow (b : Nat) (t : TypeId) (n c : Nat) (l : List UInt8) : Asn :=
 ⟨fun w F => F = [b] ∧ ∃ cur fz, w.heap[b]? = some (.cells cur t fz) ∧ n ≤ c ∧ c ≤ maxLen ∧ cur.size = c ∧ cur.toList.take n = u8s l ∧ l.length = n ∧ cur.size ≤ fz.1, fun h hk => ⟨h.1, by
  obtain ⟨_, cur, fz, hb, r⟩ := h
  exact ⟨cur, fz, (hk b (by simp [*])).trans hb, r⟩⟩, fun h k hk => by
  obtain ⟨h1, cur, fz, hb, r⟩ := h
  rw [h1] at hk; simp at hk; subst hk; exact lt_of_heap hb⟩
theorem K.bts {x : Operand} {t u el : TypeId} {by_ : Nat} {zz : List Value} [T : StrC P t] [E : ElC P u el 1 by_ zz] {l : List UInt8} (H : Holds s w rs) (he : P.underlying el = some (.int .u8)) (hl : l.length ≤ maxLen) (hw : wg n ops g e = true) (hd : Nat.blt d n = true) (hx : ev e x = .string ⟨l.toArray⟩)
  (h : ∀ b c w', Holds s w' (brow b el l.length c l :: rs) → L P n ops Q rest (upd e d (.slice (some ⟨b, 0, none⟩) l.length c)) w') : L P n ops Q (⟨some d, .convert t u x, tt, pp, af, g⟩ :: rest) e w := by
 obtain ⟨v, E', _⟩ := E.el
 have hrun := run_bytes_of_string w t u el ⟨l.toArray⟩ T.str E'.slice he
 have hs : (⟨l.toArray⟩ : ByteArray).size = l.length := by simp [ByteArray.size]
 rw [hs] at hrun
 have hge := grownCap_ge w l.length 0 el
 have hle := grownCap_le_maxLen w l.length 0 el hl
 have hsz : (bytesRow ⟨l.toArray⟩ (grownCap w l.length 0 el)).size = grownCap w l.length 0 el := by simp [bytesRow, hs]; omega
 have htk : (bytesRow ⟨l.toArray⟩ (grownCap w l.length 0 el)).toList.take l.length = u8s l := by
  unfold bytesRow u8s u8
  simp
 generalize bytesRow ⟨l.toArray⟩ (grownCap w l.length 0 el) = C at *
 generalize grownCap w l.length 0 el = c at *
 refine L.val (o := ⟨some d, .convert t u x, tt, pp, af, g⟩) _ _ hw hd ?_ (h w.heap.size c _ (H.add (F1 := [w.heap.size]) (w' := w.drew.alloc (.cells C el (C.size, C.size + 1))) ⟨rfl, C, (C.size, C.size + 1), ?_, hge, hle, hsz, htk, rfl, Nat.le_refl _⟩ (by
  have h1 := only_alloc [] w.drew (.cells C el (C.size, C.size + 1))
  exact (only_drew [] w).trans h1) (by simp)))
 ·unfold execOp
  simp [hx, hrun]
 ·have := heap_alloc_new w.drew (.cells C el (C.size, C.size + 1))
  exact this
theorem Holds.fixBrow {b c : Nat} {t : TypeId} {l : List UInt8} (H : Holds s w (brow b t l.length c l :: rs)) : ∃ s', s.Le s' ∧ Holds s' w rs ∧ SlS s' (.slice (some ⟨b, 0, none⟩) l.length c) 1 l.length (u8s l) := by
 obtain ⟨F, s', ⟨hF, cur, fz, hb, h1, h2, h3, h4, h5, h6⟩, hle, H', hm⟩ := H.fix
 refine ⟨s', hle, H', _, c, rfl, by rw [u8s_len]; simp, h1, h2, .inr ⟨b, 0, rfl, fun j x hx => ⟨cur, t, fz, by rw [hm b (by simp [hF])]; exact hb, ?_⟩⟩⟩
 rw [← h4, List.getElem?_take] at hx
 split at hx
 ·simpa using hx
 ·cases hx
theorem X.bts {x : Operand} {t u el : TypeId} {by_ : Nat} {zz : List Value} [T : StrC P t] [E : ElC P u el 1 by_ zz] {l : List UInt8} (H : Holds s w rs)
  (h : ∀ s' b c w', s.Le s' → Holds s' w' rs → SlS s' (.slice (some ⟨b, 0, none⟩) l.length c) 1 l.length (u8s l) → L P n ops Q rest (upd e d (.slice (some ⟨b, 0, none⟩) l.length c)) w') (he : P.underlying el = some (.int .u8)) (hw : wg n ops g e = true := by rfl) (hd : Nat.blt d n = true := by rfl) (hx : ev e x = .string ⟨l.toArray⟩ := by rfl) (hl : l.length ≤ maxLen := by first | assumption | (unfold maxLen; omega)) : L P n ops Q (⟨some d, .convert t u x, tt, pp, af, g⟩ :: rest) e w :=
 K.bts H he hl hw hd hx fun b c w' H' => by
  obtain ⟨s', hle, H2, hs⟩ := H'.fixBrow
  exact h s' b c w' hle H2 hs
end
end Go.Own
namespace Go.Proofs.YtgilmcpdpggikaaGreatDoor
open Go Go.RowKit Go.Own
section
variable {P : Program} {n : Nat} {ops : Array Oper} {Q : Post} {rest : List Oper} {e : Env} {w : World} {s : Ro} {rs : List Asn} {tt : Nat} {pp : String} {af : Array Edge} {g : Option (Nat × Bool)} {d : Nat}
theorem bsz (l : List UInt8) : (⟨l.toArray⟩ : ByteArray).size = l.length := by simp [ByteArray.size]
theorem X.lenL {x : Operand} {t : TypeId} [T : StrC P t] {l : List UInt8} (h : L P n ops Q rest (upd e d (.int .i64 (l.length : Int))) w) (hw : wg n ops g e = true := by rfl) (hd : Nat.blt d n = true := by rfl) (hx : ev e x = .string ⟨l.toArray⟩ := by rfl) : L P n ops Q (⟨some d, .call { callee := .builtin .len, args := #[x], argTypes := #[t] }, tt, pp, af, g⟩ :: rest) e w :=
 J.lenS (b := ⟨l.toArray⟩) (by rw [bsz]; exact h) hw hd hx
theorem X.eqL {x y : Operand} {t u : TypeId} {a b : List UInt8} (h1 : a = b → L P n ops Q rest (upd e d (.bool true)) w) (h2 : a ≠ b → L P n ops Q rest (upd e d (.bool false)) w) (hw : wg n ops g e = true := by rfl) (hd : Nat.blt d n = true := by rfl) (hx : ev e x = .string ⟨a.toArray⟩ := by rfl) (hy : ev e y = .string ⟨b.toArray⟩ := by rfl) : L P n ops Q (⟨some d, .binOp .eql t x y u, tt, pp, af, g⟩ :: rest) e w :=
 J.eqS (fun h => h1 (bst_inj'.1 h)) (fun h => h2 (fun e => h (bst_inj'.2 e))) hw hd hx hy
theorem X.neL {x y : Operand} {t u : TypeId} {a b : List UInt8} (h1 : a ≠ b → L P n ops Q rest (upd e d (.bool true)) w) (h2 : a = b → L P n ops Q rest (upd e d (.bool false)) w) (hw : wg n ops g e = true := by rfl) (hd : Nat.blt d n = true := by rfl) (hx : ev e x = .string ⟨a.toArray⟩ := by rfl) (hy : ev e y = .string ⟨b.toArray⟩ := by rfl) : L P n ops Q (⟨some d, .binOp .neq t x y u, tt, pp, af, g⟩ :: rest) e w :=
 J.neS (fun h => h1 (fun e => h (bst_inj'.2 e))) (fun h => h2 (bst_inj'.1 h)) hw hd hx hy
theorem X.catL {x y : Operand} {t u : TypeId} {a b : List UInt8} (h : L P n ops Q rest (upd e d (.string ⟨(a ++ b).toArray⟩)) w) (hw : wg n ops g e = true := by rfl) (hd : Nat.blt d n = true := by rfl) (hx : ev e x = .string ⟨a.toArray⟩ := by rfl) (hy : ev e y = .string ⟨b.toArray⟩ := by rfl) (hl : a.length + b.length ≤ 9223372036854775807 := by first | omega | (simp; omega)) : L P n ops Q (⟨some d, .binOp .add t x y u, tt, pp, af, g⟩ :: rest) e w :=
 J.cat (a := ⟨a.toArray⟩) (b := ⟨b.toArray⟩) (by
  have e : (⟨a.toArray⟩ : ByteArray) ++ ⟨b.toArray⟩ = ⟨(a ++ b).toArray⟩ := by
   apply ByteArray.ext
   simp
  rw [e]; exact h) hw hd hx hy (by rw [bsz, bsz]; exact hl)
theorem ext_list {l : List UInt8} {i j : Nat} : (⟨l.toArray⟩ : ByteArray).extract i j = ⟨((l.take j).drop i).toArray⟩ := by
 apply ByteArray.ext
 simp [List.extract_eq_take_drop, List.drop_take]
theorem X.from {x lo : Operand} {t : TypeId} [T : StrC P t] {l : List UInt8} {k : IntKind} {a : Int} (i : Nat) (h : L P n ops Q rest (upd e d (.string ⟨(l.drop i).toArray⟩)) w) (ha : a = (i : Int)) (h1 : i ≤ l.length) (hw : wg n ops g e = true := by rfl) (hd : Nat.blt d n = true := by rfl) (hx : ev e x = .string ⟨l.toArray⟩ := by rfl) (hlo : ev e lo = .int k a := by rfl) : L P n ops Q (⟨some d, .slice t x (some lo) none none, tt, pp, af, g⟩ :: rest) e w := by
 refine L.val (o := ⟨some d, .slice t x (some lo) none none, tt, pp, af, g⟩) _ w hw hd (run_v (sm := Instr.sliceAt t (ev e x) (some (ev e lo)) none none) rfl ?_) h
 have hz := bsz l
 have he : (⟨(l.drop i).toArray⟩ : ByteArray) = (⟨l.toArray⟩ : ByteArray).extract i (⟨l.toArray⟩ : ByteArray).size := by rw [ext_list, hz, List.take_length]
 rw [hx, hlo, he]
 simp [Instr.sliceAt, run_underlying T.str, Instr.slice, Instr.sliceBounds, Own.run_sliceBound ha (show i ≤ (⟨l.toArray⟩ : ByteArray).size by omega)]
theorem X.upto {x hi : Operand} {t : TypeId} [T : StrC P t] {l : List UInt8} {k : IntKind} {b : Int} (j : Nat) (h : L P n ops Q rest (upd e d (.string ⟨(l.take j).toArray⟩)) w) (hb : b = (j : Int)) (h2 : j ≤ l.length) (hw : wg n ops g e = true := by rfl) (hd : Nat.blt d n = true := by rfl) (hx : ev e x = .string ⟨l.toArray⟩ := by rfl) (hhi : ev e hi = .int k b := by rfl) : L P n ops Q (⟨some d, .slice t x none (some hi) none, tt, pp, af, g⟩ :: rest) e w := by
 refine L.val (o := ⟨some d, .slice t x none (some hi) none, tt, pp, af, g⟩) _ w hw hd (run_v (sm := Instr.sliceAt t (ev e x) none (some (ev e hi)) none) rfl ?_) h
 have hz := bsz l
 have he : (⟨(l.take j).toArray⟩ : ByteArray) = (⟨l.toArray⟩ : ByteArray).extract 0 j := by rw [ext_list, List.drop_zero]
 rw [hx, hhi, he]
 simp [Instr.sliceAt, run_underlying T.str, Instr.slice, Instr.sliceBounds, Own.run_sliceBound hb (show j ≤ (⟨l.toArray⟩ : ByteArray).size by omega)]
theorem X.lv {ty : TypeId} {x : Operand} [OneC P ty] {b off : Nat} {t : TypeId} {cs : List Value} {f : List Value → List Asn} {v : Value} (H : Holds s w rs) (h : L P n ops Q rest (upd e d v) w) (hw : wg n ops g e = true := by rfl) (hd : Nat.blt d n = true := by rfl) (hx : ev e x = .pointer (some ⟨b, off, none⟩) := by rfl) (T : PutV rs b t cs f := by infer_instance) (hv : cs[off]? = some v := by assumption) : L P n ops Q (⟨some d, .load ty x, tt, pp, af, g⟩ :: rest) e w := X.ld H h hw hd hx T hv
theorem X.lp {ty : TypeId} {x : Operand} {k : Nat} [RowC P ty k] {b off : Nat} {t : TypeId} {cs ys : List Value} {f : List Value → List Asn} (H : Holds s w rs) (h : L P n ops Q rest (upd e d (.agg ys.toArray)) w) (hw : wg n ops g e = true := by rfl) (hd : Nat.blt d n = true := by rfl) (hx : ev e x = .pointer (some ⟨b, off, none⟩) := by rfl) (T : PutV rs b t cs f := by infer_instance) (hys : (cs.drop off).take k = ys := by assumption) (hn : ys.length = k := by first | rfl | assumption) : L P n ops Q (⟨some d, .load ty x, tt, pp, af, g⟩ :: rest) e w := X.ldp ys H h hw hd hx T hys hn
theorem X.arrF {t : TypeId} {x lo : Operand} {b off len sz : Nat} {one : Bool} [A : ArrC P t len sz one] {k : IntKind} {il : Int} (l : Nat) (h : L P n ops Q rest (upd e d (.slice (some ⟨b, if len = l then off else off + l * sz, none⟩) (len - l) (len - l))) w) (hl : il = (l : Int)) (hle : l ≤ len) (hw : wg n ops g e = true := by rfl) (hd : Nat.blt d n = true := by rfl) (hx : ev e x = .pointer (some ⟨b, off, none⟩) := by rfl) (hlo : ev e lo = .int k il := by rfl) : L P n ops Q (⟨some d, .slice t x (some lo) none none, tt, pp, af, g⟩ :: rest) e w := by
 obtain ⟨el, dd, h1, h2, h3, h4⟩ := A.arr
 refine L.val (o := ⟨some d, .slice t x (some lo) none none, tt, pp, af, g⟩) _ w hw hd (run_v (sm := Instr.sliceAt t (ev e x) (some (ev e lo)) none none) rfl ?_) h
 cases hq : P.info? el with
 | none => simp [hq] at h2
 | some i =>
  have hs : i.size = sz := by simpa [hq] using h2
  rw [hx, hlo]
  have hq' := Own.run_sliceBound (P := P) (w := w) (k := k) (c := .sliceB) hl hle
  by_cases hll : len = l
  ·subst hll
   simp [Instr.sliceAt, run_underlying h1, Instr.sureAddr, Instr.sliceBounds, hq', sizeOf, typeInfo, hq, Addr.add, hs]
  ·simp [Instr.sliceAt, run_underlying h1, Instr.sureAddr, Instr.sliceBounds, hq', sizeOf, typeInfo, hq, Addr.add, hs, hll]
theorem C.label {l : Nat} (h : Q .normal e w) : C P n Q (.label l) e w := ⟨fun a ha => wp_label ⟨e, ha, h⟩⟩
def noGotoE (Q : Post) : Post := fun x => match x with
 | .goto _ => fun _ _ => False
 | x => Q x
theorem C.scope {c : Code} (h : C P n (noGotoE Q) c e w) : C P n Q (.scope c) e w :=
 ⟨fun a ha => wp_scope_straight (Code.wp_mono (fun ex a' w' ⟨e', fr, hq⟩ => by
  cases ex <;> first | exact hq.elim | exact ⟨e', fr, hq⟩) (h.go a ha))⟩
end
section
variable {s : Ro} {w : World} {R : List Asn}
theorem isName_s {l : Str} (H : Holds s w R) : Calls Tryz.prog 73 #[.string ⟨l.toArray⟩] w fun e w' => e = .returned (.bool (isNameM l)) ∧ Holds s w' R := by
 refine enter Tryz.func73 rfl Tryz.ntmps73 rfl ?_
 by_cases hl : 1 ≤ l.length ∧ l.length ≤ 8
 rotate_left
 ·repeat' (first | (refine X.lenL ?_) | (refine X.lv H ?_) | (refine X.lp H ?_) | refine Z H ?_ | (refine Zc ?_ ?_ <;> intro hc <;> first | (exfalso; omega) | skip) | (refine Y ?_; try change C _ _ _ _ _ _) | (refine Zs H ?_; clear H; (try clear w); intro w H) | (refine Zn H ?_; clear H; (try clear w); intro _ w H) | (refine Ze H ?_; clear H; (try clear w); intro gv w H))
  all_goals exact ⟨_, resT rfl, by rw [isNameM, decide_eq_false hl]; rfl, H⟩
 obtain ⟨h1, h8⟩ := hl
 repeat' (first | (refine X.lenL ?_) | (refine X.lv H ?_) | (refine X.lp H ?_) | refine Z H ?_ | (refine Zc ?_ ?_ <;> intro hc <;> first | (exfalso; omega) | skip) | (refine Y ?_; try change C _ _ _ _ _ _) | (refine Zs H ?_; clear H; (try clear w); intro w H) | (refine Zn H ?_; clear H; (try clear w); intro _ w H) | (refine Ze H ?_; clear H; (try clear w); intro gv w H))
 refine C.loopH H [2, 3, 4, 15, 16, 17, 18, 19, 20, 21, 22, 23, 24, 25, 26, 27, 28, 29, 30, 31, 32, 33, 34, 35, 36, 37, 38, 39, 40, 41, 42, 43] [15] rfl (fun m vs => ∃ i : Nat, m = l.length - i ∧ i ≤ l.length ∧ vs = [.int .i64 (i : Int)] ∧ (l.take i).all okc = true) l.length ⟨0, rfl, Nat.zero_le _, rfl, by simp⟩ ?_
 clear H
 rintro m vs hv w ⟨i, rfl, hi, rfl, hall⟩ H
 by_cases hlt : i < l.length
 rotate_left
 ·obtain rfl : i = l.length := by omega
  rw [List.take_length] at hall
  repeat' (first | (refine X.lenL ?_) | (refine X.lv H ?_) | (refine X.lp H ?_) | refine Z H ?_ | (refine Zc ?_ ?_ <;> intro hc <;> first | (exfalso; omega) | skip) | (refine Y ?_; try change C _ _ _ _ _ _) | (refine Zs H ?_; clear H; (try clear w); intro w H) | (refine Zn H ?_; clear H; (try clear w); intro _ w H) | (refine Ze H ?_; clear H; (try clear w); intro gv w H))
  exact ⟨_, resT rfl, by rw [isNameM, hall, decide_eq_true ⟨h1, h8⟩]; rfl, H⟩
 have hcc : l[i]? = some (l[i]?.getD 0) := by rw [List.getElem?_eq_getElem hlt]; rfl
 have htk : l.take (i + 1) = l.take i ++ [l[i]?.getD 0] := by rw [List.take_succ_eq_append_getElem hlt, List.getElem?_eq_getElem hlt]; rfl
 by_cases hok : 97 ≤ (l[i]?.getD 0).toNat ∧ (l[i]?.getD 0).toNat ≤ 122 ∨ 48 ≤ (l[i]?.getD 0).toNat ∧ (l[i]?.getD 0).toNat ≤ 57 ∨ (l[i]?.getD 0).toNat = 46 ∨ (l[i]?.getD 0).toNat = 95
 ·repeat' (first | (refine X.sidx i ?_) | (refine X.lenL ?_) | (refine X.lv H ?_) | (refine X.lp H ?_) | refine Z H ?_ | (refine Zc ?_ ?_ <;> intro hc <;> first | (exfalso; omega) | skip) | (refine Y ?_; try change C _ _ _ _ _ _) | (refine Zs H ?_; clear H; (try clear w); intro w H) | (refine Zn H ?_; clear H; (try clear w); intro _ w H) | (refine Ze H ?_; clear H; (try clear w); intro gv w H))
  all_goals exact ⟨agr, l.length - (i + 1), by omega, ⟨i + 1, rfl, by omega, rfl, by rw [htk, List.all_append, hall]; simp [okc, hok]⟩, H⟩
 ·repeat' (first | (refine X.sidx i ?_) | (refine X.lenL ?_) | (refine X.lv H ?_) | (refine X.lp H ?_) | refine Z H ?_ | (refine Zc ?_ ?_ <;> intro hc <;> first | (exfalso; omega) | skip) | (refine Y ?_; try change C _ _ _ _ _ _) | (refine Zs H ?_; clear H; (try clear w); intro w H) | (refine Zn H ?_; clear H; (try clear w); intro _ w H) | (refine Ze H ?_; clear H; (try clear w); intro gv w H))
  all_goals exact ⟨_, resT rfl, by
   have : l.all okc = false := by
    rw [List.all_eq_false]
    exact ⟨_, List.mem_of_getElem? hcc, by simpa [okc] using hok⟩
   rw [isNameM, this, Bool.and_false]; rfl, H⟩
theorem Go1 {p q : Prop} {s : Ro} {w : World} {rs : List Asn} (H : Holds s w rs) (h : q) (g : Holds s w rs → Wq q → p := by intro H h; (first | (refine X.lenL ?_) | (refine X.lv H ?_) | (refine X.lp H ?_) | refine Z H ?_ | (refine Zc ?_ ?_ <;> intro hc <;> first | (exfalso; omega) | skip) | (refine Y ?_; try change C _ _ _ _ _ _)) <;> exact h.out) : p := g H ⟨h⟩
theorem Gs1 {p q : Prop} {s : Ro} {w : World} {rs : List Asn} (H : Holds s w rs) (h : q) (g : Holds s w rs → Wq q → p := by intro H h; (first | (refine Zs H ?_; clear H; (try clear w); intro w H)) <;> (revert w; exact h.out)) : p := g H ⟨h⟩
theorem Gq1 {p q : Prop} {s : Ro} {w : World} {rs : List Asn} (H : Holds s w rs) (h : q) (g : Holds s w rs → Wq q → p := by intro H h; (repeat' (first | refine Go1 H ?_ | (refine Gs1 H ?_; clear H; (try clear w); intro w H) | (refine Gn H ?_; clear H; (try clear w); intro b w H))) <;> (first | exact h.out | (revert w; exact h.out) | (revert w; revert b; exact h.out))) : p := g H ⟨h⟩
theorem rooted_s {b : Nat} {t : TR} {i : Nat} (H : Holds s w (var b 41 t.cells :: R)) (ht : t.Ok) (hi : i < 8) : Calls Tryz.prog 74 #[.pointer (some ⟨b, 0, none⟩), .int .i64 (i : Int)] w fun e w' => e = .returned (.bool (rootedM t i)) ∧ Holds s w' (var b 41 t.cells :: R) := by
 refine enter Tryz.func74 rfl Tryz.ntmps74 rfl ?_
 refine Gq1 H ?_
 refine C.loopH H [1, 4, 5, 6, 7, 8, 9, 10, 11, 12, 13, 14, 15, 16, 17, 18, 19, 20, 21, 22] [1, 5] rfl (fun m vs => ∃ j i' : Nat, m = 8 - j ∧ j ≤ 8 ∧ i' < 8 ∧ vs = [.int .i64 (i' : Int), .int .i64 (j : Int)] ∧ rootedFrom t (8 - j) i' = rootedM t i) 8 ⟨0, i, rfl, by omega, hi, rfl, rfl⟩ ?_
 clear H hi
 rintro m vs hv w ⟨j, i', rfl, hj, hi, rfl, hr⟩ H
 have hp := TR.cell ht hi 1 _ rfl
 by_cases hlt : j < 8
 rotate_left
 ·obtain rfl : j = 8 := by omega
  by_cases h0 : i' = 0
  ·subst h0
   refine Gq1 H ?_
   exact ⟨_, resT rfl, by rw [← hr]; rfl, H⟩
  ·refine Gq1 H ?_
   exact ⟨_, resT rfl, by rw [← hr]; simp [rootedFrom, h0]; rfl, H⟩
 rw [show 8 - j = (7 - j) + 1 by omega, rootedFrom] at hr
 by_cases h0 : i' = 0
 ·subst h0
  refine Gq1 H ?_
  exact ⟨_, resT rfl, by rw [← hr]; rfl, H⟩
 rw [if_neg (by omega), Int.toNat_natCast] at hr
 by_cases hb : (t.n i').parent < 0 ∨ 8 ≤ (t.n i').parent
 ·rw [if_pos hb] at hr
  repeat' (first | (refine K.iaA (i := i') rfl rfl rfl rfl (by omega) hi ?_) | (refine X.lenL ?_) | (refine X.lv H ?_) | (refine X.lp H ?_) | refine Z H ?_ | (refine Zc ?_ ?_ <;> intro hc <;> first | (exfalso; omega) | skip) | (refine Y ?_; try change C _ _ _ _ _ _) | (refine Zs H ?_; clear H; (try clear w); intro w H) | (refine Zn H ?_; clear H; (try clear w); intro _ w H) | (refine Ze H ?_; clear H; (try clear w); intro gv w H))
  all_goals exact ⟨_, resT rfl, by rw [← hr]; rfl, H⟩
 ·rw [if_neg hb] at hr
  repeat' (first | (refine K.iaA (i := i') rfl rfl rfl rfl (by omega) hi ?_) | refine Go1 H ?_ | (refine Gs1 H ?_; clear H; (try clear w); intro w H) | (refine Gn H ?_; clear H; (try clear w); intro _ w H))
  obtain ⟨p, hpp⟩ : ∃ p : Nat, (t.n i').parent = p := ⟨(t.n i').parent.toNat, by omega⟩
  rw [hpp] at hr hb
  refine ⟨agr, 8 - (j + 1), by omega, ⟨j + 1, p, rfl, by omega, by omega, ?_, by rw [← hr]; congr 1; omega⟩, H⟩
  rw [← hpp]; rfl
end
theorem TR.nodeL {t : TR} (h : t.Ok) {i : Nat} (hi : i < 8) : ((t.nd.flatMap Nd.cells).drop (i * 6)).take 6 = (t.n i).cells := by
 have := flatS_part (f := Nd.cells) t.nd (fun x _ => Nd.cells_len x) i 0 6 (by rw [h.n8]; exact hi) (by omega)
 rw [Nat.add_zero] at this
 rw [this, ← TR.n_get h hi]
 rfl
section
variable {s : Ro} {w : World} {R : List Asn} {b : Nat} {t : TR}
theorem Go2 {p q : Prop} {s : Ro} {w : World} {rs : List Asn} (H : Holds s w rs) (h : q) (g : Holds s w rs → Wq q → p := by intro H h; (first | (refine X.lenL ?_) | (refine X.lv H ?_) | (refine X.lp H ?_) | (refine X.eqL ?_ ?_ <;> intro hc <;> first | (exfalso; first | exact absurd hc (by assumption) | exact absurd (by assumption) hc) | skip) | refine Z H ?_ | (refine Zc ?_ ?_ <;> intro hc <;> first | (exfalso; omega) | skip) | (refine Y ?_; try change C _ _ _ _ _ _)) <;> exact h.out) : p := g H ⟨h⟩
theorem Gs2 {p q : Prop} {s : Ro} {w : World} {rs : List Asn} (H : Holds s w rs) (h : q) (g : Holds s w rs → Wq q → p := by intro H h; (first | (refine Zs H ?_; clear H; (try clear w); intro w H)) <;> (revert w; exact h.out)) : p := g H ⟨h⟩
theorem Gq2 {p q : Prop} {s : Ro} {w : World} {rs : List Asn} (H : Holds s w rs) (h : q) (g : Holds s w rs → Wq q → p := by intro H h; (repeat' (first | refine Go2 H ?_ | (refine Gs2 H ?_; clear H; (try clear w); intro w H) | (refine Gn H ?_; clear H; (try clear w); intro b w H))) <;> (first | exact h.out | (revert w; exact h.out) | (revert w; revert b; exact h.out))) : p := g H ⟨h⟩
theorem child_s {dir : Int} {nm : Str} (H : Holds s w (var b 41 t.cells :: R)) (ht : t.Ok) : Calls Tryz.prog 70 #[.pointer (some ⟨b, 0, none⟩), .int .i64 dir, .string ⟨nm.toArray⟩] w fun e w' => e = .returned (.int .i64 (childM t dir nm)) ∧ Holds s w' (var b 41 t.cells :: R) := by
 refine enter Tryz.func70 rfl Tryz.ntmps70 rfl ?_
 refine Gq2 H ?_
 refine C.loopH H [6, 7, 8, 9, 10, 11, 12, 13, 14, 15, 16, 17, 18, 19, 20, 21, 22, 23, 24, 25, 26, 27, 28, 29, 30, 31, 32, 33, 34] [7] rfl (fun m vs => ∃ i : Nat, m = 8 - i ∧ 1 ≤ i ∧ i ≤ 8 ∧ vs = [.int .i64 (i : Int)] ∧ childFrom t dir nm (8 - i) i = childM t dir nm) 7 ⟨1, rfl, by omega, by omega, rfl, rfl⟩ ?_
 clear H
 rintro m vs hv w ⟨i, rfl, hi1, hi, rfl, hr⟩ H
 by_cases hlt : i < 8
 rotate_left
 ·obtain rfl : i = 8 := by omega
  refine Gq2 H ?_
  exact ⟨_, resT rfl, by rw [← hr]; rfl, H⟩
 have hn := TR.node ht hlt
 rw [show 8 - i = (7 - i) + 1 by omega, childFrom] at hr
 by_cases hk : (t.n i).kind ≠ 0 ∧ (t.n i).parent = dir ∧ (t.n i).name = nm
 ·rw [if_pos hk] at hr
  obtain ⟨k1, k2, k3⟩ := hk
  repeat' (first | (refine K.iaA (i := i) rfl rfl rfl rfl (by omega) hlt ?_) | refine Go2 H ?_ | (refine Gs2 H ?_; clear H; (try clear w); intro w H) | (refine Gn H ?_; clear H; (try clear w); intro _ w H))
  exact ⟨_, resT rfl, by rw [← hr]; rfl, H.tail⟩
 ·rw [if_neg hk] at hr
  by_cases k1 : (t.n i).kind ≠ 0 ∧ (t.n i).parent = dir
  ·obtain ⟨k1, k2⟩ := k1
   have k3 : ¬ (t.n i).name = nm := fun h => hk ⟨k1, k2, h⟩
   repeat' (first | (refine K.iaA (i := i) rfl rfl rfl rfl (by omega) hlt ?_) | refine Go2 H ?_ | (refine Gs2 H ?_; clear H; (try clear w); intro w H) | (refine Gn H ?_; clear H; (try clear w); intro _ w H))
   exact ⟨agr, 8 - (i + 1), by omega, ⟨i + 1, rfl, by omega, by omega, rfl, by rw [← hr]; congr 1; omega⟩, H.tail⟩
  ·repeat' (first | (refine K.iaA (i := i) rfl rfl rfl rfl (by omega) hlt ?_) | (refine X.lenL ?_) | (refine X.lv H ?_) | (refine X.lp H ?_) | (refine X.eqL ?_ ?_ <;> intro hc <;> first | (exfalso; first | exact absurd hc (by assumption) | exact absurd (by assumption) hc) | skip) | refine Z H ?_ | (refine Zc ?_ ?_ <;> intro hc <;> first | (exfalso; omega) | skip) | (refine Y ?_; try change C _ _ _ _ _ _) | (refine Zs H ?_; clear H; (try clear w); intro w H) | (refine Zn H ?_; clear H; (try clear w); intro _ w H) | (refine Ze H ?_; clear H; (try clear w); intro gv w H))
   all_goals first
    | (exfalso; exact k1 ⟨by assumption, by assumption⟩)
    | exact ⟨agr, 8 - (i + 1), by omega, ⟨i + 1, rfl, by omega, by omega, rfl, by rw [← hr]; congr 1; omega⟩, H.tail⟩
theorem used_s (H : Holds s w (var b 41 t.cells :: R)) (ht : t.Ok) : Calls Tryz.prog 58 #[.pointer (some ⟨b, 0, none⟩)] w fun e w' => e = .returned (.int .i64 (usedN t : Int)) ∧ Holds s w' (var b 41 t.cells :: R) := by
 refine enter Tryz.func58 rfl Tryz.ntmps58 rfl ?_
 have hnd := TR.nodes ht
 have hl48 := TR.nd_len ht
 refine Gq2 H ?_
 refine C.loopH H [3, 5, 7, 12, 13, 14, 15, 16, 17, 18, 19, 20, 21, 22, 23, 24, 25] [3, 12] rfl (fun m vs => ∃ i c : Nat, m = 8 - i ∧ i ≤ 8 ∧ vs = [.int .i64 (c : Int), .int .i64 (i : Int)] ∧ c = ((t.nd.take i).map Nd.nblk).sum ∧ c ≤ 2 * i) 8 ⟨0, 0, rfl, by omega, rfl, by simp, by omega⟩ ?_
 clear H
 rintro m vs hv w ⟨i, c, rfl, hi, rfl, hc0, hcb⟩ H
 by_cases hlt : i < 8
 rotate_left
 ·obtain rfl : i = 8 := by omega
  refine Gq2 H ?_
  exact ⟨_, resT rfl, by rw [usedN, hc0, List.take_of_length_le (by rw [ht.n8]; omega)]; rfl, H⟩
 have hn := TR.nodeL ht hlt
 repeat' (first | (refine X.ixP i ?_ hn hlt) | (refine X.ldp [.int .i64 (t.n i).b0, .int .i64 (t.n i).b1] H ?_) | refine Go2 H ?_ | (refine Gs2 H ?_; clear H; (try clear w); intro w H) | (refine Gn H ?_; clear H; (try clear w); intro _ w H))
 have hst : ((t.nd.take (i + 1)).map Nd.nblk).sum = c + (t.n i).nblk := by
  rw [List.take_succ_eq_append_getElem (by rw [ht.n8]; exact hlt), ← TR.n_get ht hlt, List.map_append, List.sum_append, ← hc0]
  simp
 have hnb : (t.n i).nblk ≤ 2 := by unfold Nd.nblk; split <;> split <;> omega
 refine C.loopH H [3, 7, 17, 18, 19, 20, 21, 22, 23, 24] [3, 17] rfl (fun m vs => ∃ j c' : Nat, m = 2 - j ∧ j ≤ 2 ∧ vs = [.int .i64 (c' : Int), .int .i64 (j : Int)] ∧ c' ≤ c + j ∧ c' = c + (if 0 < j ∧ (t.n i).b0 ≠ 0 then 1 else 0) + (if 1 < j ∧ (t.n i).b1 ≠ 0 then 1 else 0)) 2 ⟨0, c, rfl, by omega, rfl, by omega, by simp⟩ ?_
 clear H
 rintro m vs hv1 w ⟨j, c', rfl, hj, rfl, hcl, hc'⟩ H
 rcases (show j = 0 ∨ j = 1 ∨ j = 2 by omega) with rfl | rfl | rfl
 ·rw [if_neg (by omega), if_neg (by omega)] at hc'
  by_cases hb : (t.n i).b0 = 0
  ·repeat' (first | (refine X.ix1 (v := .int .i64 (t.n i).b0) 0 ?_ rfl (by decide)) | refine Go2 H ?_ | (refine Gs2 H ?_; clear H; (try clear w); intro w H) | (refine Gn H ?_; clear H; (try clear w); intro _ w H))
   exact ⟨agr, 1, by omega, ⟨1, c', rfl, by omega, rfl, by omega, by rw [if_neg (by omega), if_neg (by omega)]; exact hc'⟩, H⟩
  ·repeat' (first | (refine X.ix1 (v := .int .i64 (t.n i).b0) 0 ?_ rfl (by decide)) | refine Go2 H ?_ | (refine Gs2 H ?_; clear H; (try clear w); intro w H) | (refine Gn H ?_; clear H; (try clear w); intro _ w H))
   exact ⟨agr, 1, by omega, ⟨1, c' + 1, rfl, by omega, rfl, by omega, by rw [if_pos ⟨by omega, hb⟩, if_neg (by omega)]; omega⟩, H⟩
 ·rw [if_neg (show ¬ (1 < 1 ∧ (t.n i).b1 ≠ 0) by omega)] at hc'
  by_cases hb : (t.n i).b1 = 0
  ·repeat' (first | (refine X.ix1 (v := .int .i64 (t.n i).b1) 1 ?_ rfl (by decide)) | refine Go2 H ?_ | (refine Gs2 H ?_; clear H; (try clear w); intro w H) | (refine Gn H ?_; clear H; (try clear w); intro _ w H))
   exact ⟨agr, 0, by omega, ⟨2, c', rfl, by omega, rfl, by omega, by rw [if_neg (show ¬ (1 < 2 ∧ (t.n i).b1 ≠ 0) by omega), hc']; split <;> split <;> omega⟩, H⟩
  ·repeat' (first | (refine X.ix1 (v := .int .i64 (t.n i).b1) 1 ?_ rfl (by decide)) | refine Go2 H ?_ | (refine Gs2 H ?_; clear H; (try clear w); intro w H) | (refine Gn H ?_; clear H; (try clear w); intro _ w H))
   exact ⟨agr, 0, by omega, ⟨2, c' + 1, rfl, by omega, rfl, by omega, by rw [if_pos (show (1 < 2 ∧ (t.n i).b1 ≠ 0) from ⟨by omega, hb⟩)]; split at hc' <;> split <;> omega⟩, H⟩
 ·refine Gq2 H ?_
  exact ⟨agr, 8 - (i + 1), by omega, ⟨i + 1, c', rfl, by omega, rfl, by rw [hst, hc', Nd.nblk]; split <;> split <;> split <;> split <;> omega, by rw [hc']; split <;> split <;> omega⟩, H.tail⟩
end
theorem build_blk0 (w : World) : (Instr.build 34 ([] : List (Nat × Value)).toArray).run Tryz.prog w = .ok (.agg ([.int .i64 0, .int .i64 0] : List Value).toArray) w := by kernel_rfl
theorem build_node0 (w : World) : (Instr.build 36 ([] : List (Nat × Value)).toArray).run Tryz.prog w = .ok (.agg Nd.zero.cells.toArray) w := by kernel_rfl
theorem build_root (w : World) : (Instr.build 36 ([(0, .int .i64 1)] : List (Nat × Value)).toArray).run Tryz.prog w = .ok (.agg Nd.root.cells.toArray) w := by kernel_rfl
theorem build_node (k p : Int) (nm : Str) (w : World) : (Instr.build 36 ([(0, .int .i64 k), (1, .int .i64 p), (2, .string ⟨nm.toArray⟩)] : List (Nat × Value)).toArray).run Tryz.prog w = .ok (.agg (Nd.cells ⟨k, p, nm, 0, 0, 0⟩).toArray) w := by kernel_rfl
theorem build_tree0 (w : World) : (Instr.build 41 ([] : List (Nat × Value)).toArray).run Tryz.prog w = .ok (.agg TR.zero.cells.toArray) w := by kernel_rfl
theorem build_block0 (w : World) : (Instr.build 38 ([] : List (Nat × Value)).toArray).run Tryz.prog w = .ok (.agg (u8s (List.replicate 40 0)).toArray) w := by kernel_rfl
theorem build_place (d : Int) (nm : Str) (w : World) : (Instr.build 116 ([(0, .int .i64 d), (1, .string ⟨nm.toArray⟩)] : List (Nat × Value)).toArray).run Tryz.prog w = .ok (.agg ([.int .i64 d, .string ⟨nm.toArray⟩] : List Value).toArray) w := by kernel_rfl
theorem eq_blk (d : Nat) (a b a' b' : Int) : EqA Tryz.prog (d + 2) 34 [.int .i64 a, .int .i64 b] [.int .i64 a', .int .i64 b'] (a = a' ∧ b = b') :=
 (EqA.arr (b := fun i => if i = 0 then a = a' else b = b') Tryz.underlying34 (c := 1) (by kernel_rfl) (fun i hi => by
  rcases (show i = 0 ∨ i = 1 by omega) with rfl | rfl
  ·exact EqP.int Tryz.underlying3 rfl rfl
  ·exact EqP.int Tryz.underlying3 rfl rfl)).iff ⟨fun h => ⟨h 0 (by omega), h 1 (by omega)⟩, fun h i hi => by
   rcases (show i = 0 ∨ i = 1 by omega) with rfl | rfl
   ·exact h.1
   ·exact h.2⟩
theorem eq_node (d : Nat) (x y : Nd) : EqA Tryz.prog (d + 3) 36 x.cells y.cells (x = y) :=
 (EqA.struct (b := fun f => match f.offset with
   | 0 => x.kind = y.kind
   | 1 => x.parent = y.parent
   | 2 => x.name = y.name
   | 3 => x.size = y.size
   | _ => x.b0 = y.b0 ∧ x.b1 = y.b1) Tryz.underlying36 (by kernel_rfl) (fun f hf => by
  simp only [List.mem_cons, List.not_mem_nil, or_false] at hf
  rcases hf with rfl | rfl | rfl | rfl | rfl
  ·exact ⟨by decide, EqP.int Tryz.underlying3 rfl rfl⟩
  ·exact ⟨by decide, EqP.int Tryz.underlying3 rfl rfl⟩
  ·exact ⟨by decide, EqP.str Tryz.underlying9 rfl rfl⟩
  ·exact ⟨by decide, EqP.int Tryz.underlying3 rfl rfl⟩
  ·exact ⟨by decide, EqA.at_ (n := 2) (eq_blk d _ _ _ _)⟩)).iff (by
  obtain ⟨k, p, nm, s, b0, b1⟩ := x
  obtain ⟨k', p', nm', s', b0', b1'⟩ := y
  simp only [List.mem_cons, List.not_mem_nil, or_false, forall_eq_or_imp, forall_eq, Nd.mk.injEq])
theorem flatS_ext {α : Type} {f : α → List Value} {sz : Nat} {l m : List α} (hl : l.length = m.length) (h : ∀ i : Nat, i < l.length → l[i]? = m[i]?) : l = m := by
 apply List.ext_getElem?
 intro i
 by_cases hi : i < l.length
 ·exact h i hi
 ·rw [List.getElem?_eq_none (by omega), List.getElem?_eq_none (by omega)]
theorem eq_bytes (d : Nat) {l m : List UInt8} (hl : l.length = 40) (hm : m.length = 40) : EqA Tryz.prog (d + 2) 38 (u8s l) (u8s m) (l = m) :=
 (EqA.arr (b := fun i => l[i]? = m[i]?) Tryz.underlying38 (c := 1) (by kernel_rfl) (fun i hi => by
  rw [Nat.mul_one]
  intro w
  have h1 : (u8s l)[i]? = some (.int .u8 ((l[i]'(by omega)).toNat : Int)) := by simp [u8s, u8, List.getElem?_eq_getElem (show i < l.length by omega)]
  have h2 : (u8s m)[i]? = some (.int .u8 ((m[i]'(by omega)).toNat : Int)) := by simp [u8s, u8, List.getElem?_eq_getElem (show i < m.length by omega)]
  obtain ⟨a, b, r, e1, e2, e3, e4⟩ := EqP.int (P := Tryz.prog) (d := d) Tryz.underlying5 h1 h2 w
  refine ⟨a, b, r, e1, e2, e3, e4.trans ?_⟩
  rw [List.getElem?_eq_getElem (show i < l.length by omega), List.getElem?_eq_getElem (show i < m.length by omega), Option.some.injEq]
  constructor
  ·intro h; exact UInt8.toNat_inj.1 (by omega)
  ·intro h; rw [h])).iff ⟨fun h => flatS_ext (f := fun _ => []) (sz := 0) (by omega) (fun i hi => h i (by omega)), fun h i _ => by rw [h]⟩
theorem eq_tree (d : Nat) {t u : TR} (ht : t.Ok) (hu : u.Ok) : EqA Tryz.prog (d + 5) 41 t.cells u.cells (t = u) :=
 (EqA.struct (b := fun f => match f.offset with
   | 0 => t.nd = u.nd
   | _ => t.bl = u.bl) Tryz.underlying41 (by kernel_rfl) (fun f hf => by
  simp only [List.mem_cons, List.not_mem_nil, or_false] at hf
  rcases hf with rfl | rfl
  ·refine ⟨by decide, EqA.at_ (n := 48) ?_⟩
   show EqA _ _ _ ((t.cells.drop 0).take 48) ((u.cells.drop 0).take 48) _
   rw [TR.nodes ht, TR.nodes hu]
   refine (EqA.arr (d := d + 3) (b := fun i => t.n i = u.n i) Tryz.underlying37 (c := 6) (by kernel_rfl) (fun i hi => EqA.at_ (n := 6) ?_)).iff ?_
   ·have e1 := TR.node ht hi
    have e2 := TR.node hu hi
    have f1 : ((t.nd.flatMap Nd.cells).drop (i * 6)).take 6 = (t.n i).cells := by
     have := flatS_part (f := Nd.cells) t.nd (fun x _ => Nd.cells_len x) i 0 6 (by rw [ht.n8]; exact hi) (by omega)
     rw [Nat.add_zero] at this
     rw [this, ← TR.n_get ht hi]; rfl
    have f2 : ((u.nd.flatMap Nd.cells).drop (i * 6)).take 6 = (u.n i).cells := by
     have := flatS_part (f := Nd.cells) u.nd (fun x _ => Nd.cells_len x) i 0 6 (by rw [hu.n8]; exact hi) (by omega)
     rw [Nat.add_zero] at this
     rw [this, ← TR.n_get hu hi]; rfl
    rw [f1, f2]
    exact eq_node d _ _
   ·constructor
    ·intro h
     refine flatS_ext (f := fun _ => []) (sz := 0) (by rw [ht.n8, hu.n8]) (fun i hi => ?_)
     rw [ht.n8] at hi
     rw [TR.n_eq ht hi, TR.n_eq hu hi, h i hi]
    ·intro h i hi
     unfold TR.n
     rw [h]
  ·refine ⟨by decide, EqA.at_ (n := 320) ?_⟩
   show EqA _ _ _ ((t.cells.drop 48).take 320) ((u.cells.drop 48).take 320) _
   rw [TR.blocks ht, TR.blocks hu]
   refine (EqA.arr (d := d + 3) (b := fun i => t.b i = u.b i) Tryz.underlying39 (c := 40) (by kernel_rfl) (fun i hi => EqA.at_ (n := 40) ?_)).iff ?_
   ·have f1 : ((t.bl.flatMap u8s).drop (i * 40)).take 40 = u8s (t.b i) := by
     have := flatS_part (f := u8s) (sz := 40) t.bl (fun x hx => by rw [u8s_len]; exact ht.b40 x hx) i 0 40 (by rw [ht.b8]; exact hi) (by omega)
     rw [Nat.add_zero] at this
     rw [this, ← TR.b_get ht hi, List.drop_zero, List.take_of_length_le (by rw [u8s_len, TR.b_len ht hi]; omega)]
    have f2 : ((u.bl.flatMap u8s).drop (i * 40)).take 40 = u8s (u.b i) := by
     have := flatS_part (f := u8s) (sz := 40) u.bl (fun x hx => by rw [u8s_len]; exact hu.b40 x hx) i 0 40 (by rw [hu.b8]; exact hi) (by omega)
     rw [Nat.add_zero] at this
     rw [this, ← TR.b_get hu hi, List.drop_zero, List.take_of_length_le (by rw [u8s_len, TR.b_len hu hi]; omega)]
    rw [f1, f2]
    exact eq_bytes (d + 1) (TR.b_len ht hi) (TR.b_len hu hi)
   ·constructor
    ·intro h
     refine flatS_ext (f := fun _ => []) (sz := 0) (by rw [ht.b8, hu.b8]) (fun i hi => ?_)
     rw [ht.b8] at hi
     rw [TR.b_eq ht hi, TR.b_eq hu hi, h i hi]
    ·intro h i hi
     unfold TR.b
     rw [h])).iff (by
  obtain ⟨n, b⟩ := t
  obtain ⟨n', b'⟩ := u
  simp only [List.mem_cons, List.not_mem_nil, or_false, forall_eq_or_imp, forall_eq, TR.mk.injEq])
theorem guard_node : Tryz.prog.eqGuardType Tryz.prog.depth 36 = false := by kernel_rfl
theorem guard_blk : Tryz.prog.eqGuardType Tryz.prog.depth 34 = false := by kernel_rfl
theorem guard_tree : Tryz.prog.eqGuardType Tryz.prog.depth 41 = false := by kernel_rfl
end Go.Proofs.YtgilmcpdpggikaaGreatDoor

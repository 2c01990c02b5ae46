/- Which operations yield the same value in worlds that are alike, by their kind; a drawn region walked as a list. -/
import Derived.Test.YtmcojfpomejnnaaRun
set_option linter.unusedSimpArgs false
set_option linter.unusedVariables false
namespace Go.Reg
open Go

section
variable {P : Program} {Sim : World → World → Prop} {α β : Type}

/-! ### binary operations -/
def binV (op : BinOp) (x y : Value) : Bool :=
  match x, y with
  | .int _ _, .int _ _ => true
  | .string _, .string _ => true
  | .bool _, .bool _ => op == .eql || op == .neq
  | .pointer none, .pointer _ => op == .eql || op == .neq
  | .pointer _, .pointer none => op == .eql || op == .neq
  | .slice none _ _, .slice _ _ _ => op == .eql || op == .neq
  | .slice _ _ _, .slice none _ _ => op == .eql || op == .neq
  | _, _ => false

theorem rd_intArith (op : BinOp) (k : IntKind) (x y : Int) : Rd P Sim (Op.intArith op k x y) := by
  unfold Op.intArith
  repeat' first
    | exact Rd.pure _
    | exact (dead_stuck _).rd
    | exact (dead_unsup _).rd
    | exact (dead_bounds _ _ _ _).rd
    | exact (dead_rtp _).rd
    | exact rd_underlying _
    | exact rd_sizeOf _
    | exact rd_typeInfo _
    | exact rd_program
    | (refine Rd.bind ?_ (fun _ => ?_))
    | split
    | dsimp only
theorem rd_intDiv (op : BinOp) (k : IntKind) (x y : Int) : Rd P Sim (Op.intDiv op k x y) := by
  unfold Op.intDiv
  repeat' first
    | exact Rd.pure _
    | exact (dead_stuck _).rd
    | exact (dead_unsup _).rd
    | exact (dead_bounds _ _ _ _).rd
    | exact (dead_rtp _).rd
    | exact rd_underlying _
    | exact rd_sizeOf _
    | exact rd_typeInfo _
    | exact rd_program
    | (refine Rd.bind ?_ (fun _ => ?_))
    | split
    | dsimp only
theorem rd_intBits (op : BinOp) (k : IntKind) (x y : Int) : Rd P Sim (Op.intBits op k x y) := by
  unfold Op.intBits
  repeat' first
    | exact Rd.pure _
    | exact (dead_stuck _).rd
    | exact (dead_unsup _).rd
    | exact (dead_bounds _ _ _ _).rd
    | exact (dead_rtp _).rd
    | exact rd_underlying _
    | exact rd_sizeOf _
    | exact rd_typeInfo _
    | exact rd_program
    | (refine Rd.bind ?_ (fun _ => ?_))
    | split
    | dsimp only
theorem rd_shift (op : BinOp) (k : IntKind) (x : Int) (k' : IntKind) (y : Int) : Rd P Sim (Op.shift op k x k' y) := by
  unfold Op.shift
  repeat' first
    | exact Rd.pure _
    | exact (dead_stuck _).rd
    | exact (dead_unsup _).rd
    | exact (dead_bounds _ _ _ _).rd
    | exact (dead_rtp _).rd
    | exact rd_underlying _
    | exact rd_sizeOf _
    | exact rd_typeInfo _
    | exact rd_program
    | (refine Rd.bind ?_ (fun _ => ?_))
    | split
    | dsimp only
theorem rd_intCmp (op : BinOp) (x y : Int) : Rd P Sim (Op.intCmp op x y) := by
  unfold Op.intCmp
  repeat' first
    | exact Rd.pure _
    | exact (dead_stuck _).rd
    | exact (dead_unsup _).rd
    | exact (dead_bounds _ _ _ _).rd
    | exact (dead_rtp _).rd
    | exact rd_underlying _
    | exact rd_sizeOf _
    | exact rd_typeInfo _
    | exact rd_program
    | (refine Rd.bind ?_ (fun _ => ?_))
    | split
    | dsimp only
theorem rd_stringOp (op : BinOp) (x y : ByteArray) : Rd P Sim (Op.stringOp op x y) := by
  unfold Op.stringOp
  repeat' first
    | exact Rd.pure _
    | exact (dead_stuck _).rd
    | exact (dead_unsup _).rd
    | exact (dead_bounds _ _ _ _).rd
    | exact (dead_rtp _).rd
    | exact rd_underlying _
    | exact rd_sizeOf _
    | exact rd_typeInfo _
    | exact rd_program
    | (refine Rd.bind ?_ (fun _ => ?_))
    | split
    | dsimp only

theorem rd_equal_bool (t : TypeId) (x y : Bool) : Rd P Sim (Op.equal t (.bool x) (.bool y)) := by
  show Rd P Sim (Op.equalIn (9999 + 1) t _ _)
  unfold Op.equalIn
  refine (rd_underlying t).bind fun d => ?_
  cases d <;> simp only [] <;> first | exact .pure _ | exact (dead_stuck _).rd
theorem rd_equal_ptr_l (t : TypeId) (y : Option Addr) : Rd P Sim (Op.equal t (.pointer none) (.pointer y)) := by
  show Rd P Sim (Op.equalIn (9999 + 1) t _ _)
  unfold Op.equalIn
  refine (rd_underlying t).bind fun d => ?_
  cases y <;> cases d <;> simp only [samePointer] <;> first | exact .pure _ | exact (dead_stuck _).rd | exact (dead_unsup _).rd
theorem rd_equal_ptr_r (t : TypeId) (x : Option Addr) : Rd P Sim (Op.equal t (.pointer x) (.pointer none)) := by
  show Rd P Sim (Op.equalIn (9999 + 1) t _ _)
  unfold Op.equalIn
  refine (rd_underlying t).bind fun d => ?_
  cases x <;> cases d <;> simp only [samePointer] <;> first | exact .pure _ | exact (dead_stuck _).rd | exact (dead_unsup _).rd
theorem rd_equal_slice_l (t : TypeId) (n c : Nat) (y : Option Addr) (m e : Nat) : Rd P Sim (Op.equal t (.slice none n c) (.slice y m e)) := by
  show Rd P Sim (Op.equalIn (9999 + 1) t _ _)
  unfold Op.equalIn
  refine (rd_underlying t).bind fun d => ?_
  cases d <;> simp only [] <;> first | exact .pure _ | exact (dead_stuck _).rd
theorem rd_equal_slice_r (t : TypeId) (y : Option Addr) (n c m e : Nat) : Rd P Sim (Op.equal t (.slice y n c) (.slice none m e)) := by
  show Rd P Sim (Op.equalIn (9999 + 1) t _ _)
  unfold Op.equalIn
  refine (rd_underlying t).bind fun d => ?_
  cases y <;> cases d <;> simp only [] <;> first | exact .pure _ | exact (dead_stuck _).rd

theorem rd_eqGuard (op : BinOp) (t : TypeId) (x y : Operand) (a b : Value) (h : binV op a b = true) : Rd P Sim (eqGuard op t x y a b) := by
  unfold eqGuard
  unfold binV at h
  split at h <;> first | (cases h; done) | (dsimp only; split <;> first | exact .pure _ | (refine Rd.bind ?_ (fun _ => ?_) <;> exact .pure _))

theorem rd_binOp (op : BinOp) (t : TypeId) (a b : Value) (h : binV op a b = true) : Rd P Sim (binOp op t a b) := by
  unfold binV at h
  split at h
  · rename_i k a k' b
    cases op <;> first
      | (unfold binOp; exact rd_shift _ _ _ _ _)
      | (simp only [binOp]; exact rd_shift _ _ _ _ _)
      | (show Rd P Sim (if k ≠ k' then _ else _); refine Rd.ite (fun _ => (dead_stuck _).rd) (fun _ => ?_); first | exact rd_intArith _ _ _ _ | exact rd_intDiv _ _ _ _ | exact rd_intBits _ _ _ _ | exact rd_intCmp _ _ _)
  · cases op <;> (simp only [binOp]; exact rd_stringOp _ _ _)
  · simp only [Bool.or_eq_true, beq_iff_eq] at h
    rcases h with rfl | rfl <;> exact (rd_equal_bool t _ _).bind fun _ => .pure _
  · simp only [Bool.or_eq_true, beq_iff_eq] at h
    rcases h with rfl | rfl <;> exact (rd_equal_ptr_l t _).bind fun _ => .pure _
  · simp only [Bool.or_eq_true, beq_iff_eq] at h
    rcases h with rfl | rfl <;> exact (rd_equal_ptr_r t _).bind fun _ => .pure _
  · simp only [Bool.or_eq_true, beq_iff_eq] at h
    rcases h with rfl | rfl <;> exact (rd_equal_slice_l t _ _ _ _ _).bind fun _ => .pure _
  · simp only [Bool.or_eq_true, beq_iff_eq] at h
    rcases h with rfl | rfl <;> exact (rd_equal_slice_r t _ _ _ _ _).bind fun _ => .pure _
  · cases h
end
end Go.Reg

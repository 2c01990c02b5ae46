/- Which operations of a region yield the same value in worlds that are alike; a drawn region walked as a list. -/
import Derived.Test.YtmcojfpomejnnaaReg
import Derived.Laws.Sem
import Derived.Laws.Cells
set_option linter.unusedSimpArgs false
set_option linter.unusedVariables false
namespace Go.Reg
open Go

/-! ### runs that only read -/
section
variable {P : Program} {Sim : World → World → Prop} {α β : Type}

theorem andThen_ok_inv {r : Result α} {f : α → World → Result β} {b : β} {w' : World} (h : r.andThen f = .ok b w') : ∃ a w1, r = .ok a w1 ∧ f a w1 = .ok b w' := by
  cases r with
  | ok a w1 => exact ⟨a, w1, rfl, h⟩
  | halt x w1 => simp at h

def Rd (P : Program) (Sim : World → World → Prop) (s : Sem α) : Prop :=
  ∀ w a w', s.run P w = .ok a w' → w' = w ∧ ∀ w2, Sim w w2 → s.run P w2 = .ok a w2

def All : World → World → Prop := fun _ _ => True

theorem Rd.of_all {s : Sem α} (h : Rd P All s) : Rd P Sim s := fun w a w' hr => ⟨(h w a w' hr).1, fun w2 _ => (h w a w' hr).2 w2 trivial⟩

theorem Rd.pure (a : α) : Rd P Sim (Pure.pure a : Sem α) := fun w b w' h => by
  simp at h; obtain ⟨rfl, rfl⟩ := h; exact ⟨rfl, fun _ _ => by simp⟩

theorem Rd.bind {s : Sem α} {f : α → Sem β} (hs : Rd P Sim s) (hf : ∀ a, Rd P Sim (f a)) : Rd P Sim (s >>= f) := fun w b w' h => by
  rw [Sem.run_bind] at h
  obtain ⟨a, w1, h1, h2⟩ := andThen_ok_inv h
  obtain ⟨rfl, h3⟩ := hs w a w1 h1
  obtain ⟨rfl, h4⟩ := hf a w1 b w' h2
  exact ⟨rfl, fun w2 hw => by rw [Sem.run_bind, h3 w2 hw]; exact h4 w2 hw⟩

/-- what never comes out well -/
def Dead (P : Program) (s : Sem α) : Prop := ∀ w a w', s.run P w ≠ .ok a w'
theorem Dead.rd {s : Sem α} (h : Dead P s) : Rd P Sim s := fun w a w' hr => absurd hr (h w a w')
theorem Dead.bind {s : Sem α} (f : α → Sem β) (h : Dead P s) : Dead P (s >>= f) := fun w b w' hr => by
  rw [Sem.run_bind] at hr
  obtain ⟨a, w1, h1, _⟩ := andThen_ok_inv hr
  exact h w a w1 h1
theorem Dead.after {s : Sem α} {f : α → Sem β} (h : ∀ a, Dead P (f a)) : Dead P (s >>= f) := fun w b w' hr => by
  rw [Sem.run_bind] at hr
  obtain ⟨a, w1, _, h2⟩ := andThen_ok_inv hr
  exact h a w1 b w' h2
theorem dead_halt (h : Halt) : Dead P (Sem.halt h : Sem α) := fun w a w' hr => by simp [Sem.run] at hr
theorem dead_stuck (s : String) : Dead P (stuck s : Sem α) := dead_halt _
theorem dead_unsup (u : Unsupported) : Dead P (unsupported u : Sem α) := dead_halt _
theorem dead_goPanic (v : Value) : Dead P (goPanic v : Sem α) := dead_halt _
theorem dead_rtp (e : RuntimeError) : Dead P (runtimePanic e : Sem α) := by
  unfold runtimePanic
  refine Dead.after fun p => ?_
  cases e <;> simp only [] <;> first
    | exact dead_goPanic _
    | exact Dead.after fun _ => Dead.after fun _ => dead_goPanic _
theorem dead_bounds (k : IntKind) (x y : Int) (c : BoundsCode) : Dead P (boundsPanic k x y c : Sem α) := by
  unfold boundsPanic
  dsimp only
  split
  · exact Dead.after fun _ => dead_rtp _
  · exact Dead.after fun _ => dead_rtp _

theorem Rd.ite {c : Prop} [Decidable c] {s t : Sem α} (h1 : c → Rd P Sim s) (h2 : ¬ c → Rd P Sim t) : Rd P Sim (if c then s else t) := by
  split
  · exact h1 ‹_›
  · exact h2 ‹_›

theorem rd_program : Rd P Sim (program) := fun w a w' h => by
  simp [program, Sem.run] at h
  obtain ⟨rfl, rfl⟩ := h
  exact ⟨rfl, fun _ _ => by simp [program, Sem.run]⟩
theorem rd_typeInfo (t : TypeId) : Rd P Sim (typeInfo t) := by
  unfold typeInfo
  refine rd_program.bind fun p => ?_
  split
  · exact .pure _
  · exact (dead_stuck _).rd
theorem rd_underlying (t : TypeId) : Rd P Sim (underlying t) := by
  unfold underlying
  refine rd_program.bind fun p => ?_
  split
  · exact .pure _
  · exact (dead_stuck _).rd
theorem rd_sizeOf (t : TypeId) : Rd P Sim (sizeOf t) := (rd_typeInfo t).bind fun _ => .pure _
theorem rd_zeroValue (t : TypeId) : Rd P Sim (zeroValue t) := by
  unfold zeroValue
  refine (rd_typeInfo t).bind fun i => ?_
  split
  · exact .pure _
  · exact (dead_unsup _).rd
theorem rd_isAgg (t : TypeId) : Rd P Sim (isAgg t) := by
  unfold isAgg
  refine (rd_underlying t).bind fun d => ?_
  split <;> exact .pure _
theorem rd_asIntOf (v : Value) : Rd P Sim (asIntOf v) := by
  unfold asIntOf
  split
  · exact .pure _
  · exact (dead_unsup _).rd
  · exact (dead_stuck _).rd
theorem rd_asInt (v : Value) : Rd P Sim (asInt v) := (rd_asIntOf v).bind fun _ => .pure _
theorem rd_sureAddr (v : Value) : Rd P Sim (Instr.sureAddr v) := by
  unfold Instr.sureAddr
  split
  · exact .pure _
  · exact (dead_stuck _).rd
theorem rd_part (t : TypeId) (cs : Array Value) (off : Nat) : Rd P Sim (part t cs off) := by
  unfold part
  refine (rd_isAgg t).bind fun b => ?_
  split
  · exact (rd_sizeOf t).bind fun _ => .pure _
  · split
    · exact .pure _
    · exact (dead_stuck _).rd

/-! ### the operations that hang on no world -/
theorem rd_indexAt (t : TypeId) (x i : Value) : Rd P Sim (Instr.indexAt t x i) := by
  unfold Instr.indexAt
  repeat' first
    | exact Rd.pure _
    | exact (dead_stuck _).rd
    | exact (dead_unsup _).rd
    | exact (dead_bounds _ _ _ _).rd
    | exact (dead_rtp _).rd
    | exact rd_underlying _
    | exact rd_sizeOf _
    | exact rd_asIntOf _
    | exact rd_sureAddr _
    | exact rd_part _ _ _
    | (refine Rd.bind ?_ (fun _ => ?_))
    | split
    | dsimp only
theorem rd_sliceBound (x : Value) (y : Nat) (c : BoundsCode) : Rd P Sim (Instr.sliceBound x y c) := by
  unfold Instr.sliceBound
  repeat' first
    | exact Rd.pure _
    | exact (dead_stuck _).rd
    | exact (dead_unsup _).rd
    | exact (dead_bounds _ _ _ _).rd
    | exact (dead_rtp _).rd
    | exact rd_underlying _
    | exact rd_sizeOf _
    | exact rd_asIntOf _
    | exact rd_sureAddr _
    | exact rd_part _ _ _
    | (refine Rd.bind ?_ (fun _ => ?_))
    | split
    | dsimp only
theorem rd_sliceBounds (b : Bool) (len cap : Nat) (lo hi mx : Option Value) : Rd P Sim (Instr.sliceBounds b len cap lo hi mx) := by
  unfold Instr.sliceBounds
  repeat' first
    | exact Rd.pure _
    | exact (dead_stuck _).rd
    | exact (dead_unsup _).rd
    | exact (dead_bounds _ _ _ _).rd
    | exact (dead_rtp _).rd
    | exact rd_underlying _
    | exact rd_sizeOf _
    | exact rd_asIntOf _
    | exact rd_sureAddr _
    | exact rd_part _ _ _
    | exact rd_sliceBound _ _ _
    | (refine Rd.bind ?_ (fun _ => ?_))
    | split
    | dsimp only
theorem rd_asAddr (v : Value) : Rd P Sim (asAddr v) := by
  unfold asAddr
  split
  · exact .pure _
  · exact (dead_rtp _).rd
  · exact (dead_stuck _).rd
theorem rd_slice (t : TypeId) (x : Value) (lo hi mx : Option Value) : Rd P Sim (Instr.slice t x lo hi mx) := by
  unfold Instr.slice
  repeat' first
    | exact Rd.pure _
    | exact (dead_stuck _).rd
    | exact (dead_unsup _).rd
    | exact (dead_bounds _ _ _ _).rd
    | exact (dead_rtp _).rd
    | exact rd_underlying _
    | exact rd_sizeOf _
    | exact rd_asIntOf _
    | exact rd_sureAddr _
    | exact rd_part _ _ _
    | exact rd_sliceBounds _ _ _ _ _ _
    | exact rd_asAddr _
    | (refine Rd.bind ?_ (fun _ => ?_))
    | split
    | dsimp only
theorem rd_sliceAt (t : TypeId) (x : Value) (lo hi mx : Option Value) : Rd P Sim (Instr.sliceAt t x lo hi mx) := by
  unfold Instr.sliceAt
  repeat' first
    | exact Rd.pure _
    | exact (dead_stuck _).rd
    | exact (dead_unsup _).rd
    | exact (dead_bounds _ _ _ _).rd
    | exact (dead_rtp _).rd
    | exact rd_underlying _
    | exact rd_sizeOf _
    | exact rd_asIntOf _
    | exact rd_sureAddr _
    | exact rd_part _ _ _
    | exact rd_sliceBounds _ _ _ _ _ _
    | exact rd_slice _ _ _ _ _
    | (refine Rd.bind ?_ (fun _ => ?_))
    | split
    | dsimp only
theorem rd_index (t : TypeId) (x i : Value) : Rd P Sim (Instr.index t x i) := by
  unfold Instr.index
  repeat' first
    | exact Rd.pure _
    | exact (dead_stuck _).rd
    | exact (dead_unsup _).rd
    | exact (dead_bounds _ _ _ _).rd
    | exact (dead_rtp _).rd
    | exact rd_underlying _
    | exact rd_sizeOf _
    | exact rd_asIntOf _
    | exact rd_sureAddr _
    | exact rd_part _ _ _
    | (refine Rd.bind ?_ (fun _ => ?_))
    | split
    | dsimp only
theorem rd_field (t : TypeId) (x : Value) (f : Nat) : Rd P Sim (Instr.field t x f) := by
  unfold Instr.field asAgg
  repeat' first
    | exact Rd.pure _
    | exact (dead_stuck _).rd
    | exact (dead_unsup _).rd
    | exact (dead_bounds _ _ _ _).rd
    | exact (dead_rtp _).rd
    | exact rd_underlying _
    | exact rd_sizeOf _
    | exact rd_asIntOf _
    | exact rd_sureAddr _
    | exact rd_part _ _ _
    | (refine Rd.bind ?_ (fun _ => ?_))
    | split
    | dsimp only
theorem rd_extract (t : Value) (i : Nat) : Rd P Sim (Instr.extract t i) := by
  unfold Instr.extract
  split
  · split
    · exact .pure _
    · exact (dead_stuck _).rd
  · exact (dead_stuck _).rd
theorem rd_unary (op : UnOp) (x : Value) : Rd P Sim (Op.unary op x) := by
  unfold Op.unary
  split <;> first
    | exact .pure _
    | exact (dead_unsup _).rd
    | exact (dead_stuck _).rd
    | (unfold Op.intArith; split <;> first | exact .pure _ | exact (dead_stuck _).rd)
    | (unfold Op.intBits; split <;> first | exact .pure _ | exact (dead_stuck _).rd)
theorem rd_asBool (v : Value) : Rd P Sim (asBool v) := by
  unfold asBool
  split
  · exact .pure _
  · exact (dead_stuck _).rd

def fieldFits (P : Program) (s : TypeId) (f : Nat) : Bool :=
  match P.underlying s with
  | some (.struct fields) => match fields[f]? with
    | some x => match P.info? x.type with
      | some i => i.size != 0
      | none => false
    | none => false
  | _ => false
theorem rd_fieldAt (s : TypeId) (x : Value) (f : Nat) (hf : fieldFits P s f = true) : Rd P Sim (Instr.fieldAt s x f) := by
  intro w a w' h
  unfold fieldFits at hf
  unfold Instr.fieldAt at h ⊢
  cases hu : P.underlying s with
  | none => simp [hu] at hf
  | some d =>
    cases d with
    | struct fields =>
      simp only [hu] at hf
      cases hx : fields[f]? with
      | none => simp [hx] at hf
      | some fl =>
        simp only [hx] at hf
        cases hi : P.info? fl.type with
        | none => simp [hi] at hf
        | some i =>
          simp only [hi] at hf
          have hz : i.size ≠ 0 := by simpa using hf
          have hrun : ∀ w, (underlying s).run P w = .ok (.struct fields) w := fun w => by simp [underlying, program, Sem.run, hu]
          have hsz : ∀ w, (sizeOf fl.type).run P w = .ok i.size w := fun w => by simp [sizeOf, typeInfo, program, Sem.run, hi]
          cases x <;> simp [hrun, hx, Instr.sureAddr, fieldPlace, hsz, hz, stuck, Sem.run] at h ⊢
          rename_i ao
          cases ao <;> simp [hrun, hx, Instr.sureAddr, fieldPlace, hsz, hz, stuck, Sem.run] at h ⊢
          obtain ⟨rfl, rfl⟩ := h
          simp
    | _ => simp [hu] at hf
end
end Go.Reg

/- A drawn region walked as a list, in the order of its text: the two forms (no call; calls between which named blocks stay). -/
import Derived.Test.YtmcojfpomejnnaaRunC
set_option linter.unusedSimpArgs false
set_option linter.unusedVariables false
namespace Go.Reg
open Go

section
variable {P : Program} {Sim : World → World → Prop} {α β : Type}

def syn0 (P : Program) : Op → Bool
  | .move _ | .assign _ | .pick _ _ _ | .field _ _ _ | .indexAddr _ _ _ | .index _ _ _ | .slice _ _ _ _ _ | .extract _ _ | .unOp _ _ _ | .build _ _ | .nilCheck _ | .binOp _ _ _ _ _ => true
  | .fieldAddr s _ f => fieldFits P s f
  | .convert _ dst _ => match P.underlying dst with | some (.int _) => true | _ => false
  | .call c => match c.callee with | .builtin .len => c.args.size == 1 | _ => false
  | _ => false

def val0 (op : Op) (ρ : Operand → Value) : Bool :=
  match op with
  | .nilCheck x => match ρ x with | .pointer _ => true | _ => false
  | .binOp o _ x y _ => binV o (ρ x) (ρ y)
  | .convert _ _ x => match ρ x with | .int _ _ => true | _ => false
  | .call c => match c.args[0]? with | some x => (match ρ x with | .slice _ _ _ | .string _ => true | _ => false) | none => false
  | _ => true

def syn1 (P : Program) : Op → Bool
  | .load _ _ => true
  | .convert src dst _ => match P.underlying dst, P.underlying src with
    | some .string, some (.slice e) => (match P.underlying e with | some (.int .u8) => true | _ => false)
    | _, _ => false
  | _ => false

def val1 (op : Op) (ρ : Operand → Value) : Bool :=
  match op with
  | .load _ x => match ρ x with | .pointer _ => true | _ => false
  | .convert _ _ x => match ρ x with | .slice _ _ _ => true | _ => false
  | _ => true

def rdBlock (op : Op) (ρ : Operand → Value) : List Nat :=
  match op with
  | .load _ x => match ρ x with | .pointer (some a) => [a.block] | _ => []
  | .convert _ _ x => match ρ x with | .slice (some a) _ _ => [a.block] | _ => []
  | _ => []

def syn2 : Op → Bool
  | .alloc _ | .box _ _ | .buildSlice _ _ _ | .makeSlice _ _ _ => true
  | _ => false

theorem rd_value {s : Sem Value} (h : Rd P Sim s) (w : World) (n : Next) (w' : World) (hr : (do pure (Next.value (← s)) : Sem Next).run P w = .ok n w') :
    ∃ v, n = .value v ∧ w' = w ∧ ∀ w2, Sim w w2 → (do pure (Next.value (← s)) : Sem Next).run P w2 = .ok (.value v) w2 := by
  rw [Sem.run_bind] at hr
  obtain ⟨v, w1, h1, h2⟩ := andThen_ok_inv hr
  obtain ⟨rfl, h3⟩ := h w v w1 h1
  simp at h2
  obtain ⟨rfl, rfl⟩ := h2
  exact ⟨v, rfl, rfl, fun w2 hw => by rw [Sem.run_bind, h3 w2 hw]; simp⟩

theorem rd_now (v : Value) (w : World) (n : Next) (w' : World) (hr : (Pure.pure (Next.value v) : Sem Next).run P w = .ok n w') :
    ∃ v, n = .value v ∧ w' = w ∧ ∀ w2, Sim w w2 → (Pure.pure (Next.value v) : Sem Next).run P w2 = .ok (.value v) w2 := by
  simp at hr
  obtain ⟨rfl, rfl⟩ := hr
  exact ⟨_, rfl, rfl, fun _ _ => by simp⟩

theorem free0 (o : Oper) (ρ : Operand → Value) (hs : syn0 P o.op = true) (hv : val0 o.op ρ = true) (w : World) (n : Next) (w' : World) (hr : (execOp ρ o).run P w = .ok n w') :
    ∃ v, n = .value v ∧ w' = w ∧ ∀ w2, (execOp ρ o).run P w2 = .ok (.value v) w2 := by
  suffices H : ∃ v, n = .value v ∧ w' = w ∧ ∀ w2, All w w2 → (execOp ρ o).run P w2 = .ok (.value v) w2 by
    obtain ⟨v, h1, h2, h3⟩ := H; exact ⟨v, h1, h2, fun w2 => h3 w2 trivial⟩
  obtain ⟨dst, op, type, pos, after, guard⟩ := o
  simp only at hs hv
  cases op <;> simp only [syn0, Bool.false_eq_true] at hs <;> simp only [execOp] at hr ⊢
  case move x => simp at hr; obtain ⟨rfl, rfl⟩ := hr; exact ⟨_, rfl, rfl, fun _ _ => by simp⟩
  case assign x => simp at hr; obtain ⟨rfl, rfl⟩ := hr; exact ⟨_, rfl, rfl, fun _ _ => by simp⟩
  case pick c a b =>
    rw [Sem.run_bind] at hr
    obtain ⟨t, w1, h1, h2⟩ := andThen_ok_inv hr
    obtain ⟨rfl, h3⟩ := rd_asBool (P := P) (Sim := All) (ρ c) w t w1 h1
    simp at h2
    obtain ⟨rfl, rfl⟩ := h2
    exact ⟨_, rfl, rfl, fun w2 hw => by rw [Sem.run_bind, h3 w2 hw]; simp⟩
  case build t ps => exact rd_value (rd_build _ _) w n w' hr
  case nilCheck x =>
    simp only [val0] at hv
    cases hx : ρ x <;> rw [hx] at hv <;> simp only [Bool.false_eq_true] at hv
    rename_i a
    rw [hx] at hr
    cases a with
    | none => exact absurd hr (dead_rtp _ w n w')
    | some a => simp only [] at hr ⊢; simp at hr; obtain ⟨rfl, rfl⟩ := hr; exact ⟨_, rfl, rfl, fun _ _ => by simp⟩
  case binOp op t x y ty => exact rd_value ((rd_eqGuard _ _ _ _ _ _ hv).bind fun _ => rd_binOp _ _ _ _ hv) w n w' hr
  case unOp op t x => exact rd_value (rd_unary _ _) w n w' hr
  case convert src dst' x =>
    simp only [val0] at hv
    cases hx : ρ x <;> rw [hx] at hv <;> simp only [Bool.false_eq_true] at hv
    rename_i k m
    rw [hx] at hr
    have : Rd P All (convert src dst' (.int k m)) := by
      cases hu : P.underlying dst' with
      | none => simp [hu] at hs
      | some d =>
        cases d <;> simp only [hu, Bool.false_eq_true] at hs
        rename_i k'
        intro w a w' h
        unfold convert at h ⊢
        rw [Sem.run_bind] at h
        obtain ⟨ds, w1, h1, h2⟩ := andThen_ok_inv h
        obtain ⟨rfl, h3⟩ := rd_underlying (P := P) (Sim := All) src w ds w1 h1
        have hu2 : ∀ w, (underlying dst').run P w = .ok (.int k') w := fun w => by simp [underlying, program, Sem.run, hu]
        rw [Sem.run_bind, hu2] at h2
        simp only [Result.andThen_ok] at h2
        have hc : ∀ w, (Conv.intToInt k' m).run P w = .ok (.int k' (k'.wrap m)) w := fun w => by simp [Conv.intToInt]
        cases ds <;> simp only [hc] at h2 <;> (cases h2; exact ⟨rfl, fun w2 hw => by rw [Sem.run_bind, h3 w2 hw]; simp [hu2, hc]⟩)
    exact rd_value this w n w' hr
  case slice t x lo hi mx => exact rd_value (rd_sliceAt _ _ _ _ _) w n w' hr
  case fieldAddr s x f => exact rd_value (rd_fieldAt _ _ _ hs) w n w' hr
  case field t x f => exact rd_value (rd_field _ _ _) w n w' hr
  case indexAddr t x i => exact rd_value (rd_indexAt _ _ _) w n w' hr
  case index t x i => exact rd_value (rd_index _ _ _) w n w' hr
  case extract t i => exact rd_value (rd_extract _ _) w n w' hr
  case call c =>
    obtain ⟨callee, args, tys⟩ := c
    cases callee <;> simp only [Bool.false_eq_true] at hs
    rename_i b
    cases b <;> simp only [Bool.false_eq_true, beq_iff_eq] at hs
    obtain ⟨l⟩ := args
    match l, hs with
    | [x], _ =>
      simp only [val0, List.getElem?_toArray, List.getElem?_cons_zero] at hv
      simp only [resolve, invoke, builtin, List.map_toArray, List.map_cons, List.map_nil] at hr ⊢
      obtain ⟨v, h1, h2, h3⟩ := rd_value (P := P) (Sim := All) (rd_len tys type (ρ x) hv) w n w' (by simpa using hr)
      exact ⟨v, h1, h2, fun w2 hw => by simpa using h3 w2 hw⟩

theorem free1 (o : Oper) (ρ : Operand → Value) (hl : ∀ a : Addr, a.block ∈ rdBlock o.op ρ → Rd P Sim (load a)) (hs : syn1 P o.op = true) (hv : val1 o.op ρ = true) (w : World) (n : Next) (w' : World) (hr : (execOp ρ o).run P w = .ok n w') :
    ∃ v, n = .value v ∧ w' = w ∧ ∀ w2, Sim w w2 → (execOp ρ o).run P w2 = .ok (.value v) w2 := by
  obtain ⟨dst, op, type, pos, after, guard⟩ := o
  simp only at hs hv hl
  cases op <;> simp only [syn1, Bool.false_eq_true] at hs <;> simp only [execOp] at hr ⊢
  case load t x =>
    refine rd_value ?_ w n w' hr
    unfold Instr.loadAt
    cases hx : ρ x <;> simp only [val1, hx, Bool.false_eq_true] at hv
    rename_i a
    cases a with
    | none => exact ((dead_stuck _).bind _).rd
    | some a =>
      show Rd P Sim (loadVar t a)
      exact rd_loadVar (fun c hc => hl c (by simp [rdBlock, hx, hc])) t
  case convert src dst' x =>
    refine rd_value ?_ w n w' hr
    cases hx : ρ x <;> simp only [val1, hx, Bool.false_eq_true] at hv
    rename_i a m c
    split at hs
    · rename_i e hu1 hu2
      split at hs
      · rename_i hu3
        have r1 : ∀ w, (underlying src).run P w = .ok (.slice e) w := fun w => by simp [underlying, program, Sem.run, hu2]
        have r2 : ∀ w, (underlying dst').run P w = .ok .string w := fun w => by simp [underlying, program, Sem.run, hu1]
        have r3 : ∀ w, (underlying e).run P w = .ok (.int .u8) w := fun w => by simp [underlying, program, Sem.run, hu3]
        have heq : ∀ w, (convert src dst' (.slice a m c)).run P w = (Conv.bytesToString (.slice a m c)).run P w := fun w => by
          unfold convert
          rw [Sem.run_bind, r1]
          simp only [Result.andThen_ok]
          rw [Sem.run_bind, r2]
          simp only [Result.andThen_ok]
          rw [Sem.run_bind, r3]
          simp only [Result.andThen_ok]
        have hb : Rd P Sim (Conv.bytesToString (.slice a m c)) := rd_bytesToString fun a' n' c' he b hbk => hl b (by cases he; simp [rdBlock, hx, hbk])
        intro w v w' h
        rw [heq] at h
        obtain ⟨h1, h2⟩ := hb w v w' h
        exact ⟨h1, fun w2 hw => by rw [heq]; exact h2 w2 hw⟩
      · cases hs
    · cases hs

/-! ### new memory -/
def ExtS (P : Program) (s : Sem α) : Prop := ∀ w a w', s.run P w = .ok a w' → Ext w w'
theorem Rd.ext {s : Sem α} (h : Rd P All s) : ExtS P s := fun w a w' hr => by rw [(h w a w' hr).1]; exact likes_ext.refl w
theorem ExtS.bind {s : Sem α} {f : α → Sem β} (hs : ExtS P s) (hf : ∀ a, ExtS P (f a)) : ExtS P (s >>= f) := fun w b w' h => by
  rw [Sem.run_bind] at h
  obtain ⟨a, w1, h1, h2⟩ := andThen_ok_inv h
  exact likes_ext.trans _ _ _ (hs w a w1 h1) (hf a w1 b w' h2)
theorem ext_newObj (o : Obj) : ExtS P (newObj o) := fun w a w' h => by
  have h' : (Result.ok w.heap.size { w with heap := w.heap.push o } : Result Nat) = .ok a w' := h
  cases h'
  refine ⟨by simp, fun k hk => ?_⟩
  simp only [Array.getElem?_push]
  rw [if_neg (by omega)]
theorem ext_newRow (t : TypeId) (c : Array Value) : ExtS P (newRow t c) := (ext_newObj _).bind fun _ => (Rd.pure _).ext
theorem ext_askRoom (n : Nat) : ExtS P (askRoom n) := fun w a w' h => by
  unfold askRoom at h
  split at h
  · simp [mark, Sem.run] at h; obtain ⟨rfl, rfl⟩ := h; exact likes_ext.refl _
  · simp at h; obtain ⟨rfl, rfl⟩ := h; exact likes_ext.refl _

theorem ext_value {s : Sem Value} (h : ExtS P s) (w : World) (n : Next) (w' : World) (hr : (do pure (Next.value (← s)) : Sem Next).run P w = .ok n w') : (∃ v, n = .value v) ∧ Ext w w' := by
  rw [Sem.run_bind] at hr
  obtain ⟨v, w1, h1, h2⟩ := andThen_ok_inv hr
  simp at h2
  obtain ⟨rfl, rfl⟩ := h2
  exact ⟨⟨v, rfl⟩, h w v w1 h1⟩

theorem ext2 (o : Oper) (ρ : Operand → Value) (hs : syn2 o.op = true) (w : World) (n : Next) (w' : World) (hr : (execOp ρ o).run P w = .ok n w') : (∃ v, n = .value v) ∧ Ext w w' := by
  obtain ⟨dst, op, type, pos, after, guard⟩ := o
  simp only at hs
  cases op <;> simp only [syn2, Bool.false_eq_true] at hs <;> simp only [execOp] at hr
  case alloc e =>
    refine ext_value ?_ w n w' hr
    unfold Instr.alloc
    exact (rd_zeroValue _).ext.bind fun z => (ext_newRow _ _).bind fun _ => (Rd.pure _).ext
  case box e x =>
    refine ext_value ?_ w n w' hr
    exact (ext_newRow _ _).bind fun _ => (Rd.pure _).ext
  case buildSlice t len ps =>
    refine ext_value ?_ w n w' hr
    unfold Instr.buildSlice
    refine (rd_underlying _).ext.bind fun d => ?_
    split
    · refine (rd_sizeOf _).ext.bind fun s => ?_
      dsimp only
      split
      · exact ((dead_unsup _).bind _).rd.ext
      · split <;> (repeat' first | exact (dead_stuck _).rd.ext | exact (Rd.pure _).ext | exact (rd_zeroValue _).ext | exact ext_newRow _ _ | refine ExtS.bind ?_ (fun _ => ?_) | split)
    · exact (dead_stuck _).rd.ext
  case makeSlice t len cap =>
    refine ext_value ?_ w n w' hr
    unfold Instr.makeSlice
    refine (rd_underlying _).ext.bind fun d => ?_
    split
    · refine (rd_asInt _).ext.bind fun l => (rd_asInt _).ext.bind fun c => (rd_typeInfo _).ext.bind fun i => ?_
      dsimp only
      split
      · repeat' first | exact ((dead_rtp _).bind _).rd.ext | exact (dead_rtp _).rd.ext | exact (Dead.after fun _ => (dead_rtp _).bind _).rd.ext | exact (Dead.after fun _ => (dead_rtp _)).rd.ext | split
      · refine (ext_askRoom _).bind fun _ => (rd_sizeOf _).ext.bind fun s => ?_
        repeat' first | exact (dead_stuck _).rd.ext | exact (Rd.pure _).ext | exact (rd_zeroValue _).ext | exact ext_newRow _ _ | refine ExtS.bind ?_ (fun _ => ?_) | split
    · exact (dead_stuck _).rd.ext
end
end Go.Reg

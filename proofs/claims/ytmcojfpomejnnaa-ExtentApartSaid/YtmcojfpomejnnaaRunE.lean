/- A drawn region walked as a list, in the order of its text. -/
import Derived.Test.YtmcojfpomejnnaaRunD
set_option linter.unusedSimpArgs false
set_option linter.unusedVariables false
namespace Go.Reg
open Go

section
variable {P : Program} {ops : Array Oper} {Sim : World → World → Prop}

def onN (R : Act → World → Prop) : Exit → Act → World → Prop
  | .normal, a, w => R a w
  | _, _, _ => False

/-- what an operation's class asks of its kind. m: new memory may stand in class 2. -/
def synC (P : Program) (m : Bool) (o : Op) (c : Nat) : Bool :=
  match c with
  | 0 => syn0 P o
  | 1 => syn1 P o
  | 2 => m && syn2 o
  | 4 => syn1 P o
  | _ => true

def valC (o : Op) (c : Nat) (ρ : Operand → Value) : Bool :=
  match c with
  | 0 => val0 o ρ
  | 1 => val1 o ρ
  | 4 => val1 o ρ
  | _ => true

/-- the values that the operations looked at, off the frame behind the region -/
def chk (ops : Array Oper) (l : List (Oper × Nat)) (a : Act) : Bool :=
  l.all fun x => !Region.wanted x.1 (yielded ops a.tmps) || valC x.1.op x.2 a.eval

def rb (ops : Array Oper) (l : List (Oper × Nat)) (a : Act) : List Nat :=
  l.flatMap fun x => if x.2 == 1 && Region.wanted x.1 (yielded ops a.tmps) then rdBlock x.1.op a.eval else []

def needs : Op → Bool
  | .nilCheck _ | .binOp _ _ _ _ _ | .convert _ _ _ | .call _ | .load _ _ => true
  | _ => false

/-- no operation writes a slot that one of the same list, itself or an earlier one, looks at -/
def stays (ops : Array Oper) : List (Oper × Nat) → Bool
  | [] => true
  | x :: r => ((decide (2 ≤ x.2) && x.2 != 4) || !needs x.1.op || ((x :: r).all fun y => match y.1.dst with | some d => !(x.1.looksAt ops).contains d | none => true)) && stays ops r

theorem end_act {R : Act → World → Prop} : ∀ (l : List Oper) (a : Act) (w : World), wpList P ops (onN R) l a w →
    ∃ a' w', R a' w' ∧ ∀ t : Nat, (∀ o ∈ l, o.dst ≠ some t) → a'.tmps[t]? = a.tmps[t]?
  | [], a, w, h => ⟨a, w, h, fun _ _ => rfl⟩
  | o :: l, a, w, h => by
    have put : ∀ (b : Act) (v : Value), (∀ t : Nat, b.tmps[t]? = a.tmps[t]?) → ∀ t : Nat, (∀ q ∈ o :: l, q.dst ≠ some t) → (b.put o.dst v).tmps[t]? = a.tmps[t]? := by
      intro b v hb t ht
      have := ht o (by simp)
      cases hd : o.dst with
      | none => simpa [Act.put] using hb t
      | some d =>
        have hne : d ≠ t := fun e => this (by rw [hd, e])
        simpa [Act.put, Array.getElem?_setIfInBounds_ne hne] using hb t
    have go : ∀ (b : Act) (v : Value) (w1 : World), (∀ t : Nat, b.tmps[t]? = a.tmps[t]?) → wpList P ops (onN R) l (b.put o.dst v) w1 → ∃ a' w', R a' w' ∧ ∀ t : Nat, (∀ q ∈ o :: l, q.dst ≠ some t) → a'.tmps[t]? = a.tmps[t]? := by
      intro b v w1 hb hk
      obtain ⟨a', w', h1, h2⟩ := end_act l _ _ hk
      exact ⟨a', w', h1, fun t ht => (h2 t fun q hq => ht q (by simp [hq])).trans (put b v hb t ht)⟩
    unfold wpList at h
    split at h
    · rcases h with h | ⟨_, _, _, hf⟩
      · unfold Oper.wp at h
        generalize (execOp a.eval o).run P w = r at *
        cases r with
        | ok n w1 =>
          cases n <;> simp only [Oper.upon] at h
          case value u => exact go a u w1 (fun _ => rfl) h
          case skip => exact go a _ w1 (fun _ => rfl) h
          case defer d => exact go { a with defers := d :: a.defers } _ w1 (fun _ => rfl) h
          case enter f args =>
            obtain ⟨e, w'', _, hR, _⟩ := h []
            cases e with
            | returned u => exact go a u w'' (fun _ => rfl) hR
            | panicked c => exact False.elim hR
            | outgrown => obtain ⟨_, _, hf⟩ := hR; exact False.elim hf
          case row row args =>
            obtain ⟨u, w'', hR, _⟩ := h default []
            exact go a u w'' (fun _ => rfl) hR
        | halt x w' => cases x <;> simp only [Oper.upon] at h <;> exact False.elim h
      · exact hf.elim
    · exact go a _ w (fun _ => rfl) h

theorem eval_agree {a a' : Act} {o : Oper} (h : ∀ t ∈ o.looksAt ops, a'.tmps[t]? = a.tmps[t]?) : (∀ x ∈ o.op.operands, a'.eval x = a.eval x) ∧ Region.wanted o (yielded ops a'.tmps) = Region.wanted o (yielded ops a.tmps) := by
  constructor
  · intro x hx
    cases x with
    | tmp t =>
      have := h t (List.mem_append_left _ (List.mem_filterMap.2 ⟨.tmp t, by simpa using hx, rfl⟩))
      simp [Act.eval, this]
    | _ => rfl
  · unfold Region.wanted
    cases hg : o.guard with
    | none => rfl
    | some gw =>
      obtain ⟨g, want⟩ := gw
      have hy : yielded ops a'.tmps g = yielded ops a.tmps g := by
        unfold yielded
        cases ht : (ops[g]?).bind (·.dst) with
        | none => rfl
        | some t =>
          have := h t (by simp [Oper.looksAt, hg, ht])
          simp [this]
      simp only [hy]

theorem val0_congr {op : Op} {ρ ρ' : Operand → Value} (h : ∀ x ∈ op.operands, ρ x = ρ' x) : val0 op ρ = val0 op ρ' := by
  cases op <;> simp only [val0]
  case nilCheck x => rw [h x (by simp [Op.operands])]
  case binOp o t x y ty => rw [h x (by simp [Op.operands]), h y (by simp [Op.operands])]
  case convert s d x => rw [h x (by simp [Op.operands])]
  case call c =>
    cases hc : c.args[0]? with
    | none => rfl
    | some x =>
      have : x ∈ c.args := by
        obtain ⟨hlt, he⟩ := Array.getElem?_eq_some_iff.1 hc
        rw [← he]; exact Array.getElem_mem hlt
      simp only []
      rw [h x (by simp [Op.operands, Call.operands, this])]
theorem val1_congr {op : Op} {ρ ρ' : Operand → Value} (h : ∀ x ∈ op.operands, ρ x = ρ' x) : val1 op ρ = val1 op ρ' := by
  cases op <;> simp only [val1]
  case load t x => rw [h x (by simp [Op.operands])]
  case convert s d x => rw [h x (by simp [Op.operands])]
theorem rdBlock_congr {op : Op} {ρ ρ' : Operand → Value} (h : ∀ x ∈ op.operands, ρ x = ρ' x) : rdBlock op ρ = rdBlock op ρ' := by
  cases op <;> simp only [rdBlock]
  case load t x => rw [h x (by simp [Op.operands])]
  case convert s d x => rw [h x (by simp [Op.operands])]

/-- What the end's look says of the list's first operation, at the frame ahead of it. -/
theorem chk_head {R : Act → World → Prop} {x : Oper × Nat} {r : List (Oper × Nat)} {L : List Nat} (hL : Bool) {a : Act} {w : World} (hx : x.2 ≤ 1 ∨ x.2 = 4)
    (hst : stays ops (x :: r) = true) (h : wpList P ops (onN fun a' w' => (chk ops (x :: r) a' = true ∧ (hL = true → ∀ b ∈ rb ops (x :: r) a', b ∈ L)) ∧ R a' w') (x.1 :: r.map Prod.fst) a w) :
    Region.wanted x.1 (yielded ops a.tmps) = true → valC x.1.op x.2 a.eval = true ∧ (hL = true → x.2 = 1 → ∀ b ∈ rdBlock x.1.op a.eval, b ∈ L) := by
  intro hw
  by_cases hnd : needs x.1.op = false
  · have n0 : ∀ ρ, val0 x.1.op ρ = true := fun ρ => by
      cases ho : x.1.op <;> rw [ho] at hnd <;> simp only [needs, reduceCtorEq] at hnd <;> rfl
    have n1 : ∀ ρ, val1 x.1.op ρ = true := fun ρ => by
      cases ho : x.1.op <;> rw [ho] at hnd <;> simp only [needs, reduceCtorEq] at hnd <;> rfl
    have n2 : ∀ ρ, rdBlock x.1.op ρ = [] := fun ρ => by
      cases ho : x.1.op <;> rw [ho] at hnd <;> simp only [needs, reduceCtorEq] at hnd <;> rfl
    refine ⟨?_, fun _ _ b hb => by rw [n2] at hb; simp at hb⟩
    rcases (show x.2 = 0 ∨ x.2 = 1 ∨ x.2 = 4 by omega) with hc | hc | hc
    · rw [hc]; exact n0 _
    · rw [hc]; exact n1 _
    · rw [hc]; exact n1 _
  have hnd' : needs x.1.op = true := by simpa using hnd
  obtain ⟨a', w', ⟨⟨h1, h2⟩, _⟩, h3⟩ := end_act _ _ _ h
  simp only [stays, Bool.and_eq_true, Bool.or_eq_true, decide_eq_true_eq, hnd', Bool.not_true, Bool.false_eq_true, or_false, bne_iff_ne, ne_eq] at hst
  have hall := hst.1.resolve_left (by omega)
  rw [List.all_eq_true] at hall
  have agree : ∀ t ∈ x.1.looksAt ops, a'.tmps[t]? = a.tmps[t]? := by
    intro t ht
    refine h3 t fun q hq hd => ?_
    have : ∃ y ∈ x :: r, y.1 = q := by
      rcases List.mem_cons.1 hq with rfl | hq
      · exact ⟨x, by simp, rfl⟩
      · obtain ⟨y, hy, rfl⟩ := List.mem_map.1 hq
        exact ⟨y, by simp [hy], rfl⟩
    obtain ⟨y, hy, rfl⟩ := this
    have := hall y hy
    rw [hd] at this
    simp at this
    exact this ht
  obtain ⟨ev, wn⟩ := eval_agree agree
  simp only [chk, List.all_cons, Bool.and_eq_true, Bool.or_eq_true, Bool.not_eq_true'] at h1
  have hv := h1.1.resolve_left (by rw [wn, hw]; simp)
  constructor
  · rcases (show x.2 = 0 ∨ x.2 = 1 ∨ x.2 = 4 by omega) with hc | hc | hc
    · rw [hc] at hv ⊢; simp only [valC] at hv ⊢; rw [← val0_congr ev]; exact hv
    · rw [hc] at hv ⊢; simp only [valC] at hv ⊢; rw [← val1_congr ev]; exact hv
    · rw [hc] at hv ⊢; simp only [valC] at hv ⊢; rw [← val1_congr ev]; exact hv
  · intro hl hc b hb
    refine h2 hl b ?_
    simp only [rb, List.flatMap_cons, List.mem_append]
    left
    rw [hc, wn, hw]
    simp only [beq_self_eq_true, Bool.and_self, if_true]
    rw [rdBlock_congr ev]; exact hb

theorem wp_to_yields {o : Oper} {c : Nat} (hc : c ≤ 1) {a : Act} {w : World} {K : Act → World → Prop} {R : Exit → Act → World → Prop} (hR : ∀ ch a w, ¬ R (.panic ch) a w) (hO : ¬ LetsOut R)
    (hsy : synC P true o.op c = true) (hld : c = 1 → ∀ b : Addr, b.block ∈ rdBlock o.op a.eval → Rd P Sim (load b)) (hv : Region.wanted o (yielded ops a.tmps) = true → valC o.op c a.eval = true)
    (h : if Region.wanted o (yielded ops a.tmps) then o.wp P a w K R ∨ (o.asks P a w ∧ LetsOut R) else K (a.put o.dst undef) w) :
    ∃ v, YieldsIf P ops (if c = 0 then fun _ => True else Sim w) o v a ∧ K (a.put o.dst v) w := by
  split at h
  · rename_i hw
    have hv' := hv hw
    rcases h with h | ⟨_, h⟩
    · unfold Oper.wp at h
      cases hr : (execOp a.eval o).run P w with
      | halt x w1 => rw [hr] at h; cases x <;> simp only [Oper.upon] at h <;> exact absurd h (hR _ _ _)
      | ok n w1 =>
        match c, hc with
        | 0, _ =>
          obtain ⟨v, rfl, rfl, h3⟩ := free0 o a.eval hsy hv' w n w1 hr
          rw [hr] at h
          exact ⟨v, .inl ⟨hw, fun w2 _ => h3 w2⟩, h⟩
        | 1, _ =>
          obtain ⟨v, rfl, rfl, h3⟩ := free1 (Sim := Sim) o a.eval (hld rfl) hsy hv' w n w1 hr
          rw [hr] at h
          exact ⟨v, .inl ⟨hw, fun w2 hw2 => h3 w2 (by simpa using hw2)⟩, h⟩
    · exact absurd h hO
  · rename_i hw
    exact ⟨undef, .inr ⟨by simpa using hw, rfl⟩, h⟩

theorem rd_load_eq {a : Addr} : Rd P (fun w w' => w' = w) (load a) := by
  intro w v w' h
  have hw : w' = w := by
    rw [run_load] at h
    split at h
    · cases h; rfl
    · split at h
      · cases h; rfl
      · cases h
  refine ⟨hw, fun w2 hs => ?_⟩
  rw [hs]
  rw [hw] at h
  exact h
theorem wp_to_yields4 {o : Oper} {a : Act} {w : World} {K : Act → World → Prop} {R : Exit → Act → World → Prop} (hR : ∀ ch a w, ¬ R (.panic ch) a w) (hO : ¬ LetsOut R)
    (hsy : syn1 P o.op = true) (hv : Region.wanted o (yielded ops a.tmps) = true → val1 o.op a.eval = true)
    (h : if Region.wanted o (yielded ops a.tmps) then o.wp P a w K R ∨ (o.asks P a w ∧ LetsOut R) else K (a.put o.dst undef) w) :
    ∃ v, YieldsIf P ops (fun w' => w' = w) o v a ∧ K (a.put o.dst v) w := by
  obtain ⟨v, h1, h2⟩ := wp_to_yields (P := P) (ops := ops) (Sim := fun w w' => w' = w) (c := 1) (by decide) hR hO hsy (fun _ b _ => rd_load_eq) hv h
  exact ⟨v, by simpa using h1, h2⟩
theorem letsOut_onN {R : Act → World → Prop} : ¬ LetsOut (onN R) := fun ⟨_, _, h⟩ => h

def idx : Nat → List (Oper × Nat) → List (Nat × Nat)
  | _, [] => []
  | k, x :: r => (k, x.2) :: idx (k + 1) r

theorem wp_to_stp {k : Nat} {o : Oper} (ho : ops[k]? = some o) {a : Act} {w : World} {K : Act → World → Prop} {R : Act → World → Prop}
    (h : if Region.wanted o (yielded ops a.tmps) then o.wp P a w K (onN R) ∨ (o.asks P a w ∧ LetsOut (onN R)) else K (a.put o.dst undef) w) : stp P ops k K a w := by
  unfold stp
  rw [ho]
  simp only []
  split
  · rename_i hw
    rw [if_pos hw] at h
    rcases h with h | ⟨_, h⟩
    · unfold Oper.wp at *
      generalize (execOp a.eval o).run P w = r at *
      cases r with
      | ok n w' =>
        cases n <;> simp only [Oper.upon] at h ⊢ <;> first
          | exact h
          | exact Calls.mono h (fun e w'' he => by cases e <;> first | exact he | (obtain ⟨_, _, hf⟩ := he; exact False.elim hf))
      | halt x w' => cases x <;> simp only [Oper.upon] at h ⊢ <;> exact False.elim h
    · exact absurd h letsOut_onN
  · rename_i hw
    rw [if_neg hw] at h
    exact h

/-- the last list of a region (mode 1: all of it) -/
theorem sq_last (m : Bool) (hL : Bool) (L : List Nat) (hm : m = true → Sim = Ext) (hld : ∀ b : Addr, (hL = true → b.block ∈ L) → Rd P Sim (load b)) {R : Act → World → Prop} : ∀ (l : List (Oper × Nat)) (k : Nat) (a : Act) (w : World),
    (∀ j, (l.map Prod.fst)[j]? = ops[k + j]? ∨ l.length ≤ j) → (l.all fun x => synC P m x.1.op x.2) = true → stays ops l = true →
    wpList P ops (onN fun a' w' => (chk ops l a' = true ∧ (hL = true → ∀ b ∈ rb ops l a', b ∈ L)) ∧ R a' w') (l.map Prod.fst) a w →
    sq P ops Sim (idx k l) R a w
  | [], k, a, w, _, _, _, h => h.2
  | x :: r, k, a, w, hops, hsy, hst, h => by
    have ho : ops[k]? = some x.1 := by
      rcases hops 0 with h0 | h0
      · simpa using h0.symm
      · simp at h0
    have hops' : ∀ j, (r.map Prod.fst)[j]? = ops[k + 1 + j]? ∨ r.length ≤ j := fun j => by
      rcases hops (j + 1) with h0 | h0
      · left; simpa [Nat.add_assoc, Nat.add_comm 1 j] using h0
      · right; simp at h0; omega
    rw [List.all_cons, Bool.and_eq_true] at hsy
    have hst' : stays ops r = true := by
      simp only [stays, Bool.and_eq_true] at hst; exact hst.2
    have weaken : ∀ a' w', wpList P ops (onN fun a' w' => (chk ops (x :: r) a' = true ∧ (hL = true → ∀ b ∈ rb ops (x :: r) a', b ∈ L)) ∧ R a' w') (r.map Prod.fst) a' w' →
        wpList P ops (onN fun a' w' => (chk ops r a' = true ∧ (hL = true → ∀ b ∈ rb ops r a', b ∈ L)) ∧ R a' w') (r.map Prod.fst) a' w' := by
      intro a' w'
      have mono : ∀ (Q Q' : Act → World → Prop) (hq : ∀ a w, Q a w → Q' a w) (l : List Oper) (a : Act) (w : World), wpList P ops (onN Q) l a w → wpList P ops (onN Q') l a w := by
        intro Q Q' hq l
        induction l with
        | nil => intro a w h; exact hq _ _ h
        | cons o l ih =>
          intro a w h
          unfold wpList at h ⊢
          split
          · rename_i hw
            rw [if_pos hw] at h
            rcases h with h | ⟨_, h⟩
            · left
              unfold Oper.wp at *
              generalize (execOp a.eval o).run P w = rr at *
              cases rr with
              | ok n w' =>
                cases n <;> simp only [Oper.upon] at h ⊢ <;> first
                  | exact ih _ _ h
                  | exact Calls.mono h (fun e w'' he => by cases e <;> first | exact ih _ _ he | exact he | (obtain ⟨_, _, hf⟩ := he; exact False.elim hf))
                  | exact Rows.mono h (fun _ _ he => ih _ _ he)
              | halt xx w' => cases xx <;> simp only [Oper.upon] at h ⊢ <;> exact False.elim h
            · exact absurd h letsOut_onN
          · rename_i hw
            rw [if_neg hw] at h
            exact ih _ _ h
      refine mono _ _ (fun a w hq => ?_) _ _ _
      obtain ⟨⟨h1, h2⟩, h3⟩ := hq
      refine ⟨⟨?_, fun hl b hb => h2 hl b ?_⟩, h3⟩
      · simp only [chk, List.all_cons, Bool.and_eq_true] at h1 ⊢; exact h1.2
      · simp only [rb, List.flatMap_cons, List.mem_append] at hb ⊢; exact .inr hb
    have rest : ∀ a' w', wpList P ops (onN fun a' w' => (chk ops (x :: r) a' = true ∧ (hL = true → ∀ b ∈ rb ops (x :: r) a', b ∈ L)) ∧ R a' w') (r.map Prod.fst) a' w' → sq P ops Sim (idx (k + 1) r) R a' w' := fun a' w' hk =>
      sq_last m hL L hm hld r (k + 1) a' w' hops' hsy.2 hst' (weaken a' w' hk)
    have hhead := h
    simp only [List.map_cons, wpList] at h
    show itm P ops Sim (k, x.2) (sq P ops Sim (idx (k + 1) r) R) a w
    by_cases hc : x.2 ≤ 1
    · have hck := chk_head (P := P) (L := L) hL (.inl hc) hst hhead
      by_cases hw : Region.wanted x.1 (yielded ops a.tmps) = true
      · obtain ⟨v, hy, hk⟩ := wp_to_yields (P := P) (Sim := Sim) hc (fun ch a w hf => hf) letsOut_onN (by
            obtain ⟨o, c⟩ := x
            simp only at hc hsy ⊢
            match c, hc with
            | 0, _ => exact hsy.1
            | 1, _ => exact hsy.1)
          (fun h1 b hb => hld b fun hl => (hck hw).2 hl h1 _ hb) (fun _ => (hck hw).1) h
        exact free_mk (x := (k, x.2)) hc ho hy (rest _ _ hk)
      · rw [if_neg hw] at h
        exact free_mk (x := (k, x.2)) hc ho (.inr ⟨by simpa using hw, rfl⟩) (rest _ _ h)
    · by_cases h4 : x.2 = 4
      · have hck := chk_head (P := P) (L := L) hL (.inr h4) hst hhead
        have hs4 := hsy.1
        rw [h4] at hs4
        obtain ⟨v, hy, hk⟩ := wp_to_yields4 (P := P) (fun ch a w hf => hf) letsOut_onN hs4 (fun hw => by have := (hck hw).1; rw [h4] at this; exact this) h
        show itm P ops Sim (k, x.2) _ a w
        rw [h4]
        exact ⟨x.1, v, ho, hy, rest _ _ hk⟩
      have hst2 := wp_to_stp ho h
      rcases (show x.2 = 2 ∨ (x.2 = 3 ∨ 5 ≤ x.2) by omega) with h2 | h3
      · rw [itm2 (x := (k, x.2)) h2]
        have hs2 := hsy.1
        rw [h2] at hs2
        simp only [synC, Bool.and_eq_true] at hs2
        have hse := hm hs2.1
        subst hse
        unfold stp at hst2 ⊢
        rw [ho] at hst2 ⊢
        simp only [] at hst2 ⊢
        split
        · rename_i hw
          rw [if_pos hw] at hst2
          unfold Oper.wp at *
          cases hr : (execOp a.eval x.1).run P w with
          | halt xx w1 => rw [hr] at hst2; cases xx <;> simp only [Oper.upon] at hst2 <;> exact False.elim hst2
          | ok n w1 =>
            obtain ⟨⟨v, rfl⟩, hext⟩ := ext2 x.1 a.eval hs2.2 w n w1 hr
            rw [hr] at hst2
            exact ⟨hext, rest _ _ hst2⟩
        · rename_i hw
          rw [if_neg hw] at hst2
          exact ⟨likes_ext.refl w, rest _ _ hst2⟩
      · rw [itm3 (x := (k, x.2)) h3]
        exact stp_mono (fun a w hk => rest a w hk) hst2

theorem idx_zip : ∀ (l : List Oper) (cls : List Nat) (k : Nat), cls.length = l.length → idx k (l.zip cls) = (cls.zipIdx k).map fun x => (x.2, x.1)
  | [], [], _, _ => rfl
  | o :: l, c :: cls, k, h => by
    simp only [List.zip_cons_cons, idx, List.zipIdx_cons, List.map_cons]
    rw [idx_zip l cls (k + 1) (by simpa using h)]
  | [], _ :: _, _, h => by simp at h
  | _ :: _, [], _, h => by simp at h

theorem zip_fst : ∀ (l : List Oper) (cls : List Nat), cls.length = l.length → (l.zip cls).map Prod.fst = l
  | [], [], _ => rfl
  | o :: l, c :: cls, h => by simp only [List.zip_cons_cons, List.map_cons]; rw [zip_fst l cls (by simpa using h)]
  | [], _ :: _, h => by simp at h
  | _ :: _, [], h => by simp at h

/-- all the closed looks at a region, mode 1 -/
def ok1 (P : Program) (l : List Oper) (cls ms : List Nat) : Bool :=
  decide (cls.length = l.length) && lowB l.toArray && masksOk l.toArray ms && pairsOk false l.toArray ms (cls.zipIdx.map fun x => (x.2, x.1)) && ((l.zip cls).all fun x => synC P true x.1.op x.2) && stays l.toArray (l.zip cls) && P.follows .mixedOrders

/-- MODE 1: a region that draws its order and holds no call, in the order of its text. -/
theorem region1 {id : Nat} {l : List Oper} {Q : Exit → Act → World → Prop} {a : Act} {w : World} (cls ms : List Nat) (hok : ok1 P l cls ms = true)
    (h : ∀ Q' : Exit → Act → World → Prop, (∀ a' w', chk l.toArray (l.zip cls) a' = true ∧ Q .normal a' w' → Q' .normal a' w') → wpList P l.toArray Q' l a { w with drawn := w.drawn + 1 }) :
    (Code.region id l.toArray true).wp P Q a w := by
  simp only [ok1, Bool.and_eq_true, decide_eq_true_eq] at hok
  obtain ⟨⟨⟨⟨⟨⟨h1, h2⟩, hms⟩, h3⟩, h4⟩, h5⟩, h6⟩ := hok
  refine wp_region_sq likes_ext cls ms h6 (by simpa using h1) h2 hms h3 ?_
  rw [← idx_zip l cls 0 h1]
  refine sq_last true false [] (fun _ => rfl) (fun b _ => rd_load_ext) (l.zip cls) 0 a _ (fun j => ?_) h4 h5 ?_
  · left; rw [zip_fst l cls h1]; simp
  · rw [zip_fst l cls h1]
    exact h _ (fun a' w' hk => ⟨⟨hk.1, fun hf => by cases hf⟩, hk.2⟩)
end
end Go.Reg

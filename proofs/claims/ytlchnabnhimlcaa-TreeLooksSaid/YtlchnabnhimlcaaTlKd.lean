/- Functions that defer a call: the walk with deferred calls laid by. Over any program. A range over a function in the quick walk: rounds, the iterator, what lies by behind the loop. Over any program. A range over a function in the quick walk: the statement, the way out, a call of yield. Over any program. -/
import Derived.Test.YtlchnabnhimlcaaTlK4
import Derived.Defers
import Derived.RangeFuncNested
import Derived.RangeFuncBound
import Derived.RangeFuncCalls
import Derived.RangeFuncLeaves
import Derived.TacticsIn
import Derived.OrdersIn
set_option linter.unusedSimpArgs false
set_option linter.unusedVariables false
namespace Go.Own
open Go Go.RowKit
structure FrD (n : Nat) (ds : List Deferred) (a : Act) (e : Env) : Prop where
  size : a.tmps.size = n
  defers : a.defers = ds
  env : envOf a = e
theorem FrD.eval {n : Nat} {ds : List Deferred} {a : Act} {e : Env} (h : FrD n ds a e) : a.eval = ev e :=
  Fr.eval (n := n) (a := { a with defers := [] }) ⟨h.size, rfl, h.env⟩
theorem FrD.wn {n : Nat} {ds : List Deferred} {a : Act} {e : Env} (h : FrD n ds a e) (ops : Array Oper) (o : Oper) : Region.wanted o (yielded ops a.tmps) = Own.wn n ops o e :=
  Fr.wn (n := n) (a := { a with defers := [] }) ⟨h.size, rfl, h.env⟩ ops o
theorem FrD.put {n : Nat} {ds : List Deferred} {a : Act} {e : Env} (h : FrD n ds a e) {d : Option Nat} (hd : okD n d = true) (v : Value) : FrD n ds (a.put d v) (Own.put e d v) := by
  have := Fr.put (n := n) (a := { a with defers := [] }) ⟨h.size, rfl, h.env⟩ hd v
  cases d with
  | none => exact h
  | some d => exact ⟨this.size, by simpa [Act.put] using h.defers, this.env⟩
abbrev PostD := Exit → List Deferred → Env → World → Prop
def liftD (n : Nat) (Q : PostD) : Exit → Act → World → Prop := fun x a w => ∃ e ds, FrD n ds a e ∧ Q x ds e w
structure D (P : Program) (n : Nat) (ds : List Deferred) (Q : PostD) (c : Code) (e : Env) (w : World) : Prop where
  go : ∀ a, FrD n ds a e → c.wp P (liftD n Q) a w
structure LD (P : Program) (n : Nat) (ds : List Deferred) (ops : Array Oper) (Q : PostD) (l : List Oper) (e : Env) (w : World) : Prop where
  go : ∀ a, FrD n ds a e → wpList P ops (liftD n Q) l a w
def thenD (K : List Deferred → Env → World → Prop) (Q : PostD) : PostD := fun x => match x with
  | .normal => K
  | x => Q x
def plain1 : Op → Bool
  | .move _ | .assign _ | .load _ _ | .store _ _ _ | .binOp _ _ _ _ _ | .fieldAddr _ _ _ | .makeFunc _ _ _ | .unOp _ _ _ | .box _ _ | .alloc _ | .pick _ _ _ | .index _ _ _ => true
  | _ => false
section
variable {P : Program} {n : Nat} {ds : List Deferred} {ops : Array Oper} {Q : PostD} {rest : List Oper} {e : Env} {w : World}
theorem D.seq {x y : Code} (h : D P n ds (thenD (fun ds e w => D P n ds Q y e w) Q) x e w) : D P n ds Q (.seq x y) e w :=
  ⟨fun a ha => wp_seq (Code.wp_mono (fun ex a' w' ⟨e', ds', fr, hq⟩ => by
    cases ex <;> first | exact hq.go a' fr | exact ⟨e', ds', fr, hq⟩) (h.go a ha))⟩
theorem D.skip (h : Q .normal ds e w) : D P n ds Q .skip e w := ⟨fun a ha => wp_skip ⟨e, ds, ha, h⟩⟩
theorem D.ret (h : Q .ret ds e w) : D P n ds Q .ret e w := ⟨fun a ha => wp_ret ⟨e, ds, ha, h⟩⟩
theorem D.ite {c : Operand} {x y : Code} {t : Bool} (hc : ev e c = .bool t) (h1 : t = true → D P n ds Q x e w) (h2 : t = false → D P n ds Q y e w) : D P n ds Q (.cond c x y) e w := by
  cases t with
  | true => exact ⟨fun a ha => wp_cond_true (by rw [ha.eval]; exact hc) ((h1 rfl).go a ha)⟩
  | false => exact ⟨fun a ha => wp_cond_false (by rw [ha.eval]; exact hc) ((h2 rfl).go a ha)⟩
theorem D.tru {c : Operand} {x y : Code} (h : D P n ds Q x e w) (hc : ev e c = .bool true := by rfl) : D P n ds Q (.cond c x y) e w := D.ite hc (fun _ => h) (fun h => by cases h)
theorem D.fls {c : Operand} {x y : Code} (h : D P n ds Q y e w) (hc : ev e c = .bool false := by rfl) : D P n ds Q (.cond c x y) e w := D.ite hc (fun h => by cases h) (fun _ => h)
theorem D.region {id : Nat} {l : List Oper} (h : LD P n ds l.toArray Q l e w) : D P n ds Q (.region id l.toArray false) e w := ⟨fun a ha => wp_region_lit (h.go a ha)⟩
theorem LD.nil (h : Q .normal ds e w) : LD P n ds ops Q [] e w := ⟨fun a ha => ⟨e, ds, ha, h⟩⟩
theorem plain1_run {o : Oper} {ρ : Operand → Value} {nx : Next} {w w' : World} (hp : plain1 o.op = true) (hr : (execOp ρ o).run P w = .ok nx w') : (∃ v, nx = .value v) ∨ nx = .skip := by
  have hv : ∀ {α : Type} {k : α → Value} {s : Sem α}, (do let x ← s; pure (Next.value (k x)) : Sem Next).run P w = .ok nx w' → (∃ v, nx = .value v) ∨ nx = .skip := by
    intro α k s h
    rw [Sem.run_bind] at h
    cases hs : s.run P w with
    | ok v w1 => rw [hs] at h; simp only [Result.andThen_ok, Sem.run_pure] at h; cases h; exact .inl ⟨_, rfl⟩
    | halt x w1 => rw [hs] at h; cases h
  have hu : ∀ {s : Sem Unit}, (do s; pure Next.skip : Sem Next).run P w = .ok nx w' → (∃ v, nx = .value v) ∨ nx = .skip := by
    intro s h
    rw [Sem.run_bind] at h
    cases hs : s.run P w with
    | ok v w1 => rw [hs] at h; simp only [Result.andThen_ok, Sem.run_pure] at h; cases h; exact .inr rfl
    | halt x w1 => rw [hs] at h; cases h
  unfold execOp at hr
  cases ho : o.op <;> rw [ho] at hp hr <;> first
    | (cases hp; done)
    | exact hv hr
    | exact hu hr
    | (simp only [Sem.run_pure] at hr; cases hr; exact .inl ⟨_, rfl⟩)
/-- one plain step -/
theorem LD.one {o : Oper} (hp : plain1 o.op = true) (h : L P n ops (fun x e' w' => x = .normal ∧ LD P n ds ops Q rest e' w') [o] e w) : LD P n ds ops Q (o :: rest) e w := by
  refine ⟨fun a ha => ?_⟩
  have h0 := h.go { a with defers := [] } ⟨ha.size, rfl, ha.env⟩
  have hfr : ∀ {b b0 : Act} {w' : World}, b0.tmps = b.tmps → b.defers = ds → lift n (fun x e' w' => x = Exit.normal ∧ LD P n ds ops Q rest e' w') .normal b0 w' → wpList P ops (liftD n Q) rest b w' := by
    rintro b b0 w' ht hb ⟨e', fr, _, hl⟩
    exact hl.go b ⟨by rw [← ht]; exact fr.size, hb, by rw [← fr.env]; unfold envOf; rw [ht]⟩
  unfold wpList at h0 ⊢
  simp only at h0
  split at h0
  · rename_i hw
    rw [if_pos hw]
    rcases h0 with h0 | ⟨_, a1, w1, e1, _, hx, _⟩
    · left
      unfold Oper.wp at h0 ⊢
      have he : (Act.eval { a with defers := [] }) = a.eval := rfl
      rw [he] at h0
      cases hr : (execOp a.eval o).run P w with
      | ok nx w' =>
        rw [hr] at h0
        rcases plain1_run hp hr with ⟨v, rfl⟩ | rfl
        · refine hfr (b0 := Act.put { a with defers := [] } o.dst v) ?_ ?_ h0
          · cases o.dst <;> rfl
          · cases o.dst <;> exact ha.defers
        · refine hfr (b0 := Act.put { a with defers := [] } o.dst undef) ?_ ?_ h0
          · cases o.dst <;> rfl
          · cases o.dst <;> exact ha.defers
      | halt x w' =>
        rw [hr] at h0
        cases x <;> simp only [Oper.upon] at h0 <;> first
          | exact h0.elim
          | (obtain ⟨_, _, hx, _⟩ := h0; cases hx)
    · cases hx
  · rename_i hw
    rw [if_neg hw]
    refine hfr (b0 := Act.put { a with defers := [] } o.dst undef) ?_ ?_ h0
    · cases o.dst <;> rfl
    · cases o.dst <;> exact ha.defers
theorem LD.val {o : Oper} (v : Value) (w' : World) (hw : Own.wn n ops o e = true) (hd : okD n o.dst = true) (hr : (execOp (ev e) o).run P w = .ok (.value v) w') (h : LD P n ds ops Q rest (Own.put e o.dst v) w') : LD P n ds ops Q (o :: rest) e w := by
  refine ⟨fun a ha => wpList_step fun K hK => ?_⟩
  rw [ha.wn ops o, if_pos hw]
  unfold Oper.wp
  rw [ha.eval, hr]
  exact hK _ _ (h.go _ (ha.put hd v))
theorem LD.len {x : Operand} {t : TypeId} {a : Option Addr} {m c d : Nat} {el : TypeId} {sz by_ : Nat} {zz : List Value} {tt : Nat} {pp : String} {af : Array Edge} {g : Option (Nat × Bool)} [E : ElC P t el sz by_ zz] (h : LD P n ds ops Q rest (upd e d (.int .i64 (m : Int))) w) (hw : wg n ops g e = true := by rfl) (hd : Nat.blt d n = true := by rfl) (hx : ev e x = .slice a m c := by rfl) : LD P n ds ops Q (⟨some d, .call { callee := .builtin .len, args := #[x], argTypes := #[t] }, tt, pp, af, g⟩ :: rest) e w := by
  obtain ⟨v, E', _⟩ := E.el
  exact LD.val (o := ⟨some d, .call { callee := .builtin .len, args := #[x], argTypes := #[t] }, tt, pp, af, g⟩) _ w hw hd (by
    unfold execOp
    simp [resolve, invoke, builtin, Builtin.len_, hx, run_underlying E'.slice, goInt]) h
theorem LD.nchk {x : Operand} {a : Addr} {d tt : Nat} {pp : String} {af : Array Edge} {g : Option (Nat × Bool)} (h : LD P n ds ops Q rest (upd e d (.pointer (some a))) w) (hw : wg n ops g e = true := by rfl) (hd : Nat.blt d n = true := by rfl) (hx : ev e x = .pointer (some a) := by rfl) : LD P n ds ops Q (⟨some d, .nilCheck x, tt, pp, af, g⟩ :: rest) e w :=
  LD.val (o := ⟨some d, .nilCheck x, tt, pp, af, g⟩) _ w hw hd (by
    unfold execOp
    simp [hx]) h
theorem LD.no {o : Oper} (hw : Own.wn n ops o e = false) (hd : okD n o.dst = true) (h : LD P n ds ops Q rest (Own.put e o.dst undef) w) : LD P n ds ops Q (o :: rest) e w := by
  refine ⟨fun a ha => wpList_step fun K hK => ?_⟩
  rw [ha.wn ops o, if_neg (by rw [hw]; decide)]
  exact hK _ _ (h.go _ (ha.put hd undef))
theorem LD.not {op : Op} {d tt : Nat} {pp : String} {af : Array Edge} {g : Option (Nat × Bool)} (h : LD P n ds ops Q rest (upd e d undef) w) (hw : wg n ops g e = false := by rfl) (hd : Nat.blt d n = true := by rfl) : LD P n ds ops Q (⟨some d, op, tt, pp, af, g⟩ :: rest) e w :=
  LD.no (o := ⟨some d, op, tt, pp, af, g⟩) hw hd h
theorem LD.call {f : FuncId} {xs : Array Operand} {ts : Array TypeId} {args : List Value} {R : Ending → World → Prop} {tt : Nat} {pp : String} {af : Array Edge} {g : Option (Nat × Bool)} {d : Nat} [F : FunC P f] (hc : Calls P f args.toArray w R) (h : ∀ x w', R x w' → ∃ v, x = .returned v ∧ LD P n ds ops Q rest (upd e d v) w') (hw : wg n ops g e = true := by rfl) (hd : Nat.blt d n = true := by rfl) (hx : xs.toList.map (ev e) = args := by rfl) : LD P n ds ops Q (⟨some d, .call { callee := .value (.func f), args := xs, argTypes := ts }, tt, pp, af, g⟩ :: rest) e w := by
  obtain ⟨fn, c, h1, h2, h3⟩ := F.fn
  refine ⟨fun a ha => wpList_step fun K hK => ?_⟩
  have hwn := ha.wn ops ⟨some d, .call { callee := .value (.func f), args := xs, argTypes := ts }, tt, pp, af, g⟩
  rw [hwn, if_pos (by exact hw)]
  have hargs : xs.map a.eval = args.toArray := by
    apply Array.toList_inj.1
    rw [Array.toList_map, ha.eval, hx]
  have hr : (execOp a.eval ⟨some d, .call { callee := .value (.func f), args := xs, argTypes := ts }, tt, pp, af, g⟩).run P w = .ok (.enter f args.toArray) w := by
    unfold execOp
    simp only [resolve, Act.eval, Deferred.ofValue, Sem.run_bind, Sem.run_pure, Result.andThen_ok, invoke, callFunc]
    have : xs.map (fun x => a.eval x) = args.toArray := hargs
    simp [h1, h2, h3, hargs]
    simpa using h2
  unfold Oper.wp
  rw [hr]
  exact hc.mono fun x w' hR => by
    obtain ⟨v, hx', hl⟩ := h x w' hR
    subst hx'; exact hK _ _ (hl.go _ (ha.put (d := some d) hd v))
/-- a call is laid by -/
theorem LD.defer {f : Fn} {c : Operand} {l m : List Value} {ty : TypeId} {pp : String} {af : Array Edge} {g : Option (Nat × Bool)} (h : LD P n (⟨.fn f m.toArray, l.toArray⟩ :: ds) ops Q rest e w) (hw : wg n ops g e = true := by rfl) (hf : ev e c = .func f l.toArray m.toArray := by rfl) : LD P n ds ops Q (⟨none, .defer { callee := .value c, args := #[], argTypes := #[] }, ty, pp, af, g⟩ :: rest) e w := by
  refine ⟨fun a ha => wpList_step fun K hK => ?_⟩
  have hwn := ha.wn ops ⟨none, .defer { callee := .value c, args := #[], argTypes := #[] }, ty, pp, af, g⟩
  rw [hwn, if_pos (by exact hw)]
  have hcv : a.eval c = .func f l.toArray m.toArray := by rw [ha.eval]; exact hf
  unfold Oper.wp
  have hr : (execOp a.eval ⟨none, .defer { callee := .value c, args := #[], argTypes := #[] }, ty, pp, af, g⟩).run P w = .ok (.defer ⟨.fn f m.toArray, l.toArray⟩) w := by
    unfold execOp
    simp [resolve, hcv, Deferred.ofValue]
  rw [hr]
  exact hK _ _ (h.go _ ⟨ha.size, by simp [Act.put, ha.defers], ha.env⟩)
theorem frD0 {fn : Func} {args : List Value} (hn : fn.ntmps = n) (ha : Nat.ble args.length n = true) : FrD n [] { tmps := args.toArray ++ Array.replicate (fn.ntmps - args.toArray.size) undef, defers := [] } (env0 args) := by
  have hle : args.length ≤ n := Nat.le_of_ble_eq_true ha
  refine ⟨by simp [hn]; omega, rfl, ?_⟩
  funext t
  rw [env0_get]
  simp only [envOf, Array.getD_eq_getD_getElem?, Array.getElem?_append, List.size_toArray, List.getElem?_toArray]
  by_cases ht : t < args.length
  · simp [ht]
  · rw [if_neg ht, List.getElem?_eq_none (by omega)]
    simp only [Array.getElem?_replicate]
    split <;> rfl
theorem resC1 {s : Ro} {rs : List Asn} {fn : Func} {r ty : Nat} [T : OneC P ty] (i : Nat) {b t : Nat} {v : Value} (H : Holds s w rs) (h : fn.results = #[.cell r ty]) (hr : e r = .pointer (some ⟨b, 0, none⟩)) (hi : rs[i]? = some (var b t [v])) : ResE P fn e w v := fun a ha => by
  have hr' : a.tmps.getD r undef = .pointer (some ⟨b, 0, none⟩) := by rw [← hr, ← ha]; rfl
  rw [Array.getD_eq_getD_getElem?] at hr'
  have hc : w.cell? ⟨b, 0, none⟩ = some v := by rw [cell_of_row w b 0 _ _ _ (H.var hi)]; rfl
  obtain ⟨d, hu, hd⟩ := T.desc
  have hagg : (isAgg ty).run P w = .ok false w := by
    unfold isAgg
    rw [Sem.run_bind, run_underlying hu w]
    cases d <;> simp_all
  simp [results, h, hr', asAddr, loadVar, Sem.run_bind, hagg, hc]
end
end Go.Own
set_option linter.unusedSimpArgs false
set_option linter.unusedVariables false
namespace Go.Own
open Go Go.RowKit
/-- the wide fence, in a round or in none -/
def WF (ro : Option Nat) : Fence := { fn := fun _ => True, depth := none, alive := false, round := ro }
theorem calls_in {ro : Option Nat} {m : Nat} {P : Program} {f : FuncId} {args : Array Value} {w : World} {R : Ending → World → Prop} (h : Calls P f args w R) : CallsIn (WF ro) m P f args w R := (callsIn_wide (n := m)).2 h
theorem rows_in {ro : Option Nat} {m : Nat} {P : Program} {row : String} {args : Array Value} {w : World} {R : Value → World → Prop} (h : Rows P row args w R) : RowsIn (WF ro) m P row args w R := fun c cs _ =>
  let ⟨v, w', r, s⟩ := h c cs
  ⟨v, w', r, (stepsIn_wide.2 s : StepsIn (Machine.fenced P Fence.wide) P _ _)⟩
/-- no operation lays a call by -/
def noDef (l : List Oper) : Bool := l.all fun o => match o.op with
  | .defer _ => false
  | _ => true
section
variable {P : Program} {ops : Array Oper} {ro : Option Nat} {m : Nat} {Q Q' : Exit → Act → World → Prop}
theorem sem_in {o : Oper} (h : noDef [o] = true) (ρ : Operand → Value) : o.semAt ro ρ = execOp ρ o := by
  refine Oper.semAt_eq ro ρ o fun c hc => ?_
  simp [noDef, hc] at h
theorem op_in {o : Oper} {a : Act} {w : World} {K K' : Act → World → Prop} (hd : noDef [o] = true) (hQ : ¬ LetsOut Q) (hp : ∀ ch a w, ¬ Q (.panic ch) a w) (hK : ∀ a w, K a w → K' a w) (h : o.wp P a w K Q) : o.wpIn (WF ro) m P a w K' Q' := by
  refine ⟨fun _ _ => trivial, ?_⟩
  show o.uponIn (WF ro) m P a K' Q' ((o.semAt ro a.eval).run P w)
  rw [sem_in hd]
  unfold Oper.wp at h
  generalize (execOp a.eval o).run P w = r at *
  cases r with
  | ok nx w' =>
    cases nx <;> simp only [Oper.upon] at h <;> first
      | exact h.elim
      | exact hK _ _ h
      | (refine ⟨fun hh => absurd hh (by simp [WF]), (calls_in h).mono fun x w2 hx => ?_⟩
         cases x <;> first
           | exact hK _ _ hx
           | exact (hp _ _ _ hx).elim
           | exact (hQ hx).elim)
      | exact ⟨fun hh => absurd hh (by simp [WF]), (rows_in h).mono fun v w2 hx => hK _ _ hx⟩
  | halt x w' => cases x <;> simp only [Oper.upon] at h <;> first
      | exact h.elim
      | exact (hp _ _ _ h).elim
theorem list_in {K : Act → World → Prop} {rest : List Oper} (hK : ∀ a w, K a w → wpListIn (WF ro) m P ops Q' rest a w) : ∀ (l : List Oper) (a : Act) (w : World), noDef l = true → wpList P ops (Reg.onN K) l a w → wpListIn (WF ro) m P ops Q' (l ++ rest) a w
  | [], a, w, _, h => hK _ _ h
  | o :: l, a, w, hd, h => by
    have hd1 : noDef [o] = true ∧ noDef l = true := by
      simp only [noDef, List.all_cons, Bool.and_eq_true] at hd ⊢
      exact ⟨⟨hd.1, rfl⟩, hd.2⟩
    unfold wpList at h
    show wpListIn (WF ro) m P ops Q' (o :: (l ++ rest)) a w
    unfold wpListIn
    split
    · rename_i hw
      rw [if_pos hw] at h
      rcases h with h | ⟨_, h⟩
      · exact op_in hd1.1 Reg.letsOut_onN (fun _ _ _ h => h) (fun a w h => list_in hK l a w hd1.2 h) h
      · exact (Reg.letsOut_onN h).elim
    · rename_i hw
      rw [if_neg hw] at h
      exact ⟨fun _ _ => trivial, list_in hK l _ _ hd1.2 h⟩
theorem wpOp_in {i : Nat} {K K' : Act → World → Prop} {a : Act} {w : World} (hd : noDef ops.toList = true) (hQ : ¬ LetsOut Q) (hp : ∀ ch a w, ¬ Q (.panic ch) a w) (hK : ∀ a w, K a w → K' a w) (h : wpOp P ops Q i K a w) : wpOpIn (WF ro) m P ops Q' i K' a w := by
  unfold wpOp at h
  unfold wpOpIn
  cases ho : ops[i]? with
  | none => rw [ho] at h; exact hK _ _ h
  | some o =>
    rw [ho] at h
    simp only at h ⊢
    have hmem : o ∈ ops.toList := Array.mem_toList_iff.2 (Array.mem_of_getElem? ho)
    have hdo : noDef [o] = true := by
      have := List.all_eq_true.1 hd o hmem
      simp only [noDef, List.all_cons, List.all_nil, Bool.and_true]
      exact this
    split
    · rename_i hw
      rw [if_pos hw] at h
      rcases h with h | ⟨_, h⟩
      · exact op_in hdo hQ hp hK h
      · exact (hQ h).elim
    · rename_i hw
      rw [if_neg hw] at h
      exact ⟨fun _ _ => trivial, hK _ _ h⟩
theorem any_in {md : Region.Mode} {K : Act → World → Prop} (hd : noDef ops.toList = true) : ∀ (fuel : Nat) (listed : Array Bool) (a : Act) (w : World), wpAny P md ops (Reg.onN K) fuel listed a w → (∀ a w, K a w → Q' .normal a w) → wpAnyIn (WF ro) m P md ops Q' fuel listed a w
  | 0, listed, a, w, h, hK => ⟨h.1, hK _ _ h.2⟩
  | fuel + 1, listed, a, w, h, hK => ⟨fun hr => hK _ _ (h.1 hr), fun i hi => wpOp_in hd Reg.letsOut_onN (fun _ _ _ h => h) (fun a w h => any_in hd fuel _ a w h hK) (h.2 i hi)⟩
end
theorem rep_f {k j : Nat} : (Array.replicate k false).getD j false = false := by
  rcases Nat.lt_or_ge j k with h | h <;> simp [Array.getD_eq_getD_getElem?, Array.getElem?_replicate, h]
theorem rep_t {k j : Nat} : (Array.replicate k false).getD j true = false ↔ j < k := by
  rcases Nat.lt_or_ge j k with h | h
  · simp [Array.getD_eq_getD_getElem?, Array.getElem?_replicate, h]
  · simp [Array.getD_eq_getD_getElem?, Array.getElem?_replicate, Nat.not_lt.2 h, h]
structure CI (P : Program) (ro : Option Nat) (m n : Nat) (Q : Post) (c : Code) (e : Env) (w : World) : Prop where
  go : ∀ a, Fr n a e → c.wpIn (WF ro) m P (lift n Q) a w
structure LI (P : Program) (ro : Option Nat) (m n : Nat) (ops : Array Oper) (Q : Post) (l : List Oper) (e : Env) (w : World) : Prop where
  go : ∀ a, Fr n a e → wpListIn (WF ro) m P ops (lift n Q) l a w
def nE (K : Env → World → Prop) : Post := fun x => match x with
  | .normal => K
  | _ => fun _ _ => False
section
variable {P : Program} {ro : Option Nat} {m n : Nat} {ops : Array Oper} {Q : Post} {rest : List Oper} {e : Env} {w : World}
theorem lift_nE {K : Env → World → Prop} {x : Exit} {a : Act} {w : World} (h : lift n (nE K) x a w) : Reg.onN (fun a w => ∃ e, Fr n a e ∧ K e w) x a w := by
  obtain ⟨e, fr, h⟩ := h
  cases x <;> first | exact ⟨e, fr, h⟩ | exact h
theorem CI.seq {x y : Code} (h : CI P ro m n (thenE (CI P ro m n Q y) Q) x e w) : CI P ro m n Q (.seq x y) e w :=
  ⟨fun a ha => wpIn_seq (Go.wpIn_mono (h.go a ha) (fun ex a' w' ⟨e', fr, hq⟩ => by
    cases ex <;> first | exact hq.go a' fr | exact ⟨e', fr, hq⟩))⟩
theorem CI.skip (h : Q .normal e w) : CI P ro m n Q .skip e w := ⟨fun a ha => wpIn_skip ⟨e, ha, h⟩⟩
theorem CI.exit {id : Nat} (h : Q (.exit id) e w) : CI P ro m n Q (.exit id) e w := ⟨fun a ha => wpIn_exit ⟨e, ha, h⟩⟩
theorem CI.ret (h : Q .ret e w) : CI P ro m n Q .ret e w := ⟨fun a ha => wpIn_ret ⟨e, ha, h⟩⟩
theorem CI.tru {c : Operand} {x y : Code} (h : CI P ro m n Q x e w) (hc : ev e c = .bool true := by rfl) : CI P ro m n Q (.cond c x y) e w :=
  ⟨fun a ha => wpIn_cond_true (by rw [ha.eval]; exact hc) (h.go a ha)⟩
theorem CI.fls {c : Operand} {x y : Code} (h : CI P ro m n Q y e w) (hc : ev e c = .bool false := by rfl) : CI P ro m n Q (.cond c x y) e w :=
  ⟨fun a ha => wpIn_cond_false (by rw [ha.eval]; exact hc) (h.go a ha)⟩
theorem CI.block {id : Nat} {c : Code} (h : CI P ro m n (blockE id Q) c e w) : CI P ro m n Q (.block id c) e w :=
  ⟨fun a ha => wpIn_block (Go.wpIn_mono (h.go a ha) (fun ex a' w' ⟨e', fr, hq⟩ => by
    cases ex with
    | exit i =>
      show Exit.inBlock id (lift n Q) (.exit i) a' w'
      simp only [blockE] at hq
      unfold Exit.inBlock
      by_cases hi : i = id
      · subst hi; simp only [Nat.beq_refl, cond_true] at hq; simp; exact ⟨e', fr, hq⟩
      · have hb : Nat.beq i id = false := by
          cases hc : Nat.beq i id with
          | false => rfl
          | true => exact absurd (Nat.eq_of_beq_eq_true hc) hi
        rw [hb] at hq; simp [hi]; exact ⟨e', fr, hq⟩
    | _ => exact ⟨e', fr, hq⟩))⟩
theorem LI.of (k : Nat) {l : List Oper} (hd : noDef (l.take k) = true) (h : L P n ops (nE (LI P ro m n ops Q (l.drop k))) (l.take k) e w) : LI P ro m n ops Q l e w :=
  ⟨fun a ha => by
    have := list_in (Q' := lift n Q) (rest := l.drop k) (ro := ro) (m := m) (K := fun a w => ∃ e, Fr n a e ∧ LI P ro m n ops Q (l.drop k) e w) (fun a w ⟨e, fr, h⟩ => h.go a fr) (l.take k) a w hd (wpList_post (fun x a w h => lift_nE h) (h.go a ha))
    rwa [List.take_append_drop] at this⟩
theorem LI.nil (h : Q .normal e w) : LI P ro m n ops Q [] e w := ⟨fun a ha => ⟨e, ha, h⟩⟩
theorem CI.region {id : Nat} {l : List Oper} (h : L P n l.toArray (nE (Q .normal)) l e w) (hd : noDef l = true := by rfl) : CI P ro m n Q (.region id l.toArray false) e w :=
  ⟨fun a ha => wpIn_region_lit (by
    have := list_in (Q' := lift n Q) (rest := []) (ro := ro) (m := m) (ops := l.toArray) (K := fun a w => ∃ e, Fr n a e ∧ Q .normal e w) (fun a w h => h) l a w hd (wpList_post (fun x a w h => lift_nE h) (h.go a ha))
    rwa [List.append_nil] at this)⟩
theorem CI.regionI {id : Nat} {l : List Oper} (h : LI P ro m n l.toArray Q l e w) : CI P ro m n Q (.region id l.toArray false) e w := ⟨fun a ha => wpIn_region_lit (h.go a ha)⟩
/-- a region that draws its order and only reads -/
theorem CI.drawn1 {id : Nat} {l : List Oper} (cls ms : List Nat) (hok : Reg.ok1 P l cls ms = true) (h : L P n l.toArray (Q1 n l.toArray (l.zip cls) (Q .normal)) l e w.drew) (hd : noDef l = true := by rfl) : CI P ro m n Q (.region id l.toArray true) e w :=
  ⟨fun a ha => by
    have hok' := hok
    simp only [Reg.ok1, Bool.and_eq_true, decide_eq_true_eq] at hok
    obtain ⟨⟨⟨⟨⟨⟨h1, h2⟩, hms⟩, h3⟩, h4⟩, h5⟩, h6⟩ := hok
    refine wpIn_region_any h6 (any_in (by simpa using hd) _ _ _ _ (K := fun a w => ∃ e, Fr n a e ∧ Q .normal e w) ?_ (fun a w h => h))
    have hh : Reg.sq P l.toArray Reg.Ext (cls.zipIdx.map fun x => (x.2, x.1)) (fun a w => ∃ e, Fr n a e ∧ Q .normal e w) a { w with drawn := w.drawn + 1 } := by
      rw [← Reg.idx_zip l cls 0 h1]
      refine Reg.sq_last true false [] (fun _ => rfl) (fun b _ => Reg.rd_load_ext) (l.zip cls) 0 a _ (fun j => ?_) h4 h5 ?_
      · left; rw [Reg.zip_fst l cls h1]; simp
      · rw [Reg.zip_fst l cls h1]
        refine wpList_post (fun x a' w' ⟨e', fr, hq⟩ => ?_) (h.go a ha)
        obtain ⟨rfl, h2, h3⟩ := hq
        exact ⟨⟨by rw [chk_fr fr]; exact h2, fun hf => by cases hf⟩, e', fr, h3⟩
    have hfst : (cls.zipIdx.map fun x => (x.2, x.1)).map Prod.fst = List.range l.toArray.size := by
      rw [List.map_map, List.size_toArray, ← h1]
      have : (Prod.fst ∘ fun x : Nat × Nat => (x.2, x.1)) = Prod.snd := rfl
      rw [this, List.range_eq_range', List.zipIdx_map_snd]
    have hl : (cls.zipIdx.map fun x => (x.2, x.1)).length = l.toArray.size := by simp [h1]
    refine Reg.any_of_sq Reg.likes_ext h2 hms l.toArray.size _ _ a _ hl ?_ (by simp) ?_ ?_ (Reg.pairs_pw h3) hh
    · intro j o _ hj
      rw [rep_f] at hj
      cases hj
    · intro i
      rw [hfst, List.mem_range]
      exact rep_t
    · rw [hfst]; exact List.nodup_range⟩
end
end Go.Own
set_option linter.unusedSimpArgs false
set_option linter.unusedVariables false
namespace Go.Own
open Go Go.RowKit
section
variable {P : Program} {ro : Option Nat} {m n : Nat} {ops : Array Oper} {Q : Post} {rest : List Oper} {e : Env} {w : World}
/-- how a round may be left -/
def roundE {α : Type} (B : Nat) (I Ix : List α → World → Prop) (xs : List α) (W : World) : Post := fun x => match x with
  | .normal => fun _ W' => KeepsFrom B W W' ∧ I xs W'
  | .ret => fun _ W' => KeepsFrom B W W' ∧ Ix xs W'
  | _ => fun _ _ => False
theorem D.rangeF {α : Type} {ds : List Deferred} {Q : PostD} {g : Operand} {p : Tmp} {assign body : Code} (enc : α → Value) {gf : FuncId} {lb : Array Value} (hg : ev e g = .func (.func gf) #[] lb) [F : FunC P gf]
    {S Sp : List α → Prop} {N : Nat} (hseq : SeqStopsK (WF none) (m - 1) P gf lb (fun x => #[enc x]) (fun _ _ => True) S Sp N w) (hm : 1 ≤ m)
    (I Ix : List α → World → Prop) (hI : OwnFrom w.heap.size I) (hIx : OwnFrom w.heap.size Ix) (h0 : I [] w) (st : α → Env → Env)
    (hp : Nat.blt p n = true)
    (hassign : ∀ l x W, CI P (some l) (m - 1 - 1) n (nE fun e' W' => e' = st x e ∧ W' = W) assign (upd e p (enc x)) W)
    (hbody : ∀ l pre x W, I pre W → CI P (some l) (m - 1 - 1) n (roundE w.heap.size I Ix (pre ++ [x]) W) body (st x e) W)
    (hdone : ∀ D xs W, w.heap.size ≤ D → S xs → I xs W → W.heap[D]? = some (.deferred (some [])) → Q .normal (⟨.collected D, #[]⟩ :: ds) e W)
    (hstop : ∀ D pre W, w.heap.size ≤ D → Sp pre → Ix pre W → W.heap[D]? = some (.deferred (some [])) → Q .ret (⟨.collected D, #[]⟩ :: ds) e W) :
    D P n ds Q (.rangeFunc g #[p] assign body) e w := by
  refine ⟨fun a ha => (wpIn_wide (n := m)).1 ?_⟩
  obtain ⟨fn, c, h1, h2, h3⟩ := F.fn
  refine wpIn_rangeFunc_ownH (F := WF none) (n := m) (P := P) rfl hm (gf := gf) (lb := lb) (by rw [ha.eval]; exact hg) trivial ?_ hseq (fun _ _ => trivial) (fun _ _ _ _ _ _ _ _ => trivial) (Below.refl _ _) (fun _ => rfl)
    I (fun c pre W => c = .ret ∧ Ix pre W) hI (fun c s A B row hs hg' hr => ⟨hs.1, hIx s A B row hs.2 hg' hr⟩) h0 (fun x a' _ => Fr n a' (st x e)) (fun _ _ _ _ _ _ h _ _ => h) ?_ ?_ ?_ ?_
  · intro args w
    have h2' : ¬ fn.name = "runtime.NumGoroutine" := by simpa using h2
    simp [callFunc, h1, h2', h3]
  · intro l pre x W K hi hK
    have hfr : Fr n { tmps := ((#[p].zip #[enc x]).foldl (fun t (pv : Tmp × Value) => t.setIfInBounds pv.1 pv.2) a.tmps), defers := [] } (upd e p (enc x)) := by
      have := Fr.put (n := n) (a := { a with defers := [] }) ⟨ha.size, rfl, ha.env⟩ (d := some p) hp (enc x)
      have hz : ((#[p].zip #[enc x]).foldl (fun t (pv : Tmp × Value) => t.setIfInBounds pv.1 pv.2) a.tmps) = a.tmps.setIfInBounds p (enc x) := by simp
      rw [hz]
      exact this
    refine Go.wpIn_mono ((hassign l x W).go _ hfr) (fun ex a' w' ⟨e', fr, hq⟩ => ?_)
    cases ex <;> first
      | (obtain ⟨rfl, rfl⟩ := hq; exact hK a' _ (KeepsFrom.refl _ _) trivial hi fr)
      | exact hq.elim
  · intro l pre x a' W _ _ hi hfr _
    refine Go.wpIn_mono ((hbody l pre x W hi).go a' hfr) (fun ex a2 w' ⟨e', fr, hq⟩ => ?_)
    cases ex <;> first
      | exact ⟨hq.1, trivial, hq.2⟩
      | exact ⟨hq.1, rfl, hq.2⟩
      | exact hq.elim
  · intro D xs W hD hS hi hK
    exact ⟨e, _, ⟨ha.size, by simp [ha.defers], ha.env⟩, hdone D xs W hD hS hi hK⟩
  · rintro D c pre W hD hS ⟨rfl, hi⟩ hK
    exact wpIn_ret ⟨e, _, ⟨ha.size, by simp [ha.defers], ha.env⟩, hstop D pre W hD hS hi hK⟩
def blockD (id : Nat) (Q : PostD) : PostD := fun x => match x with
  | .exit i => bif Nat.beq i id then Q .normal else Q (.exit i)
  | x => Q x
theorem D.block {ds : List Deferred} {Q : PostD} {id : Nat} {c : Code} (h : D P n ds (blockD id Q) c e w) : D P n ds Q (.block id c) e w :=
  ⟨fun a ha => wp_block (Code.wp_mono (fun ex a' w' ⟨e', ds', fr, hq⟩ => by
    cases ex with
    | exit i =>
      show Exit.inBlock id (liftD n Q) (.exit i) a' w'
      simp only [blockD] at hq
      unfold Exit.inBlock
      by_cases hi : i = id
      · subst hi; simp only [Nat.beq_refl, cond_true] at hq; simp; exact ⟨e', ds', fr, hq⟩
      · have hb : Nat.beq i id = false := by
          cases hc : Nat.beq i id with
          | false => rfl
          | true => exact absurd (Nat.eq_of_beq_eq_true hc) hi
        rw [hb] at hq; simp [hi]; exact ⟨e', ds', fr, hq⟩
    | _ => exact ⟨e', ds', fr, hq⟩) (h.go a ha))⟩
theorem LD.lenL {ds : List Deferred} {Q : PostD} {rest : List Oper} {x : Operand} {t : TypeId} [T : StrC P t] {l : List UInt8} {d tt : Nat} {pp : String} {af : Array Edge} {g : Option (Nat × Bool)} (h : LD P n ds ops Q rest (upd e d (.int .i64 (l.length : Int))) w) (hw : wg n ops g e = true := by rfl) (hd : Nat.blt d n = true := by rfl) (hx : ev e x = .string ⟨l.toArray⟩ := by rfl) : LD P n ds ops Q (⟨some d, .call { callee := .builtin .len, args := #[x], argTypes := #[t] }, tt, pp, af, g⟩ :: rest) e w :=
  LD.val (o := ⟨some d, .call { callee := .builtin .len, args := #[x], argTypes := #[t] }, tt, pp, af, g⟩) _ w hw hd (by
    have hz : (⟨l.toArray⟩ : ByteArray).size = l.length := by simp [ByteArray.size]
    unfold execOp
    simp [resolve, invoke, builtin, Builtin.len_, hx, run_underlying T.str, goInt, hz]) h
def bodyM (P : Program) (m : Nat) (fn : Func) (R : Ending → World → Prop) : PostD := fun x ds e w => match x with
  | .normal => ∀ a, envOf a = e → LeavesInM (WF none) m P fn a.tmps R ds .returning w
  | .ret => ∀ a, envOf a = e → LeavesInM (WF none) m P fn a.tmps R ds .returning w
  | _ => False
theorem enterM {f : FuncId} {fn : Func} {c : Code} {args : List Value} {R : Ending → World → Prop} (m : Nat) (hf : P.funcs[f]? = some fn) (hb : fn.body = some c) (hn : fn.ntmps = n) (ha : Nat.ble args.length n = true) (h : D P n [] (bodyM P m fn R) c (env0 args) w) : Calls P f args.toArray w R := by
  refine (callsIn_wide (n := m)).1 ?_
  refine callsIn_of_wp_marks (F := WF none) hf hb trivial ((wpIn_wide (n := m)).2 ?_) rfl
  refine Code.wp_mono (fun x a w' ⟨e', ds, fr, hq⟩ => ?_) (h.go _ (frD0 hn ha))
  cases x <;> first
    | (have := hq a fr.env; rw [← fr.defers] at this; exact this)
    | exact hq.elim
/-- the way out, no loop having been begun -/
theorem leavesM0 {fn : Func} {R : Ending → World → Prop} {v : Value} (hv : ResE P fn e w v) (h : R (.returned v) w) : ∀ a, envOf a = e → LeavesInM (WF none) m P fn a.tmps R [] .returning w := fun a ha => ⟨v, hv a ha, h⟩
/-- the way out behind a loop -/
theorem leavesM1 {fn : Func} {R : Ending → World → Prop} {v : Value} {D : Nat} (hD : w.heap[D]? = some (.deferred (some []))) (hv : ResE P fn e (w.putObj D (.deferred none)) v) (h : R (.returned v) (w.putObj D (.deferred none))) : ∀ a, envOf a = e → LeavesInM (WF none) m P fn a.tmps R [⟨.collected D, #[]⟩] .returning w := fun a ha =>
  ⟨by simp, .inl ⟨D, _, rfl, run_takeDeferred hD, v, hv a ha, h⟩⟩
theorem retM0 {fn : Func} {R : Ending → World → Prop} {v : Value} (hv : ResE P fn e w v) (h : R (.returned v) w) : bodyM P m fn R .ret [] e w := leavesM0 hv h
theorem retM1 {fn : Func} {R : Ending → World → Prop} {v : Value} {D : Nat} (hD : w.heap[D]? = some (.deferred (some []))) (hv : ResE P fn e (w.putObj D (.deferred none)) v) (h : R (.returned v) (w.putObj D (.deferred none))) : bodyM P m fn R .ret [⟨.collected D, #[]⟩] e w := leavesM1 hD hv h
/-- a call of yield -/
theorem LI.yield {d : Nat} {c : Operand} {xs : Array Operand} {ts : Array TypeId} {l : Nat} {args : List Value} {R : Ending → World → Prop} {tt : Nat} {pp : String} {af : Array Edge} (hy : YieldAt (WF none) (m - 1) P l args.toArray w R) (h : ∀ x w', R x w' → ∃ v, x = .returned v ∧ LI P none m n ops Q rest (upd e d v) w') (hd : Nat.blt d n = true := by rfl) (hc : ev e c = .func (.yield l) #[] #[] := by rfl) (hx : xs.toList.map (ev e) = args := by rfl) : LI P none m n ops Q (⟨some d, .call { callee := .value c, args := xs, argTypes := ts }, tt, pp, af, none⟩ :: rest) e w := by
  refine ⟨fun a ha => wpListIn_plain rfl fun K hK => ?_⟩
  obtain ⟨fn, tmps, assign, body, h1, h2⟩ := hy
  have hcv : a.eval c = .func (.yield l) #[] #[] := by rw [ha.eval]; exact hc
  have hargs : xs.map a.eval = args.toArray := by
    apply Array.toList_inj.1
    rw [Array.toList_map, ha.eval, hx]
  refine ⟨fun _ _ => trivial, ?_⟩
  have hr : (execOp a.eval ⟨some d, .call { callee := .value c, args := xs, argTypes := ts }, tt, pp, af, none⟩).run P w = .ok (.round l fn tmps assign body) w := by
    unfold execOp
    have hargs' : xs.map (fun x => a.eval x) = args.toArray := hargs
    simp [resolve, hcv, Deferred.ofValue, invoke, h1, hargs, hargs']
  show Oper.uponIn _ _ _ _ _ _ _ ((Oper.semAt none a.eval _).run P w)
  rw [Oper.semAt_none, hr]
  refine ⟨fun hh => absurd hh (by simp [WF]), h2.mono fun x w' hR => ?_⟩
  obtain ⟨v, rfl, hl⟩ := h x w' hR
  exact hK _ _ (hl.go _ (ha.put (d := some d) hd v))
theorem wpIn_loop_ghost' {F : Fence} {c : Code} {Q : Exit → Act → World → Prop} {a : Act} (I : Nat → Act → World → Prop) (n₀ : Nat) (h₀ : I n₀ a w)
    (round : ∀ k a w, I k a w → c.wpIn F m P (Exit.then (fun a' w' => ∃ n', n' < k ∧ I n' a' w') Q) a w) : (Code.loop c).wpIn F m P Q a w := by
  refine wpIn_loop (fun a w => ∃ k, I k a w) (fun a w => leastOf (fun k => I k a w)) ⟨n₀, h₀⟩ ?_
  intro a w hI
  refine Go.wpIn_mono (round _ a w (leastOf_spec hI).1) ?_
  intro e a' w' hq
  cases e with
  | normal =>
    obtain ⟨n', hlt, hI'⟩ := hq
    exact show (∃ k, I k a' w') ∧ leastOf (fun k => I k a' w') < leastOf (fun k => I k a w) from ⟨⟨n', hI'⟩, Nat.lt_of_le_of_lt ((leastOf_spec ⟨n', hI'⟩).2 n' hI') hlt⟩
  | exit id => exact hq
  | goto l => exact hq
  | ret => exact hq
  | panic ch => exact hq
  | outgrown => exact hq
/-- a loop -/
theorem CI.loop {c : Code} (wr : List Nat) (I : Nat → Env → World → Prop) (k : Nat) (h0 : I k e w)
    (hr : ∀ k h w, I k h w → CI P ro m n (thenE (fun e' w' => Agr wr e e' ∧ ∃ j, j < k ∧ I j e' w') Q) c (hav wr h e) w) : CI P ro m n Q (.loop c) e w := by
  refine ⟨fun a ha => ?_⟩
  refine Go.wpIn_mono (wpIn_loop_ghost' (fun k a w => ∃ e', Fr n a e' ∧ Agr wr e e' ∧ I k e' w) k ⟨e, ha, Agr.refl, h0⟩ fun k a w hI => ?_) (fun _ _ _ h => h)
  obtain ⟨e1, fr, ag, hk⟩ := hI
  have hrr := hr _ e1 w hk
  rw [← ag.eq] at hrr
  refine Go.wpIn_mono (hrr.go a fr) (fun ex a' w' ⟨e', fr', hq⟩ => ?_)
  cases ex with
  | normal =>
    obtain ⟨ag', k', hlt, hk'⟩ := hq
    exact ⟨k', hlt, e', fr', ag', hk'⟩
  | _ => exact ⟨e', fr', hq⟩
theorem CI.loopS {c : Code} (wr sl : List Nat) (hs : sl.all (fun t => wr.any (Nat.beq t)) = true) (I : Nat → List Value → World → Prop) (k : Nat) (h0 : I k (sl.map e) w)
    (hr : ∀ k vs h w, I k vs w → CI P ro m n (thenE (fun e' w' => Agr wr e e' ∧ ∃ j, j < k ∧ I j (sl.map e') w') Q) c (upds sl vs (hav wr h e)) w) : CI P ro m n Q (.loop c) e w := by
  refine CI.loop wr (fun k h w => I k (sl.map h) w) k h0 fun k h w hI => ?_
  have := hr k (sl.map h) h w hI
  rwa [← hav_upds hs h] at this
end
theorem enterI {P : Program} {m n : Nat} {w : World} {f : FuncId} {fn : Func} {c : Code} {args : List Value} {R : Ending → World → Prop} (hf : P.funcs[f]? = some fn) (hb : fn.body = some c) (hn : fn.ntmps = n) (ha : Nat.ble args.length n = true) (h : CI P none m n (bodyQ P fn R) c (env0 args) w) : CallsIn (WF none) m P f args.toArray w R := by
  refine callsIn_of_wp hf hb trivial ?_ rfl
  have fr0 := frD0 (n := n) (args := args) hn ha
  refine Go.wpIn_mono (h.go _ ⟨fr0.size, rfl, fr0.env⟩) (fun x a w' ⟨e', fr, hq⟩ => ?_)
  cases x <;> first
      | (obtain ⟨v, h1, h2⟩ := hq; exact ⟨fr.defers, v, h1 a fr.env, h2⟩)
      | exact hq.elim
theorem Only.grown {w w' : World} (h : Only [] w w') : w.grownBy w' none := ⟨h.os, h.tape, h.output, h.size, fun k hk _ => h.block k hk (by simp)⟩
theorem Abides.only {β : Type} {B : Nat} {J : β → World → Prop} {s : β} {w w' : World} (hJ : AbidesFrom B J) (hs : J s w) (h : Only [] w w') : J s w' := hJ s w w' none hs (Only.grown h) (fun r e => by cases e)
theorem OwnF.only {β : Type} {B : Nat} {J : β → World → Prop} {s : β} {w w' : World} (hJ : OwnFrom B J) (hs : J s w) (h : Only [] w w') : J s w' := hJ s w w' none hs (Only.grown h) (fun r e => by cases e)
/-- all of memory but some variables is only read -/
def roBut (w : World) (L : List Nat) : Ro := ⟨fun k => if k ∈ L then none else w.heap[k]?, w⟩
abbrev VarL := List (Nat × TypeId × List Value)
def VarL.at_ (V : VarL) (w : World) : Prop := ∀ x ∈ V, w.heap[x.1]? = some (.cells x.2.2.toArray x.2.1 (0, 0))
def VarL.asn (V : VarL) : List Asn := V.map fun x => var x.1 x.2.1 x.2.2
def VarL.blocks (V : VarL) : List Nat := V.map (·.1)
section
variable {w w' : World} {s : Ro} {rs : List Asn} {V : VarL}
theorem VarL.sep : ∀ {V : VarL}, V.blocks.Nodup → V.at_ w → Sep w V.asn V.blocks
  | [], _, _ => rfl
  | x :: V, hn, h => by
    have hn' : x.1 ∉ VarL.blocks V ∧ (VarL.blocks V).Nodup := List.nodup_cons.1 hn
    exact ⟨[x.1], VarL.blocks V, rfl, ⟨rfl, h x (by simp)⟩, VarL.sep hn'.2 (fun y hy => h y (by simp [hy])), fun k hk => by
      rw [List.mem_singleton.1 hk]; exact hn'.1⟩
theorem Holds.but (hn : V.blocks.Nodup) (h : V.at_ w) : Holds (roBut w V.blocks) w V.asn :=
  ⟨⟨fun k o hk => by
    unfold roBut at hk
    simp only at hk
    split at hk
    · cases hk
    · exact hk, rfl, rfl, rfl⟩, V.blocks, VarL.sep hn h, fun k hk => by simp [roBut, hk]⟩
theorem but_block {L : List Nat} (hs : (roBut w L).Le s) (H : Holds s w' rs) {k : Nat} (hk : k ∉ L) {o : Obj} (ho : w.heap[k]? = some o) : w'.heap[k]? = some o :=
  H.fits.mem k o (hs.mem k o (by simp [roBut, hk, ho]))
theorem but_only (hs : (roBut w V.blocks).Le s) (H : Holds s w' rs) (hV : V.at_ w) {V' : VarL} (hb : V'.blocks = V.blocks) (hV' : V'.at_ w') : Only V.blocks w w' := by
  have hsz : w.heap.size ≤ w'.heap.size := by
    cases hz : w.heap.size with
    | zero => omega
    | succ k =>
      by_cases hk : k ∈ V.blocks
      · rw [← hb] at hk
        obtain ⟨x, hx, rfl⟩ := List.mem_map.1 hk
        exact lt_of_heap (hV' x hx)
      · have h2 : w.heap[k]? = some (w.heap[k]'(by omega)) := by simp [hz]
        exact lt_of_heap (but_block hs H hk h2)
  refine ⟨by rw [H.fits.os, hs.cst]; rfl, by rw [H.fits.tape, hs.cst]; rfl, by rw [H.fits.output, hs.cst]; rfl, hsz, fun k hk hkl => ?_⟩
  have h2 : w.heap[k]? = some w.heap[k] := by simp [hk]
  rw [h2]
  exact but_block hs H hkl h2
theorem Holds.newB {w0 : World} (H : Holds (startRo w0) w rs) {i b : Nat} {t : TypeId} {cs : List Value} (hi : rs[i]? = some (Own.var b t cs)) : w0.heap.size ≤ b := by
  obtain ⟨F, ⟨rfl, _⟩, h, _⟩ := H.upd hi
  have := h b (by simp)
  simpa [startRo] using this
theorem Holds.apart (H : Holds s w rs) {i j b b' : Nat} {t t' : TypeId} {cs cs' : List Value} (hi : rs[i]? = some (Own.var b t cs)) (hj : rs[j]? = some (Own.var b' t' cs')) (hij : j ≠ i) : b ≠ b' := fun e => by
  obtain ⟨F, ⟨rfl, _⟩, _, h, _⟩ := H.upd hi
  obtain ⟨G, ⟨rfl, _⟩, hG⟩ := h j _ hij hj
  exact hG b' (by simp) (by simp [e])
theorem keeps_of_only {B : Nat} {L : List Nat} (h : Only L w w') (hL : ∀ k ∈ L, k < B) : KeepsFrom B w w' := ⟨h.size, fun k o hB hk _ => h.heap hk (fun hm => by have := hL k hm; omega)⟩
theorem only_own {α : Type} {B : Nat} {w0 : World} (hB : w0.heap.size ≤ B) : OwnFrom B (fun (_ : α) w => Only [] w0 w) := fun x A A' row hs hg hr =>
  ⟨hg.os.trans hs.os, hg.tape.trans hs.tape, hg.output.trans hs.output, Nat.le_trans hs.size hg.size, fun k hk _ => by
    rw [hg.block k (Nat.lt_of_lt_of_le hk hs.size) (fun he => ?_)]
    · exact hs.block k hk (by simp)
    · obtain ⟨h1, _⟩ := hr k he.symm
      omega⟩
theorem own_and {α : Type} {B : Nat} {I J : α → World → Prop} (h : OwnFrom B I) (k : OwnFrom B J) : OwnFrom B (fun x w => I x w ∧ J x w) := fun x A A' row hs hg hr => ⟨h x A A' row hs.1 hg hr, k x A A' row hs.2 hg hr⟩
theorem own_pure {α : Type} {B : Nat} {p : α → Prop} : OwnFrom B (fun x (_ : World) => p x) := fun _ _ _ _ hs _ _ => hs
theorem at_own {α : Type} {B : Nat} (V : α → VarL) : OwnFrom B (fun x w => (V x).at_ w) := fun x A A' row hs hg hr y hy => by
  have hc := hs y hy
  rw [hg.block y.1 (lt_of_heap hc) (fun he => ?_)]
  · exact hc
  · obtain ⟨_, o, ho, hn⟩ := hr y.1 he.symm
    rw [hc] at ho
    cases ho
    cases hn
end
end Go.Own

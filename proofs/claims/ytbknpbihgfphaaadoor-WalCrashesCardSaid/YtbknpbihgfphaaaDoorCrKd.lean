/- Functions that defer a call: the walk with deferred calls laid by. Over any program. -/
import Derived.Test.YtbknpbihgfphaaaDoorCrK6
import Derived.Defers
set_option linter.unusedSimpArgs false
set_option linter.unusedVariables false
namespace Go.Own
open Go Go.RowKit
structure FrD (n : Nat) (ds : List Deferred) (a : Act) (e : Env) : Prop where
  size : a.tmps.size = n
  defers : a.defers = ds
  env : envOf a = e
theorem FrD.eval {n : Nat} {ds : List Deferred} {a : Act} {e : Env} (h : FrD n ds a e) : a.eval = ev e :=
  Fr.eval (n := n) (a := { a with defers := [] }) ⟨h.size, rfl, h.env⟩
theorem FrD.wn {n : Nat} {ds : List Deferred} {a : Act} {e : Env} (h : FrD n ds a e) (ops : Array Oper) (o : Oper) : Region.wanted o (yielded ops a.tmps) = Own.wn n ops o e :=
  Fr.wn (n := n) (a := { a with defers := [] }) ⟨h.size, rfl, h.env⟩ ops o
theorem FrD.put {n : Nat} {ds : List Deferred} {a : Act} {e : Env} (h : FrD n ds a e) {d : Option Nat} (hd : okD n d = true) (v : Value) : FrD n ds (a.put d v) (Own.put e d v) := by
  have := Fr.put (n := n) (a := { a with defers := [] }) ⟨h.size, rfl, h.env⟩ hd v
  cases d with
  | none => exact h
  | some d => exact ⟨this.size, by simpa [Act.put] using h.defers, this.env⟩
abbrev PostD := Exit → List Deferred → Env → World → Prop
def liftD (n : Nat) (Q : PostD) : Exit → Act → World → Prop := fun x a w => ∃ e ds, FrD n ds a e ∧ Q x ds e w
structure D (P : Program) (n : Nat) (ds : List Deferred) (Q : PostD) (c : Code) (e : Env) (w : World) : Prop where
  go : ∀ a, FrD n ds a e → c.wp P (liftD n Q) a w
structure LD (P : Program) (n : Nat) (ds : List Deferred) (ops : Array Oper) (Q : PostD) (l : List Oper) (e : Env) (w : World) : Prop where
  go : ∀ a, FrD n ds a e → wpList P ops (liftD n Q) l a w
def thenD (K : List Deferred → Env → World → Prop) (Q : PostD) : PostD := fun x => match x with
  | .normal => K
  | x => Q x
def plain1 : Op → Bool
  | .move _ | .assign _ | .load _ _ | .store _ _ _ | .binOp _ _ _ _ _ | .fieldAddr _ _ _ | .makeFunc _ _ _ | .unOp _ _ _ | .box _ _ | .alloc _ | .pick _ _ _ => true
  | _ => false
section
variable {P : Program} {n : Nat} {ds : List Deferred} {ops : Array Oper} {Q : PostD} {rest : List Oper} {e : Env} {w : World}
theorem D.seq {x y : Code} (h : D P n ds (thenD (fun ds e w => D P n ds Q y e w) Q) x e w) : D P n ds Q (.seq x y) e w :=
  ⟨fun a ha => wp_seq (Code.wp_mono (fun ex a' w' ⟨e', ds', fr, hq⟩ => by
    cases ex <;> first | exact hq.go a' fr | exact ⟨e', ds', fr, hq⟩) (h.go a ha))⟩
theorem D.skip (h : Q .normal ds e w) : D P n ds Q .skip e w := ⟨fun a ha => wp_skip ⟨e, ds, ha, h⟩⟩
theorem D.ret (h : Q .ret ds e w) : D P n ds Q .ret e w := ⟨fun a ha => wp_ret ⟨e, ds, ha, h⟩⟩
theorem D.ite {c : Operand} {x y : Code} {t : Bool} (hc : ev e c = .bool t) (h1 : t = true → D P n ds Q x e w) (h2 : t = false → D P n ds Q y e w) : D P n ds Q (.cond c x y) e w := by
  cases t with
  | true => exact ⟨fun a ha => wp_cond_true (by rw [ha.eval]; exact hc) ((h1 rfl).go a ha)⟩
  | false => exact ⟨fun a ha => wp_cond_false (by rw [ha.eval]; exact hc) ((h2 rfl).go a ha)⟩
theorem D.tru {c : Operand} {x y : Code} (h : D P n ds Q x e w) (hc : ev e c = .bool true := by rfl) : D P n ds Q (.cond c x y) e w := D.ite hc (fun _ => h) (fun h => by cases h)
theorem D.fls {c : Operand} {x y : Code} (h : D P n ds Q y e w) (hc : ev e c = .bool false := by rfl) : D P n ds Q (.cond c x y) e w := D.ite hc (fun h => by cases h) (fun _ => h)
theorem D.region {id : Nat} {l : List Oper} (h : LD P n ds l.toArray Q l e w) : D P n ds Q (.region id l.toArray false) e w := ⟨fun a ha => wp_region_lit (h.go a ha)⟩
theorem LD.nil (h : Q .normal ds e w) : LD P n ds ops Q [] e w := ⟨fun a ha => ⟨e, ds, ha, h⟩⟩
theorem plain1_run {o : Oper} {ρ : Operand → Value} {nx : Next} {w w' : World} (hp : plain1 o.op = true) (hr : (execOp ρ o).run P w = .ok nx w') : (∃ v, nx = .value v) ∨ nx = .skip := by
  have hv : ∀ {α : Type} {k : α → Value} {s : Sem α}, (do let x ← s; pure (Next.value (k x)) : Sem Next).run P w = .ok nx w' → (∃ v, nx = .value v) ∨ nx = .skip := by
    intro α k s h
    rw [Sem.run_bind] at h
    cases hs : s.run P w with
    | ok v w1 => rw [hs] at h; simp only [Result.andThen_ok, Sem.run_pure] at h; cases h; exact .inl ⟨_, rfl⟩
    | halt x w1 => rw [hs] at h; cases h
  have hu : ∀ {s : Sem Unit}, (do s; pure Next.skip : Sem Next).run P w = .ok nx w' → (∃ v, nx = .value v) ∨ nx = .skip := by
    intro s h
    rw [Sem.run_bind] at h
    cases hs : s.run P w with
    | ok v w1 => rw [hs] at h; simp only [Result.andThen_ok, Sem.run_pure] at h; cases h; exact .inr rfl
    | halt x w1 => rw [hs] at h; cases h
  unfold execOp at hr
  cases ho : o.op <;> rw [ho] at hp hr <;> first
    | (cases hp; done)
    | exact hv hr
    | exact hu hr
    | (simp only [Sem.run_pure] at hr; cases hr; exact .inl ⟨_, rfl⟩)
/-- one plain step -/
theorem LD.one {o : Oper} (hp : plain1 o.op = true) (h : L P n ops (fun x e' w' => x = .normal ∧ LD P n ds ops Q rest e' w') [o] e w) : LD P n ds ops Q (o :: rest) e w := by
  refine ⟨fun a ha => ?_⟩
  have h0 := h.go { a with defers := [] } ⟨ha.size, rfl, ha.env⟩
  have hfr : ∀ {b b0 : Act} {w' : World}, b0.tmps = b.tmps → b.defers = ds → lift n (fun x e' w' => x = Exit.normal ∧ LD P n ds ops Q rest e' w') .normal b0 w' → wpList P ops (liftD n Q) rest b w' := by
    rintro b b0 w' ht hb ⟨e', fr, _, hl⟩
    exact hl.go b ⟨by rw [← ht]; exact fr.size, hb, by rw [← fr.env]; unfold envOf; rw [ht]⟩
  unfold wpList at h0 ⊢
  simp only at h0
  split at h0
  · rename_i hw
    rw [if_pos hw]
    rcases h0 with h0 | ⟨_, a1, w1, e1, _, hx, _⟩
    · left
      unfold Oper.wp at h0 ⊢
      have he : (Act.eval { a with defers := [] }) = a.eval := rfl
      rw [he] at h0
      cases hr : (execOp a.eval o).run P w with
      | ok nx w' =>
        rw [hr] at h0
        rcases plain1_run hp hr with ⟨v, rfl⟩ | rfl
        · refine hfr (b0 := Act.put { a with defers := [] } o.dst v) ?_ ?_ h0
          · cases o.dst <;> rfl
          · cases o.dst <;> exact ha.defers
        · refine hfr (b0 := Act.put { a with defers := [] } o.dst undef) ?_ ?_ h0
          · cases o.dst <;> rfl
          · cases o.dst <;> exact ha.defers
      | halt x w' =>
        rw [hr] at h0
        cases x <;> simp only [Oper.upon] at h0 <;> first
          | exact h0.elim
          | (obtain ⟨_, _, hx, _⟩ := h0; cases hx)
    · cases hx
  · rename_i hw
    rw [if_neg hw]
    refine hfr (b0 := Act.put { a with defers := [] } o.dst undef) ?_ ?_ h0
    · cases o.dst <;> rfl
    · cases o.dst <;> exact ha.defers
theorem LD.val {o : Oper} (v : Value) (w' : World) (hw : Own.wn n ops o e = true) (hd : okD n o.dst = true) (hr : (execOp (ev e) o).run P w = .ok (.value v) w') (h : LD P n ds ops Q rest (Own.put e o.dst v) w') : LD P n ds ops Q (o :: rest) e w := by
  refine ⟨fun a ha => wpList_step fun K hK => ?_⟩
  rw [ha.wn ops o, if_pos hw]
  unfold Oper.wp
  rw [ha.eval, hr]
  exact hK _ _ (h.go _ (ha.put hd v))
theorem LD.len {x : Operand} {t : TypeId} {a : Option Addr} {m c d : Nat} {el : TypeId} {sz by_ : Nat} {zz : List Value} {tt : Nat} {pp : String} {af : Array Edge} {g : Option (Nat × Bool)} [E : ElC P t el sz by_ zz] (h : LD P n ds ops Q rest (upd e d (.int .i64 (m : Int))) w) (hw : wg n ops g e = true := by rfl) (hd : Nat.blt d n = true := by rfl) (hx : ev e x = .slice a m c := by rfl) : LD P n ds ops Q (⟨some d, .call { callee := .builtin .len, args := #[x], argTypes := #[t] }, tt, pp, af, g⟩ :: rest) e w := by
  obtain ⟨v, E', _⟩ := E.el
  exact LD.val (o := ⟨some d, .call { callee := .builtin .len, args := #[x], argTypes := #[t] }, tt, pp, af, g⟩) _ w hw hd (by
    unfold execOp
    simp [resolve, invoke, builtin, Builtin.len_, hx, run_underlying E'.slice, goInt]) h
theorem LD.nchk {x : Operand} {a : Addr} {d tt : Nat} {pp : String} {af : Array Edge} {g : Option (Nat × Bool)} (h : LD P n ds ops Q rest (upd e d (.pointer (some a))) w) (hw : wg n ops g e = true := by rfl) (hd : Nat.blt d n = true := by rfl) (hx : ev e x = .pointer (some a) := by rfl) : LD P n ds ops Q (⟨some d, .nilCheck x, tt, pp, af, g⟩ :: rest) e w :=
  LD.val (o := ⟨some d, .nilCheck x, tt, pp, af, g⟩) _ w hw hd (by
    unfold execOp
    simp [hx]) h
theorem LD.no {o : Oper} (hw : Own.wn n ops o e = false) (hd : okD n o.dst = true) (h : LD P n ds ops Q rest (Own.put e o.dst undef) w) : LD P n ds ops Q (o :: rest) e w := by
  refine ⟨fun a ha => wpList_step fun K hK => ?_⟩
  rw [ha.wn ops o, if_neg (by rw [hw]; decide)]
  exact hK _ _ (h.go _ (ha.put hd undef))
theorem LD.not {op : Op} {d tt : Nat} {pp : String} {af : Array Edge} {g : Option (Nat × Bool)} (h : LD P n ds ops Q rest (upd e d undef) w) (hw : wg n ops g e = false := by rfl) (hd : Nat.blt d n = true := by rfl) : LD P n ds ops Q (⟨some d, op, tt, pp, af, g⟩ :: rest) e w :=
  LD.no (o := ⟨some d, op, tt, pp, af, g⟩) hw hd h
theorem LD.call {f : FuncId} {xs : Array Operand} {ts : Array TypeId} {args : List Value} {R : Ending → World → Prop} {tt : Nat} {pp : String} {af : Array Edge} {g : Option (Nat × Bool)} {d : Nat} [F : FunC P f] (hc : Calls P f args.toArray w R) (h : ∀ x w', R x w' → ∃ v, x = .returned v ∧ LD P n ds ops Q rest (upd e d v) w') (hw : wg n ops g e = true := by rfl) (hd : Nat.blt d n = true := by rfl) (hx : xs.toList.map (ev e) = args := by rfl) : LD P n ds ops Q (⟨some d, .call { callee := .value (.func f), args := xs, argTypes := ts }, tt, pp, af, g⟩ :: rest) e w := by
  obtain ⟨fn, c, h1, h2, h3⟩ := F.fn
  refine ⟨fun a ha => wpList_step fun K hK => ?_⟩
  have hwn := ha.wn ops ⟨some d, .call { callee := .value (.func f), args := xs, argTypes := ts }, tt, pp, af, g⟩
  rw [hwn, if_pos (by exact hw)]
  have hargs : xs.map a.eval = args.toArray := by
    apply Array.toList_inj.1
    rw [Array.toList_map, ha.eval, hx]
  have hr : (execOp a.eval ⟨some d, .call { callee := .value (.func f), args := xs, argTypes := ts }, tt, pp, af, g⟩).run P w = .ok (.enter f args.toArray) w := by
    unfold execOp
    simp only [resolve, Act.eval, Deferred.ofValue, Sem.run_bind, Sem.run_pure, Result.andThen_ok, invoke, callFunc]
    have : xs.map (fun x => a.eval x) = args.toArray := hargs
    simp [h1, h2, h3, hargs]
    simpa using h2
  unfold Oper.wp
  rw [hr]
  exact hc.mono fun x w' hR => by
    obtain ⟨v, hx', hl⟩ := h x w' hR
    subst hx'; exact hK _ _ (hl.go _ (ha.put (d := some d) hd v))
/-- a call is laid by -/
theorem LD.defer {f : Fn} {c : Operand} {l m : List Value} {ty : TypeId} {pp : String} {af : Array Edge} {g : Option (Nat × Bool)} (h : LD P n (⟨.fn f m.toArray, l.toArray⟩ :: ds) ops Q rest e w) (hw : wg n ops g e = true := by rfl) (hf : ev e c = .func f l.toArray m.toArray := by rfl) : LD P n ds ops Q (⟨none, .defer { callee := .value c, args := #[], argTypes := #[] }, ty, pp, af, g⟩ :: rest) e w := by
  refine ⟨fun a ha => wpList_step fun K hK => ?_⟩
  have hwn := ha.wn ops ⟨none, .defer { callee := .value c, args := #[], argTypes := #[] }, ty, pp, af, g⟩
  rw [hwn, if_pos (by exact hw)]
  have hcv : a.eval c = .func f l.toArray m.toArray := by rw [ha.eval]; exact hf
  unfold Oper.wp
  have hr : (execOp a.eval ⟨none, .defer { callee := .value c, args := #[], argTypes := #[] }, ty, pp, af, g⟩).run P w = .ok (.defer ⟨.fn f m.toArray, l.toArray⟩) w := by
    unfold execOp
    simp [resolve, hcv, Deferred.ofValue]
  rw [hr]
  exact hK _ _ (h.go _ ⟨ha.size, by simp [Act.put, ha.defers], ha.env⟩)
def bodyD (P : Program) (fn : Func) (R : Ending → World → Prop) : PostD := fun x ds e w => match x with
  | .normal => ∀ a, envOf a = e → Leaves P fn a.tmps R ds .returning w
  | .ret => ∀ a, envOf a = e → Leaves P fn a.tmps R ds .returning w
  | _ => False
theorem frD0 {fn : Func} {args : List Value} (hn : fn.ntmps = n) (ha : Nat.ble args.length n = true) : FrD n [] { tmps := args.toArray ++ Array.replicate (fn.ntmps - args.toArray.size) undef, defers := [] } (env0 args) := by
  have hle : args.length ≤ n := Nat.le_of_ble_eq_true ha
  refine ⟨by simp [hn]; omega, rfl, ?_⟩
  funext t
  rw [env0_get]
  simp only [envOf, Array.getD_eq_getD_getElem?, Array.getElem?_append, List.size_toArray, List.getElem?_toArray]
  by_cases ht : t < args.length
  · simp [ht]
  · rw [if_neg ht, List.getElem?_eq_none (by omega)]
    simp only [Array.getElem?_replicate]
    split <;> rfl
theorem enterD {f : FuncId} {fn : Func} {c : Code} {args : List Value} {R : Ending → World → Prop} (hf : P.funcs[f]? = some fn) (hb : fn.body = some c) (hn : fn.ntmps = n) (ha : Nat.ble args.length n = true) (h : D P n [] (bodyD P fn R) c (env0 args) w) : Calls P f args.toArray w R := by
  refine calls_of_wp_defers hf hb ?_
  refine Code.wp_mono (fun x a w' ⟨e', ds, fr, hq⟩ => ?_) (h.go _ (frD0 hn ha))
  cases x <;> first
    | (have := hq a fr.env; rw [← fr.defers] at this; exact this)
    | exact hq.elim
theorem resC1 {s : Ro} {rs : List Asn} {fn : Func} {r ty : Nat} [T : OneC P ty] (i : Nat) {b t : Nat} {v : Value} (H : Holds s w rs) (h : fn.results = #[.cell r ty]) (hr : e r = .pointer (some ⟨b, 0, none⟩)) (hi : rs[i]? = some (var b t [v])) : ResE P fn e w v := fun a ha => by
  have hr' : a.tmps.getD r undef = .pointer (some ⟨b, 0, none⟩) := by rw [← hr, ← ha]; rfl
  rw [Array.getD_eq_getD_getElem?] at hr'
  have hc : w.cell? ⟨b, 0, none⟩ = some v := by rw [cell_of_row w b 0 _ _ _ (H.var hi)]; rfl
  obtain ⟨d, hu, hd⟩ := T.desc
  have hagg : (isAgg ty).run P w = .ok false w := by
    unfold isAgg
    rw [Sem.run_bind, run_underlying hu w]
    cases d <;> simp_all
  simp [results, h, hr', asAddr, loadVar, Sem.run_bind, hagg, hc]
/-- a return with no deferred call -/
theorem leaves0 {fn : Func} {R : Ending → World → Prop} {v : Value} (hv : ResE P fn e w v) (h : R (.returned v) w) : ∀ a, envOf a = e → Leaves P fn a.tmps R [] .returning w := fun a ha => ⟨v, hv a ha, h⟩
/-- a return with one deferred call -/
theorem leaves1 {fn : Func} {R R1 : Ending → World → Prop} {f : FuncId} {l m all : List Value} (F : FunC P f) (hall : l ++ m = all) (hc : CallsD P f all.toArray .returning w fun x u' w' => u' = .returning ∧ R1 x w')
    (h : ∀ x w', R1 x w' → ∃ v, x = .returned v ∧ ∃ v', ResE P fn e w' v' ∧ R (.returned v') w') : ∀ a, envOf a = e → Leaves P fn a.tmps R [⟨.fn (.func f) m.toArray, l.toArray⟩] .returning w := by
  intro a ha
  obtain ⟨fn2, c2, h1, h2, h3⟩ := F.fn
  refine leaves_cons (f := f) (args := all.toArray) (by simp) ?_ (hc.mono fun x u' w' ⟨hu, hR⟩ => ?_)
  · simp only [invoke, callFunc]
    have h2' : ¬ fn2.name = "runtime.NumGoroutine" := by simpa using h2
    simp [h1, h2', h3, ← hall]
  · obtain ⟨v, rfl, v', hv', hR'⟩ := h x w' hR
    subst hu
    exact ⟨v', hv' a ha, hR'⟩
/-- a deferred call by a walk of its body -/
theorem callsD {f : FuncId} {fn : Func} {c : Code} {args : List Value} {R : Ending → World → Prop} {u : FrameMode} (hf : P.funcs[f]? = some fn) (hb : fn.body = some c) (hn : fn.ntmps = n) (ha : Nat.ble args.length n = true) (h : C P n (bodyQ P fn R) c (env0 args) w) : CallsD P f args.toArray u w fun x u' w' => u' = u ∧ R x w' := by
  refine callsD_of_wp hf hb ?_
  have fr0 := frD0 (n := n) (args := args) hn ha
  refine Code.wp_mono (fun x a w' ⟨e', fr, hq⟩ => ?_) (h.go _ ⟨fr0.size, rfl, fr0.env⟩)
  cases x <;> first
      | (obtain ⟨v, h1, h2⟩ := hq; exact ⟨fr.defers, v, h1 a fr.env, h2⟩)
      | exact hq.elim
end
end Go.Own

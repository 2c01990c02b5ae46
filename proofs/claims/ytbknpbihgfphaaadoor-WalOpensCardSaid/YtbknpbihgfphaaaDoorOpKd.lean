/- Functions that defer a call: the walk with deferred calls laid by. Over any program. wal: a commit. audit: the plain laws of sectors and of a free disk. -/
import Derived.Test.YtbknpbihgfphaaaDoorOpK6
import Derived.Defers
import Derived.Test.YtbknpbihgfphaaaDoorOpWg
import Derived.Test.YtbknpbihgfphaaaDoorOpWc
set_option linter.unusedSimpArgs false
set_option linter.unusedVariables false
namespace Go.Own
open Go Go.RowKit
structure FrD (n : Nat) (ds : List Deferred) (a : Act) (e : Env) : Prop where
  size : a.tmps.size = n
  defers : a.defers = ds
  env : envOf a = e
theorem FrD.eval {n : Nat} {ds : List Deferred} {a : Act} {e : Env} (h : FrD n ds a e) : a.eval = ev e :=
  Fr.eval (n := n) (a := { a with defers := [] }) ⟨h.size, rfl, h.env⟩
theorem FrD.wn {n : Nat} {ds : List Deferred} {a : Act} {e : Env} (h : FrD n ds a e) (ops : Array Oper) (o : Oper) : Region.wanted o (yielded ops a.tmps) = Own.wn n ops o e :=
  Fr.wn (n := n) (a := { a with defers := [] }) ⟨h.size, rfl, h.env⟩ ops o
theorem FrD.put {n : Nat} {ds : List Deferred} {a : Act} {e : Env} (h : FrD n ds a e) {d : Option Nat} (hd : okD n d = true) (v : Value) : FrD n ds (a.put d v) (Own.put e d v) := by
  have := Fr.put (n := n) (a := { a with defers := [] }) ⟨h.size, rfl, h.env⟩ hd v
  cases d with
  | none => exact h
  | some d => exact ⟨this.size, by simpa [Act.put] using h.defers, this.env⟩
abbrev PostD := Exit → List Deferred → Env → World → Prop
def liftD (n : Nat) (Q : PostD) : Exit → Act → World → Prop := fun x a w => ∃ e ds, FrD n ds a e ∧ Q x ds e w
structure D (P : Program) (n : Nat) (ds : List Deferred) (Q : PostD) (c : Code) (e : Env) (w : World) : Prop where
  go : ∀ a, FrD n ds a e → c.wp P (liftD n Q) a w
structure LD (P : Program) (n : Nat) (ds : List Deferred) (ops : Array Oper) (Q : PostD) (l : List Oper) (e : Env) (w : World) : Prop where
  go : ∀ a, FrD n ds a e → wpList P ops (liftD n Q) l a w
def thenD (K : List Deferred → Env → World → Prop) (Q : PostD) : PostD := fun x => match x with
  | .normal => K
  | x => Q x
def plain1 : Op → Bool
  | .move _ | .assign _ | .load _ _ | .store _ _ _ | .binOp _ _ _ _ _ | .fieldAddr _ _ _ | .makeFunc _ _ _ | .unOp _ _ _ | .box _ _ | .alloc _ | .pick _ _ _ => true
  | _ => false
section
variable {P : Program} {n : Nat} {ds : List Deferred} {ops : Array Oper} {Q : PostD} {rest : List Oper} {e : Env} {w : World}
theorem D.seq {x y : Code} (h : D P n ds (thenD (fun ds e w => D P n ds Q y e w) Q) x e w) : D P n ds Q (.seq x y) e w :=
  ⟨fun a ha => wp_seq (Code.wp_mono (fun ex a' w' ⟨e', ds', fr, hq⟩ => by
    cases ex <;> first | exact hq.go a' fr | exact ⟨e', ds', fr, hq⟩) (h.go a ha))⟩
theorem D.skip (h : Q .normal ds e w) : D P n ds Q .skip e w := ⟨fun a ha => wp_skip ⟨e, ds, ha, h⟩⟩
theorem D.ret (h : Q .ret ds e w) : D P n ds Q .ret e w := ⟨fun a ha => wp_ret ⟨e, ds, ha, h⟩⟩
theorem D.ite {c : Operand} {x y : Code} {t : Bool} (hc : ev e c = .bool t) (h1 : t = true → D P n ds Q x e w) (h2 : t = false → D P n ds Q y e w) : D P n ds Q (.cond c x y) e w := by
  cases t with
  | true => exact ⟨fun a ha => wp_cond_true (by rw [ha.eval]; exact hc) ((h1 rfl).go a ha)⟩
  | false => exact ⟨fun a ha => wp_cond_false (by rw [ha.eval]; exact hc) ((h2 rfl).go a ha)⟩
theorem D.tru {c : Operand} {x y : Code} (h : D P n ds Q x e w) (hc : ev e c = .bool true := by rfl) : D P n ds Q (.cond c x y) e w := D.ite hc (fun _ => h) (fun h => by cases h)
theorem D.fls {c : Operand} {x y : Code} (h : D P n ds Q y e w) (hc : ev e c = .bool false := by rfl) : D P n ds Q (.cond c x y) e w := D.ite hc (fun h => by cases h) (fun _ => h)
theorem D.region {id : Nat} {l : List Oper} (h : LD P n ds l.toArray Q l e w) : D P n ds Q (.region id l.toArray false) e w := ⟨fun a ha => wp_region_lit (h.go a ha)⟩
theorem LD.nil (h : Q .normal ds e w) : LD P n ds ops Q [] e w := ⟨fun a ha => ⟨e, ds, ha, h⟩⟩
theorem plain1_run {o : Oper} {ρ : Operand → Value} {nx : Next} {w w' : World} (hp : plain1 o.op = true) (hr : (execOp ρ o).run P w = .ok nx w') : (∃ v, nx = .value v) ∨ nx = .skip := by
  have hv : ∀ {α : Type} {k : α → Value} {s : Sem α}, (do let x ← s; pure (Next.value (k x)) : Sem Next).run P w = .ok nx w' → (∃ v, nx = .value v) ∨ nx = .skip := by
    intro α k s h
    rw [Sem.run_bind] at h
    cases hs : s.run P w with
    | ok v w1 => rw [hs] at h; simp only [Result.andThen_ok, Sem.run_pure] at h; cases h; exact .inl ⟨_, rfl⟩
    | halt x w1 => rw [hs] at h; cases h
  have hu : ∀ {s : Sem Unit}, (do s; pure Next.skip : Sem Next).run P w = .ok nx w' → (∃ v, nx = .value v) ∨ nx = .skip := by
    intro s h
    rw [Sem.run_bind] at h
    cases hs : s.run P w with
    | ok v w1 => rw [hs] at h; simp only [Result.andThen_ok, Sem.run_pure] at h; cases h; exact .inr rfl
    | halt x w1 => rw [hs] at h; cases h
  unfold execOp at hr
  cases ho : o.op <;> rw [ho] at hp hr <;> first
    | (cases hp; done)
    | exact hv hr
    | exact hu hr
    | (simp only [Sem.run_pure] at hr; cases hr; exact .inl ⟨_, rfl⟩)
/-- one plain step -/
theorem LD.one {o : Oper} (hp : plain1 o.op = true) (h : L P n ops (fun x e' w' => x = .normal ∧ LD P n ds ops Q rest e' w') [o] e w) : LD P n ds ops Q (o :: rest) e w := by
  refine ⟨fun a ha => ?_⟩
  have h0 := h.go { a with defers := [] } ⟨ha.size, rfl, ha.env⟩
  have hfr : ∀ {b b0 : Act} {w' : World}, b0.tmps = b.tmps → b.defers = ds → lift n (fun x e' w' => x = Exit.normal ∧ LD P n ds ops Q rest e' w') .normal b0 w' → wpList P ops (liftD n Q) rest b w' := by
    rintro b b0 w' ht hb ⟨e', fr, _, hl⟩
    exact hl.go b ⟨by rw [← ht]; exact fr.size, hb, by rw [← fr.env]; unfold envOf; rw [ht]⟩
  unfold wpList at h0 ⊢
  simp only at h0
  split at h0
  · rename_i hw
    rw [if_pos hw]
    rcases h0 with h0 | ⟨_, a1, w1, e1, _, hx, _⟩
    · left
      unfold Oper.wp at h0 ⊢
      have he : (Act.eval { a with defers := [] }) = a.eval := rfl
      rw [he] at h0
      cases hr : (execOp a.eval o).run P w with
      | ok nx w' =>
        rw [hr] at h0
        rcases plain1_run hp hr with ⟨v, rfl⟩ | rfl
        · refine hfr (b0 := Act.put { a with defers := [] } o.dst v) ?_ ?_ h0
          · cases o.dst <;> rfl
          · cases o.dst <;> exact ha.defers
        · refine hfr (b0 := Act.put { a with defers := [] } o.dst undef) ?_ ?_ h0
          · cases o.dst <;> rfl
          · cases o.dst <;> exact ha.defers
      | halt x w' =>
        rw [hr] at h0
        cases x <;> simp only [Oper.upon] at h0 <;> first
          | exact h0.elim
          | (obtain ⟨_, _, hx, _⟩ := h0; cases hx)
    · cases hx
  · rename_i hw
    rw [if_neg hw]
    refine hfr (b0 := Act.put { a with defers := [] } o.dst undef) ?_ ?_ h0
    · cases o.dst <;> rfl
    · cases o.dst <;> exact ha.defers
theorem LD.val {o : Oper} (v : Value) (w' : World) (hw : Own.wn n ops o e = true) (hd : okD n o.dst = true) (hr : (execOp (ev e) o).run P w = .ok (.value v) w') (h : LD P n ds ops Q rest (Own.put e o.dst v) w') : LD P n ds ops Q (o :: rest) e w := by
  refine ⟨fun a ha => wpList_step fun K hK => ?_⟩
  rw [ha.wn ops o, if_pos hw]
  unfold Oper.wp
  rw [ha.eval, hr]
  exact hK _ _ (h.go _ (ha.put hd v))
theorem LD.len {x : Operand} {t : TypeId} {a : Option Addr} {m c d : Nat} {el : TypeId} {sz by_ : Nat} {zz : List Value} {tt : Nat} {pp : String} {af : Array Edge} {g : Option (Nat × Bool)} [E : ElC P t el sz by_ zz] (h : LD P n ds ops Q rest (upd e d (.int .i64 (m : Int))) w) (hw : wg n ops g e = true := by rfl) (hd : Nat.blt d n = true := by rfl) (hx : ev e x = .slice a m c := by rfl) : LD P n ds ops Q (⟨some d, .call { callee := .builtin .len, args := #[x], argTypes := #[t] }, tt, pp, af, g⟩ :: rest) e w := by
  obtain ⟨v, E', _⟩ := E.el
  exact LD.val (o := ⟨some d, .call { callee := .builtin .len, args := #[x], argTypes := #[t] }, tt, pp, af, g⟩) _ w hw hd (by
    unfold execOp
    simp [resolve, invoke, builtin, Builtin.len_, hx, run_underlying E'.slice, goInt]) h
theorem LD.nchk {x : Operand} {a : Addr} {d tt : Nat} {pp : String} {af : Array Edge} {g : Option (Nat × Bool)} (h : LD P n ds ops Q rest (upd e d (.pointer (some a))) w) (hw : wg n ops g e = true := by rfl) (hd : Nat.blt d n = true := by rfl) (hx : ev e x = .pointer (some a) := by rfl) : LD P n ds ops Q (⟨some d, .nilCheck x, tt, pp, af, g⟩ :: rest) e w :=
  LD.val (o := ⟨some d, .nilCheck x, tt, pp, af, g⟩) _ w hw hd (by
    unfold execOp
    simp [hx]) h
theorem LD.no {o : Oper} (hw : Own.wn n ops o e = false) (hd : okD n o.dst = true) (h : LD P n ds ops Q rest (Own.put e o.dst undef) w) : LD P n ds ops Q (o :: rest) e w := by
  refine ⟨fun a ha => wpList_step fun K hK => ?_⟩
  rw [ha.wn ops o, if_neg (by rw [hw]; decide)]
  exact hK _ _ (h.go _ (ha.put hd undef))
theorem LD.not {op : Op} {d tt : Nat} {pp : String} {af : Array Edge} {g : Option (Nat × Bool)} (h : LD P n ds ops Q rest (upd e d undef) w) (hw : wg n ops g e = false := by rfl) (hd : Nat.blt d n = true := by rfl) : LD P n ds ops Q (⟨some d, op, tt, pp, af, g⟩ :: rest) e w :=
  LD.no (o := ⟨some d, op, tt, pp, af, g⟩) hw hd h
theorem LD.call {f : FuncId} {xs : Array Operand} {ts : Array TypeId} {args : List Value} {R : Ending → World → Prop} {tt : Nat} {pp : String} {af : Array Edge} {g : Option (Nat × Bool)} {d : Nat} [F : FunC P f] (hc : Calls P f args.toArray w R) (h : ∀ x w', R x w' → ∃ v, x = .returned v ∧ LD P n ds ops Q rest (upd e d v) w') (hw : wg n ops g e = true := by rfl) (hd : Nat.blt d n = true := by rfl) (hx : xs.toList.map (ev e) = args := by rfl) : LD P n ds ops Q (⟨some d, .call { callee := .value (.func f), args := xs, argTypes := ts }, tt, pp, af, g⟩ :: rest) e w := by
  obtain ⟨fn, c, h1, h2, h3⟩ := F.fn
  refine ⟨fun a ha => wpList_step fun K hK => ?_⟩
  have hwn := ha.wn ops ⟨some d, .call { callee := .value (.func f), args := xs, argTypes := ts }, tt, pp, af, g⟩
  rw [hwn, if_pos (by exact hw)]
  have hargs : xs.map a.eval = args.toArray := by
    apply Array.toList_inj.1
    rw [Array.toList_map, ha.eval, hx]
  have hr : (execOp a.eval ⟨some d, .call { callee := .value (.func f), args := xs, argTypes := ts }, tt, pp, af, g⟩).run P w = .ok (.enter f args.toArray) w := by
    unfold execOp
    simp only [resolve, Act.eval, Deferred.ofValue, Sem.run_bind, Sem.run_pure, Result.andThen_ok, invoke, callFunc]
    have : xs.map (fun x => a.eval x) = args.toArray := hargs
    simp [h1, h2, h3, hargs]
    simpa using h2
  unfold Oper.wp
  rw [hr]
  exact hc.mono fun x w' hR => by
    obtain ⟨v, hx', hl⟩ := h x w' hR
    subst hx'; exact hK _ _ (hl.go _ (ha.put (d := some d) hd v))
/-- a call is laid by -/
theorem LD.defer {f : Fn} {c : Operand} {l m : List Value} {ty : TypeId} {pp : String} {af : Array Edge} {g : Option (Nat × Bool)} (h : LD P n (⟨.fn f m.toArray, l.toArray⟩ :: ds) ops Q rest e w) (hw : wg n ops g e = true := by rfl) (hf : ev e c = .func f l.toArray m.toArray := by rfl) : LD P n ds ops Q (⟨none, .defer { callee := .value c, args := #[], argTypes := #[] }, ty, pp, af, g⟩ :: rest) e w := by
  refine ⟨fun a ha => wpList_step fun K hK => ?_⟩
  have hwn := ha.wn ops ⟨none, .defer { callee := .value c, args := #[], argTypes := #[] }, ty, pp, af, g⟩
  rw [hwn, if_pos (by exact hw)]
  have hcv : a.eval c = .func f l.toArray m.toArray := by rw [ha.eval]; exact hf
  unfold Oper.wp
  have hr : (execOp a.eval ⟨none, .defer { callee := .value c, args := #[], argTypes := #[] }, ty, pp, af, g⟩).run P w = .ok (.defer ⟨.fn f m.toArray, l.toArray⟩) w := by
    unfold execOp
    simp [resolve, hcv, Deferred.ofValue]
  rw [hr]
  exact hK _ _ (h.go _ ⟨ha.size, by simp [Act.put, ha.defers], ha.env⟩)
def bodyD (P : Program) (fn : Func) (R : Ending → World → Prop) : PostD := fun x ds e w => match x with
  | .normal => ∀ a, envOf a = e → Leaves P fn a.tmps R ds .returning w
  | .ret => ∀ a, envOf a = e → Leaves P fn a.tmps R ds .returning w
  | _ => False
theorem frD0 {fn : Func} {args : List Value} (hn : fn.ntmps = n) (ha : Nat.ble args.length n = true) : FrD n [] { tmps := args.toArray ++ Array.replicate (fn.ntmps - args.toArray.size) undef, defers := [] } (env0 args) := by
  have hle : args.length ≤ n := Nat.le_of_ble_eq_true ha
  refine ⟨by simp [hn]; omega, rfl, ?_⟩
  funext t
  rw [env0_get]
  simp only [envOf, Array.getD_eq_getD_getElem?, Array.getElem?_append, List.size_toArray, List.getElem?_toArray]
  by_cases ht : t < args.length
  · simp [ht]
  · rw [if_neg ht, List.getElem?_eq_none (by omega)]
    simp only [Array.getElem?_replicate]
    split <;> rfl
theorem enterD {f : FuncId} {fn : Func} {c : Code} {args : List Value} {R : Ending → World → Prop} (hf : P.funcs[f]? = some fn) (hb : fn.body = some c) (hn : fn.ntmps = n) (ha : Nat.ble args.length n = true) (h : D P n [] (bodyD P fn R) c (env0 args) w) : Calls P f args.toArray w R := by
  refine calls_of_wp_defers hf hb ?_
  refine Code.wp_mono (fun x a w' ⟨e', ds, fr, hq⟩ => ?_) (h.go _ (frD0 hn ha))
  cases x <;> first
    | (have := hq a fr.env; rw [← fr.defers] at this; exact this)
    | exact hq.elim
theorem resC1 {s : Ro} {rs : List Asn} {fn : Func} {r ty : Nat} [T : OneC P ty] (i : Nat) {b t : Nat} {v : Value} (H : Holds s w rs) (h : fn.results = #[.cell r ty]) (hr : e r = .pointer (some ⟨b, 0, none⟩)) (hi : rs[i]? = some (var b t [v])) : ResE P fn e w v := fun a ha => by
  have hr' : a.tmps.getD r undef = .pointer (some ⟨b, 0, none⟩) := by rw [← hr, ← ha]; rfl
  rw [Array.getD_eq_getD_getElem?] at hr'
  have hc : w.cell? ⟨b, 0, none⟩ = some v := by rw [cell_of_row w b 0 _ _ _ (H.var hi)]; rfl
  obtain ⟨d, hu, hd⟩ := T.desc
  have hagg : (isAgg ty).run P w = .ok false w := by
    unfold isAgg
    rw [Sem.run_bind, run_underlying hu w]
    cases d <;> simp_all
  simp [results, h, hr', asAddr, loadVar, Sem.run_bind, hagg, hc]
/-- a return with no deferred call -/
theorem leaves0 {fn : Func} {R : Ending → World → Prop} {v : Value} (hv : ResE P fn e w v) (h : R (.returned v) w) : ∀ a, envOf a = e → Leaves P fn a.tmps R [] .returning w := fun a ha => ⟨v, hv a ha, h⟩
/-- a return with one deferred call -/
theorem leaves1 {fn : Func} {R R1 : Ending → World → Prop} {f : FuncId} {l m all : List Value} (F : FunC P f) (hall : l ++ m = all) (hc : CallsD P f all.toArray .returning w fun x u' w' => u' = .returning ∧ R1 x w')
    (h : ∀ x w', R1 x w' → ∃ v, x = .returned v ∧ ∃ v', ResE P fn e w' v' ∧ R (.returned v') w') : ∀ a, envOf a = e → Leaves P fn a.tmps R [⟨.fn (.func f) m.toArray, l.toArray⟩] .returning w := by
  intro a ha
  obtain ⟨fn2, c2, h1, h2, h3⟩ := F.fn
  refine leaves_cons (f := f) (args := all.toArray) (by simp) ?_ (hc.mono fun x u' w' ⟨hu, hR⟩ => ?_)
  · simp only [invoke, callFunc]
    have h2' : ¬ fn2.name = "runtime.NumGoroutine" := by simpa using h2
    simp [h1, h2', h3, ← hall]
  · obtain ⟨v, rfl, v', hv', hR'⟩ := h x w' hR
    subst hu
    exact ⟨v', hv' a ha, hR'⟩
/-- a deferred call by a walk of its body -/
theorem callsD {f : FuncId} {fn : Func} {c : Code} {args : List Value} {R : Ending → World → Prop} {u : FrameMode} (hf : P.funcs[f]? = some fn) (hb : fn.body = some c) (hn : fn.ntmps = n) (ha : Nat.ble args.length n = true) (h : C P n (bodyQ P fn R) c (env0 args) w) : CallsD P f args.toArray u w fun x u' w' => u' = u ∧ R x w' := by
  refine callsD_of_wp hf hb ?_
  have fr0 := frD0 (n := n) (args := args) hn ha
  refine Code.wp_mono (fun x a w' ⟨e', fr, hq⟩ => ?_) (h.go _ ⟨fr0.size, rfl, fr0.env⟩)
  cases x <;> first
      | (obtain ⟨v, h1, h2⟩ := hq; exact ⟨fr.defers, v, h1 a fr.env, h2⟩)
      | exact hq.elim
end
end Go.Own
set_option linter.unusedSimpArgs false
set_option linter.unusedVariables false
namespace Go.Proofs.YtbknpbihgfphaaaDoor
open Go Go.RowKit Go.Own
def recM (d : DM) (x : Ext) (m : WL) (l : List Ch) : DM × WL × Int :=
  if (run x (recSteps m.epoch m.used l) d).2 = 0 then ((run x (recSteps m.epoch m.used l) d).1, ⟨m.epoch, m.home, m.used + l.length + 1, applyL m.pages l, false⟩, 0)
  else ((run x (recSteps m.epoch m.used l) d).1, ⟨m.epoch, m.home, m.used, m.pages, true⟩, (run x (recSteps m.epoch m.used l) d).2)
def commitM (d : DM) (x : Ext) (m : WL) (l : List Ch) : DM × WL × Int :=
  if m.dead = true then (d, m, 9) else if validM l = false then (d, m, 1) else if l.length = 0 then (d, m, 0)
  else if 18 < m.used + l.length + 1 then
    (if m.epoch = 4294967295 then (d, m, 5)
    else if (run x (homeSteps (m.epoch + 1) (1 - m.home) m.pages) d).2 = 0 then recM (run x (homeSteps (m.epoch + 1) (1 - m.home) m.pages) d).1 x ⟨m.epoch + 1, 1 - m.home, 0, m.pages, false⟩ l
    else ((run x (homeSteps (m.epoch + 1) (1 - m.home) m.pages) d).1, ⟨m.epoch, m.home, m.used, m.pages, true⟩, (run x (homeSteps (m.epoch + 1) (1 - m.home) m.pages) d).2))
  else recM d x m l
theorem get_dead {a b c d : Value} {ps : List UInt8} {v : Value} (hl : ps.length = 640) : (a :: b :: c :: d :: (u8s ps ++ [v]))[644]? = some v := by
  simp only [List.getElem?_cons_succ]
  rw [List.getElem?_append_right (by rw [u8s_len, hl]; decide), u8s_len, hl]
  rfl
theorem set_dead {a b c d : Value} {ps : List UInt8} {v u : Value} (hl : ps.length = 640) : (a :: b :: c :: d :: (u8s ps ++ [v])).set 644 u = a :: b :: c :: d :: (u8s ps ++ [u]) := by
  simp only [List.set_cons_succ]
  rw [List.set_append_right _ _ (by rw [u8s_len, hl]; decide), u8s_len, hl]
  rfl
theorem len_dead {a b c d : Value} {ps : List UInt8} {v : Value} (hl : ps.length = 640) : Nat.blt 644 (a :: b :: c :: d :: (u8s ps ++ [v])).length = true := by
  have : (a :: b :: c :: d :: (u8s ps ++ [v])).length = 645 := by simp only [List.length_cons, List.length_append, u8s_len, hl, List.length_nil]
  rw [this]; rfl
theorem run_pend (x : Ext) : ∀ (l : List St) (d : DM), (run x l d).1.pend.length ≤ d.pend.length + l.length
  | [], d => by simp [run]
  | .w a b :: r, d => by
    have h1 := pend_pwriteW d x (a : Int) b
    rw [List.length_cons]
    by_cases h : (pwrite d x (a : Int) b).2 = 0
    · rw [run_ok x h]
      have := run_pend x r (pwrite d x (a : Int) b).1
      omega
    · rw [run_no x h]; omega
  | .f :: r, d => by
    have h1 := pend_flushW d
    rw [List.length_cons]
    by_cases h : d.flush.2 = 0
    · rw [run_fok x h]
      have := run_pend x r d.flush.1
      omega
    · rw [run_fno x h]; omega
theorem homeFrom_len (e h : Nat) (ps : List UInt8) : ∀ n i, (homeFrom e h ps n i).length = n + 3
  | 0, _ => rfl
  | n + 1, i => by rw [homeFrom, List.length_cons, homeFrom_len]
theorem homeSteps_len (e h : Nat) (ps : List UInt8) : (homeSteps e h ps).length = 19 := homeFrom_len e h ps 16 0
section
variable {s : Ro} {w : World} {R : List Asn} {b bp : Nat} {d : DM} {x : Ext}
set_option maxRecDepth 100000 in
set_option maxHeartbeats 1000000 in
theorem Commit1_l {bC bX bL e h u : Nat} {ps : List UInt8} {dd : Bool} {code : Int} (H : Holds s w (var bC 28 [.int .i64 code] :: var bX 71 [.pointer (some ⟨bL, 0, none⟩)] :: logW bL bp e h u ps dd :: R)) (hl : ps.length = 640) : CallsD Tryd.prog 78 #[.pointer (some ⟨bC, 0, none⟩), .pointer (some ⟨bX, 0, none⟩)] .returning w fun y u' w' => u' = .returning ∧ (y = .returned (.tuple #[]) ∧ Holds s w' (var bC 28 [.int .i64 code] :: var bX 71 [.pointer (some ⟨bL, 0, none⟩)] :: logW bL bp e h u ps (decide (code ≠ 0)) :: R)) := by
  unfold logW at H
  refine callsD Tryd.func78 rfl Tryd.ntmps78 rfl ?_
  by_cases hc0 : code = 0
  · rw [decide_eq_false (not_not_intro hc0)]
    repeat' (first | (refine K.store (v := .bool false) 2 H rfl rfl rfl rfl rfl (len_dead hl) ?_; rw [set_dead hl]; clear H; (try clear w); intro w H) | refine Z H ?_ | (refine Zc ?_ ?_ <;> intro hc <;> first | (exfalso; omega) | skip) | (refine Y ?_; try change C _ _ _ _ _ _) | (refine Zs H ?_; clear H; (try clear w); intro w H) | (refine Zn H ?_; clear H; (try clear w); intro _ w H) | (refine Ze H ?_; clear H; (try clear w); intro gv w H))
    exact ⟨_, res0 rfl, rfl, H⟩
  · rw [decide_eq_true hc0]
    repeat' (first | (refine K.store (v := .bool true) 2 H rfl rfl rfl rfl rfl (len_dead hl) ?_; rw [set_dead hl]; clear H; (try clear w); intro w H) | refine Z H ?_ | (refine Zc ?_ ?_ <;> intro hc <;> first | (exfalso; omega) | skip) | (refine Y ?_; try change C _ _ _ _ _ _) | (refine Zs H ?_; clear H; (try clear w); intro w H) | (refine Zn H ?_; clear H; (try clear w); intro _ w H) | (refine Ze H ?_; clear H; (try clear w); intro gv w H))
    exact ⟨_, res0 rfl, rfl, H⟩
set_option maxRecDepth 100000 in
set_option maxHeartbeats 1000000 in
theorem Commit_l {bL : Nat} {m : WL} {v : Value} {cs : List Value} {l : List Ch} (hN : Nib s) (H : Holds s w (logW bL bp m.epoch m.home m.used m.pages m.dead :: dsk b d :: R)) (hp : PartS s bp b x) (he : m.epoch < 2 ^ 32) (hh : m.home ≤ 1) (hu : m.used ≤ 18) (hl : m.pages.length = 640) (hcS : SlS s v 2 l.length cs) (hch : ChS s cs l) (hn : l.length ≤ 1000) (hpl : d.pend.length ≤ 10000) : Calls Tryd.prog 37 #[.pointer (some ⟨bL, 0, none⟩), v] w fun y w' => y = .returned (.int .i64 (commitM d x m l).2.2) ∧ Holds s w' (logW bL bp (commitM d x m l).2.1.epoch (commitM d x m l).2.1.home (commitM d x m l).2.1.used (commitM d x m l).2.1.pages (commitM d x m l).2.1.dead :: dsk b (commitM d x m l).1 :: R) := by
  obtain ⟨e, h, u, ps, dd⟩ := m
  have hc' := hcS
  obtain ⟨va, vc, rfl, _⟩ := hc'
  dsimp only at *
  unfold logW at H
  unfold commitM
  dsimp only
  refine enterD Tryd.func37 rfl Tryd.ntmps37 rfl ?_
  cases dd with
  | true =>
    rw [if_pos rfl]
    repeat' (first | refine D.seq ?_ | refine D.region ?_ | (refine LD.nil ?_; change D _ _ _ _ _ _ _) | (refine D.skip ?_; change D _ _ _ _ _ _ _) | refine D.tru ?_ | refine D.fls ?_ | refine LD.not ?_ | refine LD.len ?_ | refine LD.nchk ?_ | (refine LD.one rfl ?_; repeat' (first |  (refine K.load (v := .bool true) 2 H rfl rfl rfl rfl (get_dead hl) ?_) | refine Z H ?_ | (refine Zc ?_ ?_ <;> intro hc <;> first | (exfalso; omega) | skip) | (refine Y ?_; try change C _ _ _ _ _ _) | (refine Zs H ?_; clear H; (try clear w); intro w H) | (refine Zn H ?_; clear H; (try clear w); intro _ w H) | (refine Ze H ?_; clear H; (try clear w); intro gv w H)); all_goals (first | refine L.nil ⟨rfl, ?_⟩ | refine ⟨rfl, ?_⟩)))
    refine D.ret (leaves0 (resC1 0 H rfl rfl rfl) ⟨rfl, H.tail.tail⟩)
  | false =>
    rw [if_neg (by decide)]
    repeat' (first | refine D.seq ?_ | refine D.region ?_ | (refine LD.nil ?_; change D _ _ _ _ _ _ _) | (refine D.skip ?_; change D _ _ _ _ _ _ _) | refine D.tru ?_ | refine D.fls ?_ | refine LD.not ?_ | refine LD.len ?_ | refine LD.nchk ?_ | (refine LD.one rfl ?_; repeat' (first |  (refine K.load (v := .bool false) 2 H rfl rfl rfl rfl (get_dead hl) ?_) | refine Z H ?_ | (refine Zc ?_ ?_ <;> intro hc <;> first | (exfalso; omega) | skip) | (refine Y ?_; try change C _ _ _ _ _ _) | (refine Zs H ?_; clear H; (try clear w); intro w H) | (refine Zn H ?_; clear H; (try clear w); intro _ w H) | (refine Ze H ?_; clear H; (try clear w); intro gv w H)); all_goals (first | refine L.nil ⟨rfl, ?_⟩ | refine ⟨rfl, ?_⟩)))
    rename_i bX bC
    refine LD.call (valid_l H hcS hch hn) ?_
    clear H
    rintro _ w ⟨rfl, H⟩
    refine ⟨_, rfl, ?_⟩
    cases hvm : validM l with
    | false =>
      rw [if_pos rfl]
      repeat' (first | refine D.seq ?_ | refine D.region ?_ | (refine LD.nil ?_; change D _ _ _ _ _ _ _) | (refine D.skip ?_; change D _ _ _ _ _ _ _) | refine D.tru ?_ | refine D.fls ?_ | refine LD.not ?_ | refine LD.len ?_ | refine LD.nchk ?_ | (refine LD.one rfl ?_; repeat' (first | refine Z H ?_ | (refine Zc ?_ ?_ <;> intro hc <;> first | (exfalso; omega) | skip) | (refine Y ?_; try change C _ _ _ _ _ _) | (refine Zs H ?_; clear H; (try clear w); intro w H) | (refine Zn H ?_; clear H; (try clear w); intro _ w H) | (refine Ze H ?_; clear H; (try clear w); intro gv w H)); all_goals (first | refine L.nil ⟨rfl, ?_⟩ | refine ⟨rfl, ?_⟩)))
      refine D.ret (leaves0 (resC1 0 H rfl rfl rfl) ⟨rfl, H.tail.tail⟩)
    | true =>
      rw [if_neg (by decide)]
      obtain ⟨hv16, hok⟩ := validM_ok hvm
      by_cases hl0 : l.length = 0
      · rw [if_pos hl0]
        repeat' (first | refine D.seq ?_ | refine D.region ?_ | (refine LD.nil ?_; change D _ _ _ _ _ _ _) | (refine D.skip ?_; change D _ _ _ _ _ _ _) | refine D.tru ?_ | refine D.fls ?_ | refine LD.not ?_ | refine LD.len ?_ | refine LD.nchk ?_ | (refine LD.one rfl ?_; repeat' (first | refine Z H ?_ | (refine Zc ?_ ?_ <;> intro hc <;> first | (exfalso; omega) | skip) | (refine Y ?_; try change C _ _ _ _ _ _) | (refine Zs H ?_; clear H; (try clear w); intro w H) | (refine Zn H ?_; clear H; (try clear w); intro _ w H) | (refine Ze H ?_; clear H; (try clear w); intro gv w H)); all_goals (first | refine L.nil ⟨rfl, ?_⟩ | refine ⟨rfl, ?_⟩)))
        refine D.ret (leaves0 (resC1 0 H rfl rfl rfl) ⟨rfl, H.tail.tail⟩)
      · rw [if_neg hl0]
        by_cases hfull : 18 < u + l.length + 1
        · rw [if_pos hfull]
          by_cases hmax : e = 4294967295
          · rw [if_pos hmax]
            repeat' (first | refine D.seq ?_ | refine D.region ?_ | (refine LD.nil ?_; change D _ _ _ _ _ _ _) | (refine D.skip ?_; change D _ _ _ _ _ _ _) | refine D.tru ?_ | refine D.fls ?_ | refine LD.not ?_ | refine LD.len ?_ | refine LD.nchk ?_ | (refine LD.one rfl ?_; repeat' (first | refine Z H ?_ | (refine Zc ?_ ?_ <;> intro hc <;> first | (exfalso; omega) | skip) | (refine Y ?_; try change C _ _ _ _ _ _) | (refine Zs H ?_; clear H; (try clear w); intro w H) | (refine Zn H ?_; clear H; (try clear w); intro _ w H) | (refine Ze H ?_; clear H; (try clear w); intro gv w H)); all_goals (first | refine L.nil ⟨rfl, ?_⟩ | refine ⟨rfl, ?_⟩)))
            refine D.ret (leaves0 (resC1 0 H rfl rfl rfl) ⟨rfl, H.tail.tail⟩)
          · rw [if_neg hmax]
            repeat' (first | refine D.seq ?_ | refine D.region ?_ | (refine LD.nil ?_; change D _ _ _ _ _ _ _) | (refine D.skip ?_; change D _ _ _ _ _ _ _) | refine D.tru ?_ | refine D.fls ?_ | refine LD.not ?_ | refine LD.len ?_ | refine LD.nchk ?_ | (refine LD.one rfl ?_; repeat' (first |  (refine B.fn ?_) | refine Z H ?_ | (refine Zc ?_ ?_ <;> intro hc <;> first | (exfalso; omega) | skip) | (refine Y ?_; try change C _ _ _ _ _ _) | (refine Zs H ?_; clear H; (try clear w); intro w H) | (refine Zn H ?_; clear H; (try clear w); intro _ w H) | (refine Ze H ?_; clear H; (try clear w); intro gv w H)); all_goals (first | refine L.nil ⟨rfl, ?_⟩ | refine ⟨rfl, ?_⟩)))
            refine LD.defer ?_
            repeat' (first | refine D.seq ?_ | refine D.region ?_ | (refine LD.nil ?_; change D _ _ _ _ _ _ _) | (refine D.skip ?_; change D _ _ _ _ _ _ _) | refine D.tru ?_ | refine D.fls ?_ | refine LD.not ?_ | refine LD.len ?_ | refine LD.nchk ?_ | (refine LD.one rfl ?_; repeat' (first | refine Z H ?_ | (refine Zc ?_ ?_ <;> intro hc <;> first | (exfalso; omega) | skip) | (refine Y ?_; try change C _ _ _ _ _ _) | (refine Zs H ?_; clear H; (try clear w); intro w H) | (refine Zn H ?_; clear H; (try clear w); intro _ w H) | (refine Ze H ?_; clear H; (try clear w); intro gv w H)); all_goals (first | refine L.nil ⟨rfl, ?_⟩ | refine ⟨rfl, ?_⟩)))
            refine LD.call (checkpoint_l hN (H.arr (rs' := logW bL bp e h u ps false :: dsk b d :: var bC 28 [.int .i64 0] :: var bX 71 [.pointer (some ⟨bL, 0, none⟩)] :: R)) hp (by omega) hh hl (by omega)) ?_
            clear H
            rintro _ w ⟨rfl, H⟩
            refine ⟨_, rfl, ?_⟩
            have hpr := run_pend x (homeSteps (e + 1) (1 - h) ps) d
            rw [homeSteps_len] at hpr
            by_cases h8 : (run x (homeSteps (e + 1) (1 - h) ps) d).2 = 0
            · rw [if_pos h8] at H ⊢
              rw [h8]
              generalize (run x (homeSteps (e + 1) (1 - h) ps) d).1 = dy at *
              repeat' (first | refine D.seq ?_ | refine D.region ?_ | (refine LD.nil ?_; change D _ _ _ _ _ _ _) | (refine D.skip ?_; change D _ _ _ _ _ _ _) | refine D.tru ?_ | refine D.fls ?_ | refine LD.not ?_ | refine LD.len ?_ | refine LD.nchk ?_ | (refine LD.one rfl ?_; repeat' (first | refine Z H ?_ | (refine Zc ?_ ?_ <;> intro hc <;> first | (exfalso; omega) | skip) | (refine Y ?_; try change C _ _ _ _ _ _) | (refine Zs H ?_; clear H; (try clear w); intro w H) | (refine Zn H ?_; clear H; (try clear w); intro _ w H) | (refine Ze H ?_; clear H; (try clear w); intro gv w H)); all_goals (first | refine L.nil ⟨rfl, ?_⟩ | refine ⟨rfl, ?_⟩)))
              refine LD.call (record_l (e := e + 1) (h := 1 - h) (u := 0) hN (H.arr (rs' := logW bL bp (e + 1) (1 - h) 0 ps false :: dsk b dy :: var bC 28 [.int .i64 0] :: var bX 71 [.pointer (some ⟨bL, 0, none⟩)] :: R)) hp (by omega) hl hcS hch hok (by omega) (by omega)) ?_
              clear H
              rintro _ w ⟨rfl, H⟩
              refine ⟨_, rfl, ?_⟩
              unfold recM
              dsimp only
              by_cases h9 : (run x (recSteps (e + 1) (0) l) dy).2 = 0
              · rw [if_pos h9] at H ⊢
                rw [h9]
                generalize (run x (recSteps (e + 1) (0) l) dy).1 = dz at *
                repeat' (first | refine D.seq ?_ | refine D.region ?_ | (refine LD.nil ?_; change D _ _ _ _ _ _ _) | (refine D.skip ?_; change D _ _ _ _ _ _ _) | refine D.tru ?_ | refine D.fls ?_ | refine LD.not ?_ | refine LD.len ?_ | refine LD.nchk ?_ | (refine LD.one rfl ?_; repeat' (first | refine Z H ?_ | (refine Zc ?_ ?_ <;> intro hc <;> first | (exfalso; omega) | skip) | (refine Y ?_; try change C _ _ _ _ _ _) | (refine Zs H ?_; clear H; (try clear w); intro w H) | (refine Zn H ?_; clear H; (try clear w); intro _ w H) | (refine Ze H ?_; clear H; (try clear w); intro gv w H)); all_goals (first | refine L.nil ⟨rfl, ?_⟩ | refine ⟨rfl, ?_⟩)))
                have H' := H.arr (rs' := var bC 28 [.int .i64 0] :: var bX 71 [.pointer (some ⟨bL, 0, none⟩)] :: logW bL bp (e + 1) (1 - h) (0 + l.length + 1) (applyL ps l) false :: dsk b dz :: R)
                refine D.ret (leaves1 (l := []) (m := [.pointer (some ⟨bC, 0, none⟩), .pointer (some ⟨bX, 0, none⟩)]) inferInstance rfl (Commit1_l H' (by exact applyL_len hok hl)) ?_)
                rintro _ w' ⟨rfl, H2⟩
                exact ⟨_, rfl, _, resC1 0 H2 rfl rfl rfl, rfl, by exact H2.tail.tail⟩
              · rw [if_neg h9] at H ⊢
                generalize run x (recSteps (e + 1) (0) l) dy = rr at *
                obtain ⟨dz, code⟩ := rr
                dsimp only at H h9 ⊢
                repeat' (first | refine D.seq ?_ | refine D.region ?_ | (refine LD.nil ?_; change D _ _ _ _ _ _ _) | (refine D.skip ?_; change D _ _ _ _ _ _ _) | refine D.tru ?_ | refine D.fls ?_ | refine LD.not ?_ | refine LD.len ?_ | refine LD.nchk ?_ | (refine LD.one rfl ?_; repeat' (first | refine Z H ?_ | (refine Zc ?_ ?_ <;> intro hc <;> first | (exfalso; omega) | skip) | (refine Y ?_; try change C _ _ _ _ _ _) | (refine Zs H ?_; clear H; (try clear w); intro w H) | (refine Zn H ?_; clear H; (try clear w); intro _ w H) | (refine Ze H ?_; clear H; (try clear w); intro gv w H)); all_goals (first | refine L.nil ⟨rfl, ?_⟩ | refine ⟨rfl, ?_⟩)))
                have H' := H.arr (rs' := var bC 28 [.int .i64 code] :: var bX 71 [.pointer (some ⟨bL, 0, none⟩)] :: logW bL bp (e + 1) (1 - h) (0) ps false :: dsk b dz :: R)
                refine D.ret (leaves1 (l := []) (m := [.pointer (some ⟨bC, 0, none⟩), .pointer (some ⟨bX, 0, none⟩)]) inferInstance rfl (Commit1_l H' (by exact hl)) ?_)
                rintro _ w' ⟨rfl, H2⟩
                exact ⟨_, rfl, _, resC1 0 H2 rfl rfl rfl, rfl, by rw [decide_eq_true h9] at H2; exact H2.tail.tail⟩
            · rw [if_neg h8] at H ⊢
              generalize run x (homeSteps (e + 1) (1 - h) ps) d = rr at *
              obtain ⟨dz, code⟩ := rr
              dsimp only at H h8 ⊢
              repeat' (first | refine D.seq ?_ | refine D.region ?_ | (refine LD.nil ?_; change D _ _ _ _ _ _ _) | (refine D.skip ?_; change D _ _ _ _ _ _ _) | refine D.tru ?_ | refine D.fls ?_ | refine LD.not ?_ | refine LD.len ?_ | refine LD.nchk ?_ | (refine LD.one rfl ?_; repeat' (first | refine Z H ?_ | (refine Zc ?_ ?_ <;> intro hc <;> first | (exfalso; omega) | skip) | (refine Y ?_; try change C _ _ _ _ _ _) | (refine Zs H ?_; clear H; (try clear w); intro w H) | (refine Zn H ?_; clear H; (try clear w); intro _ w H) | (refine Ze H ?_; clear H; (try clear w); intro gv w H)); all_goals (first | refine L.nil ⟨rfl, ?_⟩ | refine ⟨rfl, ?_⟩)))
              have H' := H.arr (rs' := var bC 28 [.int .i64 code] :: var bX 71 [.pointer (some ⟨bL, 0, none⟩)] :: logW bL bp e h u ps false :: dsk b dz :: R)
              refine D.ret (leaves1 (l := []) (m := [.pointer (some ⟨bC, 0, none⟩), .pointer (some ⟨bX, 0, none⟩)]) inferInstance rfl (Commit1_l H' (by exact hl)) ?_)
              rintro _ w' ⟨rfl, H2⟩
              exact ⟨_, rfl, _, resC1 0 H2 rfl rfl rfl, rfl, by rw [decide_eq_true h8] at H2; exact H2.tail.tail⟩
        · rw [if_neg hfull]
          repeat' (first | refine D.seq ?_ | refine D.region ?_ | (refine LD.nil ?_; change D _ _ _ _ _ _ _) | (refine D.skip ?_; change D _ _ _ _ _ _ _) | refine D.tru ?_ | refine D.fls ?_ | refine LD.not ?_ | refine LD.len ?_ | refine LD.nchk ?_ | (refine LD.one rfl ?_; repeat' (first |  (refine B.fn ?_) | refine Z H ?_ | (refine Zc ?_ ?_ <;> intro hc <;> first | (exfalso; omega) | skip) | (refine Y ?_; try change C _ _ _ _ _ _) | (refine Zs H ?_; clear H; (try clear w); intro w H) | (refine Zn H ?_; clear H; (try clear w); intro _ w H) | (refine Ze H ?_; clear H; (try clear w); intro gv w H)); all_goals (first | refine L.nil ⟨rfl, ?_⟩ | refine ⟨rfl, ?_⟩)))
          refine LD.defer ?_
          repeat' (first | refine D.seq ?_ | refine D.region ?_ | (refine LD.nil ?_; change D _ _ _ _ _ _ _) | (refine D.skip ?_; change D _ _ _ _ _ _ _) | refine D.tru ?_ | refine D.fls ?_ | refine LD.not ?_ | refine LD.len ?_ | refine LD.nchk ?_ | (refine LD.one rfl ?_; repeat' (first | refine Z H ?_ | (refine Zc ?_ ?_ <;> intro hc <;> first | (exfalso; omega) | skip) | (refine Y ?_; try change C _ _ _ _ _ _) | (refine Zs H ?_; clear H; (try clear w); intro w H) | (refine Zn H ?_; clear H; (try clear w); intro _ w H) | (refine Ze H ?_; clear H; (try clear w); intro gv w H)); all_goals (first | refine L.nil ⟨rfl, ?_⟩ | refine ⟨rfl, ?_⟩)))
          refine LD.call (record_l (e := e) (h := h) (u := u) hN (H.arr (rs' := logW bL bp e h u ps false :: dsk b d :: var bC 28 [.int .i64 0] :: var bX 71 [.pointer (some ⟨bL, 0, none⟩)] :: R)) hp (by omega) hl hcS hch hok (by omega) (by omega)) ?_
          clear H
          rintro _ w ⟨rfl, H⟩
          refine ⟨_, rfl, ?_⟩
          unfold recM
          dsimp only
          by_cases h9 : (run x (recSteps (e) (u) l) d).2 = 0
          · rw [if_pos h9] at H ⊢
            rw [h9]
            generalize (run x (recSteps (e) (u) l) d).1 = dz at *
            repeat' (first | refine D.seq ?_ | refine D.region ?_ | (refine LD.nil ?_; change D _ _ _ _ _ _ _) | (refine D.skip ?_; change D _ _ _ _ _ _ _) | refine D.tru ?_ | refine D.fls ?_ | refine LD.not ?_ | refine LD.len ?_ | refine LD.nchk ?_ | (refine LD.one rfl ?_; repeat' (first | refine Z H ?_ | (refine Zc ?_ ?_ <;> intro hc <;> first | (exfalso; omega) | skip) | (refine Y ?_; try change C _ _ _ _ _ _) | (refine Zs H ?_; clear H; (try clear w); intro w H) | (refine Zn H ?_; clear H; (try clear w); intro _ w H) | (refine Ze H ?_; clear H; (try clear w); intro gv w H)); all_goals (first | refine L.nil ⟨rfl, ?_⟩ | refine ⟨rfl, ?_⟩)))
            have H' := H.arr (rs' := var bC 28 [.int .i64 0] :: var bX 71 [.pointer (some ⟨bL, 0, none⟩)] :: logW bL bp (e) (h) (u + l.length + 1) (applyL ps l) false :: dsk b dz :: R)
            refine D.ret (leaves1 (l := []) (m := [.pointer (some ⟨bC, 0, none⟩), .pointer (some ⟨bX, 0, none⟩)]) inferInstance rfl (Commit1_l H' (by exact applyL_len hok hl)) ?_)
            rintro _ w' ⟨rfl, H2⟩
            exact ⟨_, rfl, _, resC1 0 H2 rfl rfl rfl, rfl, by exact H2.tail.tail⟩
          · rw [if_neg h9] at H ⊢
            generalize run x (recSteps (e) (u) l) d = rr at *
            obtain ⟨dz, code⟩ := rr
            dsimp only at H h9 ⊢
            repeat' (first | refine D.seq ?_ | refine D.region ?_ | (refine LD.nil ?_; change D _ _ _ _ _ _ _) | (refine D.skip ?_; change D _ _ _ _ _ _ _) | refine D.tru ?_ | refine D.fls ?_ | refine LD.not ?_ | refine LD.len ?_ | refine LD.nchk ?_ | (refine LD.one rfl ?_; repeat' (first | refine Z H ?_ | (refine Zc ?_ ?_ <;> intro hc <;> first | (exfalso; omega) | skip) | (refine Y ?_; try change C _ _ _ _ _ _) | (refine Zs H ?_; clear H; (try clear w); intro w H) | (refine Zn H ?_; clear H; (try clear w); intro _ w H) | (refine Ze H ?_; clear H; (try clear w); intro gv w H)); all_goals (first | refine L.nil ⟨rfl, ?_⟩ | refine ⟨rfl, ?_⟩)))
            have H' := H.arr (rs' := var bC 28 [.int .i64 code] :: var bX 71 [.pointer (some ⟨bL, 0, none⟩)] :: logW bL bp (e) (h) (u) ps false :: dsk b dz :: R)
            refine D.ret (leaves1 (l := []) (m := [.pointer (some ⟨bC, 0, none⟩), .pointer (some ⟨bX, 0, none⟩)]) inferInstance rfl (Commit1_l H' (by exact hl)) ?_)
            rintro _ w' ⟨rfl, H2⟩
            exact ⟨_, rfl, _, resC1 0 H2 rfl rfl rfl, rfl, by rw [decide_eq_true h9] at H2; exact H2.tail.tail⟩
end
end Go.Proofs.YtbknpbihgfphaaaDoor
set_option linter.unusedSimpArgs false
set_option linter.unusedVariables false
namespace Go.Proofs.YtbknpbihgfphaaaDoor
open Go Go.RowKit Go.Own
theorem numI_put (v size : Nat) : ∀ i, i ≤ size → numI (putN v size) i = v % 2 ^ (8 * i)
  | 0, _ => by simp [numI, Nat.mod_one]
  | i + 1, h => by
    have hg : (putN v size)[i]?.getD 0 = byteAt v i := by simp [putN, show i < size by omega]
    have hb : (byteAt v i).toNat = v / 2 ^ (8 * i) % 2 ^ 8 := by simp [byteAt, Nat.shiftRight_eq_div_pow]
    rw [numI, hg, numI_put v size i (by omega), hb, Nat.or_comm, ← Nat.shiftLeft_add_eq_or_of_lt (Nat.mod_lt _ (Nat.two_pow_pos _)), Nat.shiftLeft_eq, Nat.mul_add, Nat.pow_add, Nat.mul_one, Nat.mod_mul, Nat.add_comm, Nat.mul_comm (v / 2 ^ (8 * i) % 2 ^ 8)]
theorem numN_put (v size : Nat) : numN (putN v size) = v % 2 ^ (8 * size) := by
  unfold numN; rw [putN_len]; exact numI_put v size size (Nat.le_refl _)
theorem open_seal (c : List UInt8) : openL (sealL c) = (c, 0) := by
  have hl : (sealL c).length = c.length + 4 := by simp [sealL, putN_len]
  have ht : (sealL c).take ((sealL c).length - 4) = c := by rw [hl, Nat.add_sub_cancel, sealL, List.take_left]
  have hd : (sealL c).drop ((sealL c).length - 4) = putN (crcOn 0 c) 4 := by rw [hl, Nat.add_sub_cancel, sealL, List.drop_left]
  unfold openL
  rw [ht, hd, if_neg (by omega), if_pos (by rw [numN_put]; exact Nat.mod_eq_of_lt (on_lt (by decide) c))]
theorem secE_len (n : Nat) (x : En) : (secE n x).length = 64 := secN_len _ _ _ _ _
/-- a disk that is on, and not armed -/
structure Fr0 (N : Nat) (d : DM) : Prop where
  off : d.off = false
  arm : d.armed = false
  len : d.secs.length = N
theorem lay_cur0 (p : List (Nat × List UInt8)) : ∀ (s : List (List UInt8)) (k : Nat), k < s.length → (layAll s p)[k]?.getD [] = p.foldl (fun c q => if q.1 = k then q.2 else c) (s[k]?.getD []) := by
  induction p with
  | nil => intro s k _; rfl
  | cons q p ih =>
    intro s k hk
    have e : layAll s (q :: p) = layAll (s.set q.1 q.2) p := rfl
    rw [e, ih _ k (by simpa using hk), List.foldl_cons]
    congr 1
    by_cases h : q.1 = k
    · subst h; rw [if_pos rfl, List.getElem?_set_self hk]; rfl
    · rw [if_neg h, List.getElem?_set_ne h]
theorem Fr0.flush {N : Nat} {d : DM} (h : Fr0 N d) : d.flush.2 = 0 ∧ Fr0 N d.flush.1 ∧ d.flush.1.pend = [] ∧ ∀ k, k < N → d.flush.1.cur k = d.cur k := by
  have e : d.flush = ({ d with secs := layAll d.secs d.pend, pend := [] }, 0) := by simp [DM.flush, powered_free h.off h.arm]
  rw [e]
  refine ⟨rfl, ⟨h.off, h.arm, by simp only [layAll_len]; exact h.len⟩, rfl, fun k hk => ?_⟩
  simp only [DM.cur, DM.sec, List.foldl_nil]
  exact lay_cur0 d.pend d.secs k (by rw [h.len]; exact hk)
theorem place_inN {f c n : Nat} (hn : n < c) (h : f + c ≤ 1000) : placeM (f : Int) (c : Int) (n : Int) = (((f + n : Nat) : Int), 0) := by
  unfold placeM
  rw [if_neg (by omega), if_neg (by omega)]
  simp
theorem Fr0.pwrite {N : Nat} {d : DM} (h : Fr0 N d) {f c n : Nat} {l : List UInt8} (hn : n < c) (hf : f + c ≤ N) (hN : N ≤ 1000) (hl : l.length = 64) : pwrite d ((f : Int), (c : Int)) (n : Int) l = (wr1 d (f + n) l, 0) := by
  unfold Go.Proofs.YtbknpbihgfphaaaDoor.pwrite
  simp only
  rw [place_inN hn (by omega)]
  simp only [if_true]
  have hib : d.inB ((f + n : Nat) : Int) = true := by simp only [DM.inB, decide_eq_true_eq]; rw [h.len]; omega
  unfold DM.write
  rw [if_pos hib, if_pos hl, powered_free h.off h.arm, if_pos rfl, Int.toNat_natCast]
  rfl
theorem Fr0.wr1 {N : Nat} {d : DM} (h : Fr0 N d) (k : Nat) (l : List UInt8) : Fr0 N (Go.Proofs.YtbknpbihgfphaaaDoor.wr1 d k l) := ⟨h.off, h.arm, h.len⟩
theorem Fr0.pread {N : Nat} {d : DM} (h : Fr0 N d) {f c n : Nat} (hn : n < c) (hf : f + c ≤ N) (hN : N ≤ 1000) : pread d ((f : Int), (c : Int)) (n : Int) = (d.cur (f + n), 0) := by
  unfold Go.Proofs.YtbknpbihgfphaaaDoor.pread
  simp only
  rw [place_inN hn (by omega)]
  simp only [if_true]
  exact read_free h.off (by rw [h.len]; omega)
theorem Fr0.new {N : Nat} : Fr0 N (DM.new N) := ⟨rfl, rfl, by simp [DM.new]⟩
/-- a log without a failure, on a free disk -/
structure Lg (N f c : Nat) (d : DM) (m : AL) : Prop where
  fr : Fr0 N d
  pd : d.pend = []
  dead : m.dead = false
  len : m.ents.length ≤ c
  sec : ∀ i (h : i < m.ents.length), d.cur (f + i) = secE i m.ents[i]
  out : ∀ k, k < N → (k < f ∨ f + m.ents.length ≤ k) → d.cur k = List.replicate 64 0
theorem Lg.new {N f c : Nat} : Lg N f c (DM.new N) ⟨[], false⟩ := ⟨Fr0.new, rfl, rfl, Nat.zero_le _, fun i h => by simp at h, fun k hk _ => new_cur hk⟩
theorem Lg.add {N f c : Nat} {d : DM} {m : AL} (h : Lg N f c d m) (hf : f + c ≤ N) (hN : N ≤ 1000) (e : En) :
    Lg N f c (addA d ((f : Int), (c : Int)) m e).1 (addA d ((f : Int), (c : Int)) m e).2.1 ∧
    ((addA d ((f : Int), (c : Int)) m e).2.2 = 1 ∧ e.valid = false ∧ (addA d ((f : Int), (c : Int)) m e).2.1 = m ∨
     (addA d ((f : Int), (c : Int)) m e).2.2 = 5 ∧ e.valid = true ∧ m.ents.length = c ∧ (addA d ((f : Int), (c : Int)) m e).2.1 = m ∨
     (addA d ((f : Int), (c : Int)) m e).2.2 = 0 ∧ e.valid = true ∧ m.ents.length < c ∧ (addA d ((f : Int), (c : Int)) m e).2.1 = ⟨m.ents ++ [e], false⟩) := by
  have hd := h.dead
  unfold addA
  rw [if_neg (by rw [hd]; decide)]
  by_cases hv : e.valid = false
  · rw [if_pos hv]; exact ⟨h, .inl ⟨rfl, hv, rfl⟩⟩
  have hv' : e.valid = true := by cases hq : e.valid with | true => rfl | false => exact absurd hq hv
  rw [if_neg hv]
  have hlen := h.len
  by_cases hfull : (c : Int) ≤ (m.ents.length : Int)
  · rw [if_pos hfull]; exact ⟨h, .inr (.inl ⟨rfl, hv', by omega, rfl⟩)⟩
  rw [if_neg hfull]
  have hw := h.fr.pwrite (n := m.ents.length) (l := secE m.ents.length e) (by omega) hf hN (secE_len _ _)
  rw [hw]
  obtain ⟨f1, f2, f3, f4⟩ := (h.fr.wr1 (f + m.ents.length) (secE m.ents.length e)).flush
  simp only [if_true]
  rw [f1, if_pos rfl]
  refine ⟨⟨f2, f3, rfl, by simp; omega, fun i hi => ?_, fun k hk ho => ?_⟩, .inr (.inr ⟨rfl, hv', by omega, rfl⟩)⟩
  · simp only [List.length_append, List.length_cons, List.length_nil] at hi
    rw [f4 _ (by omega), cur_wr1]
    by_cases hie : i = m.ents.length
    · subst hie; rw [if_pos rfl]; simp
    · rw [if_neg (by omega), h.sec i (by omega)]
      simp only
      rw [List.getElem_append_left]
  · simp only [List.length_append, List.length_cons, List.length_nil] at ho
    rw [f4 _ hk, cur_wr1, if_neg (by omega)]
    exact h.out k hk (by omega)
end Go.Proofs.YtbknpbihgfphaaaDoor

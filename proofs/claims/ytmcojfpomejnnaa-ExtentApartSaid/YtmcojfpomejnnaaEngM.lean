/- The rules of the quick walk: memory in pieces, the way into a function and out of it, regions that draw their order. Over any program. -/
import Derived.Test.YtmcojfpomejnnaaEngO
set_option linter.unusedSimpArgs false
set_option linter.unusedVariables false
namespace Go.Own
open Go Go.RowKit

def env0 : List Value → Env
  | [], _ => undef
  | v :: _, 0 => v
  | _ :: r, t + 1 => env0 r t
def ResE (P : Program) (fn : Func) (e : Env) (w : World) (v : Value) : Prop := ∀ a, envOf a = e → (results fn a.tmps).run P w = .ok v w
def bodyQ (P : Program) (fn : Func) (R : Ending → World → Prop) : Post := fun x e w => match x with
  | .normal => ∃ v, ResE P fn e w v ∧ R (.returned v) w
  | .ret => ∃ v, ResE P fn e w v ∧ R (.returned v) w
  | _ => False

section
variable {P : Program} {n : Nat} {ops : Array Oper} {Q : Post} {rest : List Oper} {o : Oper} {e : Env} {w w' : World} {s : Ro} {rs : List Asn}

theorem env0_get : ∀ (l : List Value) (t : Nat), env0 l t = l[t]?.getD undef
  | [], t => by simp [env0]
  | v :: r, 0 => by simp [env0]
  | v :: r, t + 1 => by simp only [env0, List.getElem?_cons_succ]; exact env0_get r t

theorem enter {f : FuncId} {fn : Func} {c : Code} {args : List Value} {R : Ending → World → Prop} (hf : P.funcs[f]? = some fn) (hb : fn.body = some c) (hn : fn.ntmps = n) (ha : Nat.ble args.length n = true) (h : C P n (bodyQ P fn R) c (env0 args) w) : Calls P f args.toArray w R := by
  refine calls_of_wp hf hb ?_
  have hle : args.length ≤ n := Nat.le_of_ble_eq_true ha
  have fr0 : Fr n { tmps := args.toArray ++ Array.replicate (fn.ntmps - args.toArray.size) undef, defers := [] } (env0 args) := by
    refine ⟨by simp [hn]; omega, rfl, ?_⟩
    funext t
    rw [env0_get]
    simp only [envOf, Array.getD_eq_getD_getElem?, Array.getElem?_append, List.size_toArray, List.getElem?_toArray]
    by_cases ht : t < args.length
    · simp [ht]
    · rw [if_neg ht, List.getElem?_eq_none (by omega)]
      simp only [Array.getElem?_replicate]
      split <;> rfl
  refine Code.wp_mono (fun x a w' ⟨e', fr, hq⟩ => ?_) (h.go _ fr0)
  cases x <;> first
      | (obtain ⟨v, h1, h2⟩ := hq; exact ⟨fr.defers, v, h1 a fr.env, h2⟩)
      | exact hq.elim

theorem res0 {fn : Func} (h : fn.results = #[]) : ResE P fn e w (.tuple #[]) := fun a ha => results_none h _ _ _
theorem resT {fn : Func} {t : Nat} (h : fn.results = #[.tmp t]) : ResE P fn e w (e t) := fun a ha => by rw [results_tmp h]; rw [← ha]; rfl
theorem resTT {fn : Func} {t u : Nat} (h : fn.results = #[.tmp t, .tmp u]) : ResE P fn e w (.tuple #[e t, e u]) := fun a ha => by rw [results_tmp2 h]; rw [← ha]; rfl
theorem resTTT {fn : Func} {t u v : Nat} (h : fn.results = #[.tmp t, .tmp u, .tmp v]) : ResE P fn e w (.tuple #[e t, e u, e v]) := fun a ha => by subst ha; simp [results, h, envOf]
theorem run_cell {ty b off : Nat} {k : Nat} [T : RowC P ty k] {t i : Nat} {cs : List Value} (H : Holds s w rs) (hi : rs[i]? = some (var b t cs)) (hn : cs.length = k) : (loadVar ty ⟨b, 0, none⟩).run P w = .ok (.agg cs.toArray) w := by
  obtain ⟨d, hu, hd⟩ := T.desc
  exact run_loadVar_mid w b 0 ty cs d (fun j v hv => by rw [cell_of_row w b _ _ _ _ (H.var hi)]; simpa using hv) hu hd (by rw [hn]; exact T.size)
theorem resC {fn : Func} {r ty k : Nat} [T : RowC P ty k] (i : Nat) {b t : Nat} {cs : List Value} (H : Holds s w rs) (h : fn.results = #[.cell r ty]) (hr : e r = .pointer (some ⟨b, 0, none⟩)) (hi : rs[i]? = some (var b t cs)) (hn : cs.length = k) : ResE P fn e w (.agg cs.toArray) := fun a ha => by
  have hr' : a.tmps.getD r undef = .pointer (some ⟨b, 0, none⟩) := by rw [← hr, ← ha]; rfl
  rw [Array.getD_eq_getD_getElem?] at hr'
  have := run_cell (P := P) (ty := ty) (off := 0) H hi hn
  simp [results, h, hr', asAddr, this]
theorem resCT {fn : Func} {r ty k u : Nat} [T : RowC P ty k] (i : Nat) {b t : Nat} {cs : List Value} (H : Holds s w rs) (h : fn.results = #[.cell r ty, .tmp u]) (hr : e r = .pointer (some ⟨b, 0, none⟩)) (hi : rs[i]? = some (var b t cs)) (hn : cs.length = k) : ResE P fn e w (.tuple #[.agg cs.toArray, e u]) := fun a ha => by
  have hr' : a.tmps.getD r undef = .pointer (some ⟨b, 0, none⟩) := by rw [← hr, ← ha]; rfl
  rw [Array.getD_eq_getD_getElem?] at hr'
  have := run_cell (P := P) (ty := ty) (off := 0) H hi hn
  subst ha
  simp [results, h, hr', asAddr, this, envOf]

/-! ### memory -/
theorem L.load {ty : TypeId} {x : Operand} [OneC P ty] (i : Nat) {b off : Nat} {t : TypeId} {cs : List Value} {v : Value} (H : Holds s w rs) (hw : wn n ops o e = true) (hd : okD n o.dst = true) (ho : o.op = .load ty x) (hx : ev e x = .pointer (some ⟨b, off, none⟩)) (hi : rs[i]? = some (var b t cs)) (hv : cs[off]? = some v)
    (h : L P n ops Q rest (put e o.dst v) w) : L P n ops Q (o :: rest) e w :=
  ⟨fun a ha => sl_load i H (by rw [ha.wn]; exact hw) ho (by rw [ha.eval]; exact hx) hi hv (h.go _ (ha.put hd v))⟩
theorem L.loadAll {ty : TypeId} {x : Operand} {k : Nat} [RowC P ty k] (i : Nat) {b : Nat} {t : TypeId} {cs : List Value} (H : Holds s w rs) (hw : wn n ops o e = true) (hd : okD n o.dst = true) (ho : o.op = .load ty x) (hx : ev e x = .pointer (some ⟨b, 0, none⟩)) (hi : rs[i]? = some (var b t cs)) (hn : cs.length = k)
    (h : L P n ops Q rest (put e o.dst (.agg cs.toArray)) w) : L P n ops Q (o :: rest) e w :=
  ⟨fun a ha => sl_loadall i H (by rw [ha.wn]; exact hw) ho (by rw [ha.eval]; exact hx) hi hn (h.go _ (ha.put hd _))⟩
theorem L.loadPart {ty : TypeId} {x : Operand} {k : Nat} [RowC P ty k] (i : Nat) {b off : Nat} {t : TypeId} {cs : List Value} (xs : List Value) (H : Holds s w rs) (hw : wn n ops o e = true) (hd : okD n o.dst = true) (ho : o.op = .load ty x) (hx : ev e x = .pointer (some ⟨b, off, none⟩)) (hi : rs[i]? = some (var b t cs)) (hxs : (cs.drop off).take k = xs) (hn : xs.length = k)
    (h : L P n ops Q rest (put e o.dst (.agg xs.toArray)) w) : L P n ops Q (o :: rest) e w :=
  ⟨fun a ha => sl_loadpart i xs H (by rw [ha.wn]; exact hw) ho (by rw [ha.eval]; exact hx) hi hxs hn (h.go _ (ha.put hd _))⟩
theorem L.loadS {ty : TypeId} {x : Operand} [OneC P ty] {g off off' : Nat} {v : Value} (H : Holds s w rs) (hp : Pin s g off' v) (hw : wn n ops o e = true) (hd : okD n o.dst = true) (ho : o.op = .load ty x) (hx : ev e x = .pointer (some ⟨g, off, none⟩)) (he : off = off')
    (h : L P n ops Q rest (put e o.dst v) w) : L P n ops Q (o :: rest) e w :=
  ⟨fun a ha => sl_loadS H hp (by rw [ha.wn]; exact hw) ho (by rw [ha.eval]; exact hx) he (h.go _ (ha.put hd _))⟩
theorem L.loadAllS {ty : TypeId} {x : Operand} {k : Nat} [RowC P ty k] {g off off' : Nat} {cs : List Value} (H : Holds s w rs) (hp : ∀ j v, cs[j]? = some v → Pin s g (off' + j) v) (hw : wn n ops o e = true) (hd : okD n o.dst = true) (ho : o.op = .load ty x) (hx : ev e x = .pointer (some ⟨g, off, none⟩)) (he : off = off') (hn : cs.length = k)
    (h : L P n ops Q rest (put e o.dst (.agg cs.toArray)) w) : L P n ops Q (o :: rest) e w :=
  ⟨fun a ha => sl_loadallS H hp (by rw [ha.wn]; exact hw) ho (by rw [ha.eval]; exact hx) he hn (h.go _ (ha.put hd _))⟩
/-- a cell of a row of our own -/
theorem L.loadR {ty : TypeId} {x : Operand} [OneC P ty] (i : Nat) {g off c m sz : Nat} {el : TypeId} {xs : List Value} {v : Value} (H : Holds s w rs) (hw : wn n ops o e = true) (hd : okD n o.dst = true) (ho : o.op = .load ty x) (hx : ev e x = .pointer (some ⟨g, off, none⟩)) (hi : rs[i]? = some (row el sz (.slice (some ⟨g, 0, none⟩) m c) m xs)) (hv : xs[off]? = some v)
    (h : L P n ops Q rest (put e o.dst v) w) : L P n ops Q (o :: rest) e w :=
  ⟨fun a ha => load_one (by rw [ha.wn]; exact hw) ho (by rw [ha.eval]; exact hx) (by
    obtain ⟨aa, cc, he, _, _, _, h4⟩ := own_sl (H.row hi)
    cases he
    obtain ⟨ad, ha', hc⟩ := h4 off v hv
    cases ha'
    rwa [Addr.add_mid, Nat.zero_add] at hc) (h.go _ (ha.put hd v))⟩
theorem L.store {ty : TypeId} {x y : Operand} [T : OneC P ty] (i : Nat) {b off : Nat} {t : TypeId} {cs : List Value} {v : Value} (H : Holds s w rs) (hw : wn n ops o e = true) (hd : okD n o.dst = true) (ho : o.op = .store ty x y) (hx : ev e x = .pointer (some ⟨b, off, none⟩)) (hi : rs[i]? = some (var b t cs)) (hy : ev e y = v) (h1 : v.oneCell' = true) (hl : Nat.blt off cs.length = true)
    (h : ∀ w', Holds s w' (rs.set i (var b t (cs.set off v))) → L P n ops Q rest (put e o.dst undef) w') : L P n ops Q (o :: rest) e w :=
  ⟨fun a ha => sl_store i H (by rw [ha.wn]; exact hw) ho (by rw [ha.eval]; exact hx) hi (by rw [ha.eval]; exact hy) h1 (by simpa [Nat.blt_eq] using hl) (fun w' H' => (h w' H').go _ (ha.put hd _))⟩
theorem L.storeAll {ty : TypeId} {x y : Operand} {k : Nat} [T : RowC P ty k] (i : Nat) {b : Nat} {t : TypeId} {cs xs : List Value} (H : Holds s w rs) (hw : wn n ops o e = true) (hd : okD n o.dst = true) (ho : o.op = .store ty x y) (hx : ev e x = .pointer (some ⟨b, 0, none⟩)) (hi : rs[i]? = some (var b t cs)) (hy : ev e y = .agg xs.toArray) (h1 : xs.all Value.oneCell' = true) (hn : xs.length = k) (hl : cs.length = k)
    (h : ∀ w', Holds s w' (rs.set i (var b t xs)) → L P n ops Q rest (put e o.dst undef) w') : L P n ops Q (o :: rest) e w :=
  ⟨fun a ha => sl_storeall i H (by rw [ha.wn]; exact hw) ho (by rw [ha.eval]; exact hx) hi (by rw [ha.eval]; exact hy) (fun v hv => List.all_eq_true.1 h1 v hv) hn hl (fun w' H' => (h w' H').go _ (ha.put hd _))⟩
/-- a cell of a row of our own is written -/
theorem L.storeR {ty : TypeId} {x y : Operand} [T : OneC P ty] (i : Nat) {g off c m sz : Nat} {el : TypeId} {xs : List Value} {v : Value} (H : Holds s w rs) (hw : wn n ops o e = true) (hd : okD n o.dst = true) (ho : o.op = .store ty x y) (hx : ev e x = .pointer (some ⟨g, off, none⟩)) (hi : rs[i]? = some (row el sz (.slice (some ⟨g, 0, none⟩) m c) m xs)) (hy : ev e y = v) (h1 : v.oneCell' = true) (hl : off < xs.length)
    (h : ∀ w', Holds s w' (rs.set i (row el sz (.slice (some ⟨g, 0, none⟩) m c) m (xs.set off v))) → L P n ops Q rest (put e o.dst undef) w') : L P n ops Q (o :: rest) e w := by
  refine ⟨fun a ha => wpList_step fun K hK => ?_⟩
  rw [ha.wn, if_pos hw]
  have hown := H.row hi
  obtain ⟨hlen, hrow⟩ := hown
  rcases hrow with ⟨hn, _⟩ | ⟨g', cap, cur, hv, _, hg, h3, h4, h5, h6⟩
  · cases hn
  · cases hv
    have hi1 := T.size
    have hcv : v.cells = #[v] := by cases v <;> first | rfl | cases h1
    have hcl : off < cur.size := by
      have := congrArg List.length h6
      simp at this; omega
    cases hq : P.info? ty with
    | none => simp [hq] at hi1
    | some ii =>
      have hs1 : ii.size = 1 := by simpa [hq] using hi1
      have hst := run_storeCells_at P g off el [v] 0 cur w hg (by simp; omega) (fun u hu => by simp at hu; subst hu; exact h1)
      have hst' : (storeVar ty ⟨g, off, none⟩ v).run P w = .ok () (w.setRow g (cur.toList.set off v).toArray) := by
        simp only [Nat.add_zero] at hst
        simp [storeVar, sizeOf, typeInfo, hq, hcv, hs1, hst]
        congr 2
        rw [List.set_eq_take_append_cons_drop, if_pos (by simpa using hcl)]
      unfold Oper.wp
      rw [ha.eval]
      unfold execOp
      rw [ho]
      simp only [hx, hy, Instr.storeAt, Instr.sureAddr, Sem.run_bind, Sem.run_pure, Result.andThen_ok, hst', Oper.upon]
      refine hK _ _ ((h _ (H.only_row hi (v' := .slice (some ⟨g, 0, none⟩) m c) (n' := m) (xs' := xs.set off v) ⟨by simpa using hlen, .inr ⟨g, c, (cur.toList.set off v).toArray, rfl, Nat.zero_le _, setRow_heap _ _ _ _ _ _ hg, h3, h4, by simpa using h5, ?_⟩⟩ (only_setRow _ _ _ (by simp [Value.ownBlock])) (fun k hk => .inl hk))).go _ (ha.put hd _))
      rw [← h6]
      simp [List.take_set]
theorem L.box {ty : TypeId} {x : Operand} {cs : List Value} (H : Holds s w rs) (hw : wn n ops o e = true) (hd : okD n o.dst = true) (ho : o.op = .box ty x) (hx : ev e x = .agg cs.toArray)
    (h : ∀ b w', Holds s w' (var b ty cs :: rs) → L P n ops Q rest (put e o.dst (.pointer (some ⟨b, 0, none⟩))) w') : L P n ops Q (o :: rest) e w :=
  ⟨fun a ha => sl_box H (by rw [ha.wn]; exact hw) ho (by rw [ha.eval]; exact hx) (fun b w' H' => (h b w' H').go _ (ha.put hd _))⟩
theorem L.box1 {ty : TypeId} {x : Operand} {v : Value} (H : Holds s w rs) (hw : wn n ops o e = true) (hd : okD n o.dst = true) (ho : o.op = .box ty x) (hx : ev e x = v) (h1 : v.oneCell' = true)
    (h : ∀ b w', Holds s w' (var b ty [v] :: rs) → L P n ops Q rest (put e o.dst (.pointer (some ⟨b, 0, none⟩))) w') : L P n ops Q (o :: rest) e w :=
  ⟨fun a ha => sl_box1 H (by rw [ha.wn]; exact hw) ho (by rw [ha.eval]; exact hx) h1 (fun b w' H' => (h b w' H').go _ (ha.put hd _))⟩
theorem L.alloc {ty : TypeId} {z : List Value} [T : ZeroC P ty z] (H : Holds s w rs) (hw : wn n ops o e = true) (hd : okD n o.dst = true) (ho : o.op = .alloc ty)
    (h : ∀ b w', Holds s w' (var b ty z :: rs) → L P n ops Q rest (put e o.dst (.pointer (some ⟨b, 0, none⟩))) w') : L P n ops Q (o :: rest) e w :=
  ⟨fun a ha => sl_alloc H (by rw [ha.wn]; exact hw) ho (fun b w' H' => (h b w' H').go _ (ha.put hd _))⟩
theorem L.empty {t el : TypeId} {size bytes : Nat} {z : List Value} [E : ElC P t el size bytes z] (H : Holds s w rs) (hw : wn n ops o e = true) (hd : okD n o.dst = true) (ho : o.op = .buildSlice t 0 #[])
    (h : ∀ g w', Holds s w' (row el size (.slice (some ⟨g, 0, none⟩) 0 0) 0 [] :: rs) → L P n ops Q rest (put e o.dst (.slice (some ⟨g, 0, none⟩) 0 0)) w') : L P n ops Q (o :: rest) e w :=
  ⟨fun a ha => sl_empty H (by rw [ha.wn]; exact hw) ho (fun b w' H' => (h b w' H').go _ (ha.put hd _))⟩
theorem L.one {t el : TypeId} {size bytes : Nat} {z : List Value} [E : ElC P t el size bytes z] {x : Operand} {cs : List Value} (H : Holds s w rs) (hsm : Nat.ble size 16777216 = true) (hgd : o.guard = none) (hd : okD n o.dst = true) (ho : o.op = .buildSlice t 1 #[(0, x)]) {v : Value} (hx : ev e x = v) (hcs : v.cells = cs.toArray) (hv : cs.length = size)
    (h : ∀ g w', Holds s w' (row el size (.slice (some ⟨g, 0, none⟩) 1 1) 1 cs :: rs) → L P n ops Q rest (put e o.dst (.slice (some ⟨g, 0, none⟩) 1 1)) w') : L P n ops Q (o :: rest) e w :=
  ⟨fun a ha => sl_one H (Nat.le_of_ble_eq_true hsm) hgd ho (by rw [ha.eval]; exact hx) hcs hv (fun b w' H' => (h b w' H').go _ (ha.put hd _))⟩
theorem L.app {t el : TypeId} {size bytes : Nat} {z : List Value} [E : ElC P t el size bytes z] {x y : Operand} (i : Nat) {v xv : Value} {k m : Nat} {xs news : List Value} (H : Holds s w rs) (hi : rs[i]? = some (row el size v k xs)) (hsrc : Src s rs xv size m news) (h1 : ∀ u ∈ news, u.oneCell' = true) (h63 : k + m ≤ maxLen) (hbytes : (k + m) * bytes ≤ 140737488355328)
    (hgd : o.guard = none) (hd : okD n o.dst = true) (ho : o.op = .call { callee := .builtin .append, args := #[x, y], argTypes := #[t, t] }) (hx : ev e x = v) (hy : ev e y = xv)
    (h : ∀ aa cc w', Holds s w' (rs.set i (row el size (.slice aa (k + m) cc) (k + m) (xs ++ news))) → L P n ops Q rest (put e o.dst (.slice aa (k + m) cc)) w') : L P n ops Q (o :: rest) e w :=
  ⟨fun a ha => sl_append i H hi hsrc h1 h63 hbytes hgd ho (by rw [ha.eval]; exact hx) (by rw [ha.eval]; exact hy) (fun aa cc w' H' => (h aa cc w' H').go _ (ha.put hd _))⟩
theorem L.make {t el : TypeId} {size bytes : Nat} {z : List Value} [E : ElC P t el size bytes z] {l c : Operand} {k m : Nat} {kk kk' : IntKind} {ik im : Int} (H : Holds s w rs) (hgd : o.guard = none) (hd : okD n o.dst = true) (ho : o.op = .makeSlice t l c) (hl : ev e l = .int kk ik) (hc : ev e c = .int kk' im) (hik : ik = (k : Int)) (him : im = (m : Int)) (hnm : k ≤ m) (hm : bytes * m ≤ 140737488355328) (hmx : m ≤ maxLen)
    (h : ∀ g w', Holds s w' (row el size (.slice (some ⟨g, 0, none⟩) k m) k (List.replicate k z).flatten :: rs) → L P n ops Q rest (put e o.dst (.slice (some ⟨g, 0, none⟩) k m)) w') : L P n ops Q (o :: rest) e w :=
  ⟨fun a ha => sl_make H hgd ho (by rw [ha.eval, hl, hik]) (by rw [ha.eval, hc, him]) hnm hm hmx (fun b w' H' => (h b w' H').go _ (ha.put hd _))⟩
/-- string(b) -/
theorem L.str {x : Operand} {t u : TypeId} [T : BytesC P t] [U : StrC P u] {v : Value} {l : List UInt8} (H : Holds s w rs) (hb : Src s rs v 1 l.length (u8s l)) (hw : wn n ops o e = true) (hd : okD n o.dst = true) (ho : o.op = .convert t u x) (hx : ev e x = v) (h : L P n ops Q rest (put e o.dst (.string ⟨l.toArray⟩)) w) : L P n ops Q (o :: rest) e w := by
  obtain ⟨el, h1, h2, _⟩ := T.el
  exact ⟨fun a ha => conv_string_g (v := v) h1 h2 U.str (by rw [ha.wn]; exact hw) ho (by rw [ha.eval]; exact hx) (hb.sl H) (h.go _ (ha.put hd _))⟩

/-! ### regions that draw their order -/
def chkE (n : Nat) (ops : Array Oper) (l : List (Oper × Nat)) (e : Env) : Bool := l.all fun x => !wn n ops x.1 e || Reg.valC x.1.op x.2 (ev e)
theorem chk_fr {l : List (Oper × Nat)} {a : Act} (ha : Fr n a e) : Reg.chk ops l a = chkE n ops l e := by
  unfold Reg.chk chkE
  congr 1
  funext x
  rw [ha.wn, ha.eval]
def rbE (n : Nat) (ops : Array Oper) (l : List (Oper × Nat)) (e : Env) : List Nat := l.flatMap fun x => if x.2 == 1 && wn n ops x.1 e then Reg.rdBlock x.1.op (ev e) else []
theorem rb_fr {l : List (Oper × Nat)} {a : Act} (ha : Fr n a e) : Reg.rb ops l a = rbE n ops l e := by
  unfold Reg.rb rbE
  congr 1
  funext x
  rw [ha.wn, ha.eval]
structure Q1 (n : Nat) (ops : Array Oper) (l : List (Oper × Nat)) (R : Env → World → Prop) (x : Exit) (e : Env) (w : World) : Prop where
  nor : x = .normal
  chk : chkE n ops l e = true
  res : R e w
theorem wpList_post {l : List Oper} {a : Act} {Q Q' : Exit → Act → World → Prop} (hq : ∀ x a w, Q x a w → Q' x a w) (h : wpList P ops Q l a w) : wpList P ops Q' l a w := by
  induction l generalizing a w with
  | nil => exact hq _ _ _ h
  | cons o r ih =>
    unfold wpList at h ⊢
    split
    · rename_i hw
      rw [if_pos hw] at h
      rcases h with h | ⟨h1, a', w', h2⟩
      · left
        unfold Oper.wp at h ⊢
        revert h
        generalize (execOp a.eval o).run P w = res
        intro h
        cases res with
        | ok nx w1 =>
          cases nx <;> simp only [Oper.upon] at h ⊢ <;> first
            | exact ih h
            | exact h
            | exact Calls.mono h (fun e w2 he => by
                cases e with
                | returned v => exact ih he
                | panicked c => exact hq _ _ _ he
                | outgrown => obtain ⟨a', w', h'⟩ := he; exact ⟨a', w', hq _ _ _ h'⟩)
            | exact Rows.mono h (fun v w2 he => ih he)
        | halt hh w1 =>
          cases hh <;> simp only [Oper.upon] at h ⊢ <;> first | exact h | exact hq _ _ _ h
      · exact .inr ⟨h1, a', w', hq _ _ _ h2⟩
    · rename_i hw
      rw [if_neg hw] at h
      exact ih h
theorem C.drawn1 {id : Nat} {l : List Oper} (cls ms : List Nat) (hok : Reg.ok1 P l cls ms = true) (h : L P n l.toArray (Q1 n l.toArray (l.zip cls) (Q .normal)) l e w.drew) : C P n Q (.region id l.toArray true) e w :=
  ⟨fun a ha => Reg.region1d cls ms hok fun Q' hQ' => wpList_post (fun x a' w' ⟨e', fr, hq⟩ => by
    obtain ⟨rfl, h2, h3⟩ := hq
    exact hQ' a' w' ⟨by rw [chk_fr fr]; exact h2, e', fr, h3⟩) (h.go a ha)⟩
/-- the segments of a region with calls between which the blocks of B stay -/
structure Q2 (n : Nat) (ops : Array Oper) (B : List Nat) (l : List (Oper × Nat)) (w0 : World) (R : Env → World → Prop) (x : Exit) (e : Env) (w : World) : Prop where
  nor : x = .normal
  chk : chkE n ops l e = true
  rb : ∀ b ∈ rbE n ops l e, b ∈ B
  keep : Reg.Keep B w0 w
  res : R e w
def segL (P : Program) (n : Nat) (ops : Array Oper) (B : List Nat) (R : Env → World → Prop) : List Nat → List Nat → List Oper → Env → World → Prop
  | [], cls, l, e, w => L P n ops (fun x e' w' => Q2 n ops B (l.zip cls) w' R x e' w') l e w
  | k :: ns, cls, l, e, w => L P n ops (Q2 n ops B ((l.take k).zip (cls.take k)) w (segL P n ops B R ns (cls.drop k) (l.drop k))) (l.take k) e w
theorem segW_of {B : List Nat} {R : Env → World → Prop} : ∀ (ns cls : List Nat) (l : List Oper) (e : Env) (w : World) (a : Act), Fr n a e → segL P n ops B R ns cls l e w → Reg.segW P ops B (fun a w => ∃ e, Fr n a e ∧ R e w) ns cls l a w
  | [], cls, l, e, w, a, fr, h => fun Q' hQ' => wpList_post (fun x a' w' ⟨e', fr', hq⟩ => by
      obtain ⟨rfl, h2, h3, h4, h5⟩ := hq
      exact hQ' a' w' ⟨⟨by rw [chk_fr fr']; exact h2, by rw [rb_fr fr']; exact h3⟩, e', fr', h5⟩) (L.go h a fr)
  | k :: ns, cls, l, e, w, a, fr, h => fun Q' hQ' => wpList_post (fun x a' w' ⟨e', fr', hq⟩ => by
      obtain ⟨rfl, h2, h3, h4, h5⟩ := hq
      exact hQ' a' w' ⟨⟨by rw [chk_fr fr']; exact h2, by rw [rb_fr fr']; exact h3⟩, h4, segW_of ns _ _ e' w' a' fr' h5⟩) (L.go h a fr)
theorem C.drawn2 {id : Nat} {l : List Oper} (B cls ns ms : List Nat) (hok : Reg.ok2 P l cls ns ms = true) (h : segL P n l.toArray B (Q .normal) ns cls l e w.drew) : C P n Q (.region id l.toArray true) e w :=
  ⟨fun a ha => Reg.region2d B cls ns ms hok (segW_of ns cls l e _ a ha h)⟩
end
end Go.Own

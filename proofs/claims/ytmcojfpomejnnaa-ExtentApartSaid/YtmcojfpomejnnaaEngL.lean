/- Loops and cuts of the quick walk, by named slots. Over any program. -/
import Derived.Test.YtmcojfpomejnnaaEngK
import Derived.Test.YtmcojfpomejnnaaRegT
set_option linter.unusedSimpArgs false
set_option linter.unusedVariables false
namespace Go.Own
open Go Go.RowKit

def upds : List Nat → List Value → Env → Env
  | t :: ts, v :: vs, e => upd (upds ts vs e) t v
  | _, _, e => e
theorem upds_map (h : Env) : ∀ (sl : List Nat), upds sl (sl.map h) h = h
  | [] => rfl
  | t :: ts => by
    show upd (upds ts (ts.map h) h) t (h t) = h
    rw [upds_map h ts]
    funext u
    unfold upd
    cases hc : Nat.beq u t with
    | false => rfl
    | true => rw [Nat.eq_of_beq_eq_true hc]; rfl

section
variable {P : Program} {n : Nat} {ops : Array Oper} {Q : Post} {rest : List Oper} {e : Env} {w w' : World} {s : Ro} {rs : List Asn}
theorem hav_upds {wr sl : List Nat} (hs : sl.all (fun t => wr.any (Nat.beq t)) = true) (h : Env) : hav wr h e = upds sl (sl.map h) (hav wr h e) := by
  have hm : sl.map h = sl.map (hav wr h e) := by
    apply List.map_congr_left
    intro t ht
    have := List.all_eq_true.1 hs t ht
    unfold hav; rw [this]; rfl
  rw [hm, upds_map]
/-- a loop; the slots sl at a round's head are vs, of which I speaks; the slots wr may have turned -/
theorem C.loopS {c : Code} (wr sl : List Nat) (hs : sl.all (fun t => wr.any (Nat.beq t)) = true) (I : Nat → List Value → World → Prop) (m : Nat) (h0 : I m (sl.map e) w)
    (hr : ∀ m vs h w, I m vs w → C P n (thenE (fun e' w' => Agr wr e e' ∧ ∃ k, k < m ∧ I k (sl.map e') w') Q) c (upds sl vs (hav wr h e)) w) : C P n Q (.loop c) e w := by
  refine C.loop wr (fun k h w => I k (sl.map h) w) m h0 fun k h w hI => ?_
  have := hr k (sl.map h) h w hI
  rwa [← hav_upds hs h] at this
/-- the ways through x meet again: J says of the slots sl and the world what y needs -/
theorem C.cut {x y : Code} (wr sl : List Nat) (hs : sl.all (fun t => wr.any (Nat.beq t)) = true) (J : List Value → World → Prop) (h1 : C P n (thenE (fun e' w' => Agr wr e e' ∧ J (sl.map e') w') Q) x e w)
    (h2 : ∀ vs h w, J vs w → C P n Q y (upds sl vs (hav wr h e)) w) : C P n Q (.seq x y) e w := by
  refine C.seq ⟨fun a ha => Code.wp_mono (fun ex a' w' ⟨e', fr, hq⟩ => ?_) (h1.go a ha)⟩
  cases ex with
  | normal =>
    obtain ⟨ag, hj⟩ := hq
    have := h2 (sl.map e') e' w' hj
    rw [← hav_upds hs e', ← ag.eq] at this
    exact ⟨e', fr, this⟩
  | _ => exact ⟨e', fr, hq⟩
/-- the ways meet again with the memory as it is now -/
theorem C.cutH {x y : Code} (H : Holds s w rs) (wr sl : List Nat) (hs : sl.all (fun t => wr.any (Nat.beq t)) = true) (p : List Value → Prop) (h1 : C P n (thenE (fun e' w' => Agr wr e e' ∧ p (sl.map e') ∧ Holds s w' rs) Q) x e w)
    (h2 : ∀ vs h w, p vs → Holds s w rs → C P n Q y (upds sl vs (hav wr h e)) w) : C P n Q (.seq x y) e w :=
  C.cut wr sl hs (fun vs w => p vs ∧ Holds s w rs) h1 (fun vs h w hj => h2 vs h w hj.1 hj.2)
/-- a loop that leaves the memory as it is -/
theorem C.loopH {c : Code} (H : Holds s w rs) (wr sl : List Nat) (hs : sl.all (fun t => wr.any (Nat.beq t)) = true) (I : Nat → List Value → Prop) (m : Nat) (h0 : I m (sl.map e))
    (hr : ∀ m vs h w, I m vs → Holds s w rs → C P n (thenE (fun e' w' => Agr wr e e' ∧ ∃ k, k < m ∧ I k (sl.map e') ∧ Holds s w' rs) Q) c (upds sl vs (hav wr h e)) w) : C P n Q (.loop c) e w :=
  C.loopS wr sl hs (fun m vs w => I m vs ∧ Holds s w rs) m ⟨h0, H⟩ (fun m vs h w hj => hr m vs h w hj.1 hj.2)
/-- a region that draws its order, with one new variable that may be made before or behind one call -/
theorem C.drawnX {id : Nat} {l : List Oper} (B cls ns ms ns1 ns2 : List Nat) (i0 j0 : Nat) (hok : Reg.ok2x P l cls ns ms ns1 ns2 i0 j0 = true) (hA : segL P n l.toArray B (Q .normal) ns cls l e w.drew)
    (hB : segL P n l.toArray B (fun e w => segL P n l.toArray B (fun e w => segL P n l.toArray B (Q .normal) ns2 (cls.drop (j0 + 1)) (l.drop (j0 + 1)) e w) ns1 (cls.take j0) (l.take j0) e w) [1] [2] ((l.drop j0).take 1) e w.drew) : C P n Q (.region id l.toArray true) e w :=
  ⟨fun a ha => Reg.region2x B cls ns ms ns1 ns2 i0 j0 hok (segW_of ns cls l e _ a ha hA) (Reg.segW_mono (fun a1 w1 ⟨e1, fr1, h1⟩ => Reg.segW_mono (fun a2 w2 ⟨e2, fr2, h2⟩ => segW_of ns2 _ _ e2 _ a2 fr2 h2) _ _ _ _ _ (segW_of ns1 _ _ e1 _ a1 fr1 h1)) _ _ _ _ _ (segW_of [1] [2] _ e _ a ha hB))⟩
/-- append onto an empty row -/
theorem K.app0 {d : Nat} {t el : TypeId} {size bytes : Nat} {z : List Value} {tt : Nat} {pp : String} {af : Array Edge} [E : ElC P t el size bytes z] {x y : Operand} (i : Nat) {v xv : Value} {m : Nat} {news : List Value} (H : Holds s w rs) (hi : rs[i]? = some (row el size v 0 [])) (hsrc : Src s rs xv size m news) (h1 : ∀ u ∈ news, u.oneCell' = true) (h63 : m ≤ maxLen) (hbytes : m * bytes ≤ 140737488355328) (hd : Nat.blt d n = true) (hx : ev e x = v) (hy : ev e y = xv)
    (h : ∀ aa cc w', Holds s w' (rs.set i (row el size (.slice aa m cc) m news)) → L P n ops Q rest (upd e d (.slice aa m cc)) w') : L P n ops Q (⟨some d, .call { callee := .builtin .append, args := #[x, y], argTypes := #[t, t] }, tt, pp, af, none⟩ :: rest) e w :=
  K.app i H hi hsrc h1 (by omega) (by rw [Nat.zero_add]; exact hbytes) hd hx hy (fun aa cc w' H' => by
    rw [Nat.zero_add, List.nil_append] at H'
    rw [Nat.zero_add]
    exact h aa cc w' H')
theorem Holds.form (H : Holds s w rs) {i n sz cc : Nat} {el : TypeId} {aa : Option Addr} {xs : List Value} (hi : rs[i]? = some (Own.row el sz (.slice aa n cc) n xs)) (hn : 0 < n) : ∃ g, aa = some ⟨g, 0, none⟩ ∧ n ≤ cc ∧ cc ≤ maxLen := by
  obtain ⟨_, h⟩ := H.row hi
  rcases h with ⟨_, h⟩ | ⟨g, cap, cur, hv, _, _, h1, h2, _⟩
  · omega
  · cases hv; exact ⟨g, rfl, h1, h2⟩
theorem Holds.rlen (H : Holds s w rs) {i n sz : Nat} {v : Value} {el : TypeId} {xs : List Value} (hi : rs[i]? = some (Own.row el sz v n xs)) : xs.length = n * sz := (H.row hi).1
/-- a composite literal; its value known in every world -/
theorem K.build {d : Nat} {tt : Nat} {pp : String} {af : Array Edge} {g : Option (Nat × Bool)} {ty : TypeId} {parts : Array (Nat × Operand)} (ps : List (Nat × Value)) (v : Value) (hrun : ∀ w, (Instr.build ty ps.toArray).run P w = .ok v w) (hw : wg n ops g e = true) (hd : Nat.blt d n = true) (hps : (parts.toList.map fun x => (x.1, ev e x.2)) = ps) (h : L P n ops Q rest (upd e d v) w) : L P n ops Q (⟨some d, .build ty parts, tt, pp, af, g⟩ :: rest) e w := by
  refine L.val (o := ⟨some d, .build ty parts, tt, pp, af, g⟩) v w hw hd (run_v (sm := Instr.build ty ps.toArray) ?_ (hrun w)) h
  have : (parts.map fun (i, x) => (i, ev e x)) = ps.toArray := by
    apply Array.toList_inj.1
    rw [Array.toList_map]
    exact hps
  unfold execOp
  simp only [this]
theorem run_sliceBound {k : IntKind} {i : Int} {y : Nat} {c : BoundsCode} {j : Nat} (hi : i = (j : Int)) (h : j ≤ y) : (Instr.sliceBound (.int k i) y c).run P w = .ok j w := by
  subst hi
  simp [Instr.sliceBound, asIntOf, h]
/-- s[l:h] of a string -/
theorem K.sub_ {d : Nat} {tt : Nat} {pp : String} {af : Array Edge} {g : Option (Nat × Bool)} {t : TypeId} {x lo hi : Operand} {b : ByteArray} {k k' : IntKind} {il ih : Int} {l h' : Nat} [T : StrC P t] (hw : wg n ops g e = true) (hd : Nat.blt d n = true) (hx : ev e x = .string b) (hlo : ev e lo = .int k il) (hhi : ev e hi = .int k' ih) (hl : il = (l : Int)) (hh : ih = (h' : Int)) (h1 : l ≤ h') (h2 : h' ≤ b.size) (h : L P n ops Q rest (upd e d (.string (b.extract l h'))) w) : L P n ops Q (⟨some d, .slice t x (some lo) (some hi) none, tt, pp, af, g⟩ :: rest) e w := by
  refine L.val (o := ⟨some d, .slice t x (some lo) (some hi) none, tt, pp, af, g⟩) _ w hw hd (run_v (sm := Instr.sliceAt t (ev e x) (some (ev e lo)) (some (ev e hi)) none) rfl ?_) h
  rw [hx, hlo, hhi]
  simp [Instr.sliceAt, run_underlying T.str, Instr.slice, Instr.sliceBounds, run_sliceBound hh h2, run_sliceBound hl h1]
theorem K.nil {d : Nat} {tt : Nat} {pp : String} {af : Array Edge} {g : Option (Nat × Bool)} {x : Operand} {a : Addr} (hw : wg n ops g e = true) (hd : Nat.blt d n = true) (hx : ev e x = .pointer (some a)) (h : L P n ops Q rest (upd e d (.pointer (some a))) w) : L P n ops Q (⟨some d, .nilCheck x, tt, pp, af, g⟩ :: rest) e w :=
  L.val (o := ⟨some d, .nilCheck x, tt, pp, af, g⟩) _ w hw hd (by unfold execOp; simp [hx]) h
/-- p[:] of an array -/
theorem K.arr {d : Nat} {tt : Nat} {pp : String} {af : Array Edge} {g : Option (Nat × Bool)} {t : TypeId} {x : Operand} {a : Addr} {len sz : Nat} {one : Bool} [A : ArrC P t len sz one] (hw : wg n ops g e = true) (hd : Nat.blt d n = true) (hx : ev e x = .pointer (some a)) (h : L P n ops Q rest (upd e d (.slice (some a) len len)) w) : L P n ops Q (⟨some d, .slice t x none none none, tt, pp, af, g⟩ :: rest) e w := by
  obtain ⟨el, dd, h1, h2, h3, h4⟩ := A.arr
  refine L.val (o := ⟨some d, .slice t x none none none, tt, pp, af, g⟩) _ w hw hd (run_v (sm := Instr.sliceAt t (ev e x) none none none) rfl ?_) h
  cases hq : P.info? el with
  | none => simp [hq] at h2
  | some i =>
    rw [hx]
    simp [Instr.sliceAt, run_underlying h1, Instr.sureAddr, Instr.sliceBounds, sizeOf, typeInfo, hq, Addr.add]
/-- x[l:] of a slice -/
theorem K.from {d : Nat} {tt : Nat} {pp : String} {af : Array Edge} {g : Option (Nat × Bool)} {t el : TypeId} {x lo : Operand} {a : Option Addr} {m c sz by_ l : Nat} {zz : List Value} {k : IntKind} {il : Int} [E : ElC P t el sz by_ zz] (hw : wg n ops g e = true) (hd : Nat.blt d n = true) (hx : ev e x = .slice a m c) (hlo : ev e lo = .int k il) (hl : il = (l : Int)) (h1 : l ≤ m) (h : L P n ops Q rest (upd e d (.slice (subAddr a c l sz) (m - l) (c - l))) w) : L P n ops Q (⟨some d, .slice t x (some lo) none none, tt, pp, af, g⟩ :: rest) e w := by
  obtain ⟨v, E', _⟩ := E.el
  obtain ⟨inf, i1, i2, i3, i4⟩ := E'.info
  refine L.val (o := ⟨some d, .slice t x (some lo) none none, tt, pp, af, g⟩) _ w hw hd (run_v (sm := Instr.sliceAt t (ev e x) (some (ev e lo)) none none) rfl ?_) h
  rw [hx, hlo]
  simp [Instr.sliceAt, run_underlying E'.slice, Instr.slice, Instr.sliceBounds, run_sliceBound hl h1, sizeOf, typeInfo, i1, i3, subAddr]
/-- copy(p[..], x) into a variable -/
theorem K.copyV {d : Nat} {tt : Nat} {pp : String} {af : Array Edge} {x y : Operand} {t u el : TypeId} {by_ : Nat} {zz : List Value} [E : ElC P t el 1 by_ zz] (i : Nat) {b off dl dc m q : Nat} {ty : TypeId} {cs xs : List Value} {xv : Value} (H : Holds s w rs) (hi : rs[i]? = some (var b ty cs)) (hsrc : Src s rs xv 1 m xs) (h1 : ∀ v ∈ xs, v.oneCell' = true) (hq : Nat.min m dl = q) (hfit : off + q ≤ cs.length) (hd : Nat.blt d n = true) (hx : ev e x = .slice (some ⟨b, off, none⟩) dl dc) (hy : ev e y = xv)
    (h : ∀ w', Holds s w' (rs.set i (var b ty (cs.take off ++ (xs.take dl ++ cs.drop (off + q))))) → L P n ops Q rest (upd e d (.int .i64 (q : Int))) w') : L P n ops Q (⟨some d, .call { callee := .builtin .copy, args := #[x, y], argTypes := #[t, u] }, tt, pp, af, none⟩ :: rest) e w := by
  obtain ⟨v, E', _⟩ := E.el
  obtain ⟨inf, i1, i2, i3, i4⟩ := E'.info
  refine ⟨fun a ha => copy_sl (d := x) (s := y) E'.slice (by rw [i1]; simp [i3]) rfl rfl (by rw [ha.eval]; exact hx) (by rw [ha.eval]; exact hy) (hsrc.sl H) (H.var hi) q hq (by simpa using hfit) h1 ?_⟩
  have := (h _ (H.setVar hi (cs.take off ++ (xs.take dl ++ cs.drop (off + q))))).go _ (ha.put (d := some d) hd _)
  exact this
/-- an element of several cells of a row of our own -/
theorem K.loadRP {d : Nat} {tt : Nat} {pp : String} {af : Array Edge} {g : Option (Nat × Bool)} {ty : TypeId} {x : Operand} {k : Nat} [RowC P ty k] (i : Nat) {gb off c m sz : Nat} {el : TypeId} {xs : List Value} (ys : List Value) (H : Holds s w rs) (hw : wg n ops g e = true) (hd : Nat.blt d n = true) (hx : ev e x = .pointer (some ⟨gb, off, none⟩)) (hi : rs[i]? = some (row el sz (.slice (some ⟨gb, 0, none⟩) m c) m xs)) (hys : (xs.drop off).take k = ys) (hn : ys.length = k)
    (h : L P n ops Q rest (upd e d (.agg ys.toArray)) w) : L P n ops Q (⟨some d, .load ty x, tt, pp, af, g⟩ :: rest) e w :=
  ⟨fun a ha => load_many (by rw [ha.wn]; exact hw) rfl (by rw [ha.eval]; exact hx) (fun j v hv => by
    have hj : j < ys.length := (List.getElem?_eq_some_iff.1 hv).1
    rw [← hys, List.getElem?_take_of_lt (by omega), List.getElem?_drop] at hv
    obtain ⟨aa, cc, he, _, _, _, h4⟩ := own_sl (H.row hi)
    cases he
    obtain ⟨ad, ha', hc⟩ := h4 _ v hv
    cases ha'
    rwa [Addr.add_mid, Nat.zero_add] at hc) hn (h.go _ (ha.put (d := some d) hd _))⟩
/-- a block that is a whole variable now and then stays -/
theorem keep_var {s' : Ro} {rs' : List Asn} (H : Holds s w rs) (H' : Holds s' w' rs') {i j b : Nat} {t : TypeId} {cs : List Value} (hi : rs[i]? = some (Own.var b t cs)) (hj : rs'[j]? = some (Own.var b t cs)) : Reg.Keep [b] w w' := by
  intro k hk
  simp at hk; subst hk
  have h1 := H.var hi
  exact Reg.seen_cells h1 ((H'.var hj).trans h1.symm)
theorem keep_app {A B : List Nat} (h : Reg.Keep A w w') (k : Reg.Keep B w w') : Reg.Keep (A ++ B) w w' := fun x hx => (List.mem_append.1 hx).elim (h x) (k x)
theorem keep_cons {b : Nat} {B : List Nat} (h : Reg.Keep [b] w w') (k : Reg.Keep B w w') : Reg.Keep (b :: B) w w' := keep_app (A := [b]) h k
theorem keep_nil : Reg.Keep [] w w' := fun x hx => by simp at hx
theorem keep_same {B : List Nat} : Reg.Keep B w w := fun x hx => rfl
theorem keep_pin {s' : Ro} {rs' : List Asn} (H : Holds s w rs) (H' : Holds s' w' rs') (hs : s.Le s') {g j : Nat} {x : Value} (hp : Pin s g j x) : Reg.Keep [g] w w' := by
  intro k hk
  simp at hk; subst hk
  obtain ⟨cs, t, f, h1, _⟩ := hp
  have a := H.fits.mem _ _ h1
  have b := H'.fits.mem _ _ (hs.mem _ _ h1)
  exact Reg.seen_cells a (b.trans a.symm)
end
end Go.Own

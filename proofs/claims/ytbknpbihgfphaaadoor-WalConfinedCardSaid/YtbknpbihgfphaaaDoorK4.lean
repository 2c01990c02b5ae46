/- More rules of the walk: structs within rows of our own. Over any program. -/
import Derived.Test.YtbknpbihgfphaaaDoorK3
set_option linter.unusedSimpArgs false
set_option linter.unusedVariables false
namespace Go.Own
open Go Go.RowKit

/-- cells from a place on are written -/
def putL (xs : List Value) (off : Nat) (ys : List Value) : List Value := xs.take off ++ ys ++ xs.drop (off + ys.length)
theorem putL_len {xs ys : List Value} {off : Nat} (h : off + ys.length ≤ xs.length) : (putL xs off ys).length = xs.length := by
  simp [putL]; omega
theorem putL_get {xs ys : List Value} {off j : Nat} (h : off + ys.length ≤ xs.length) : (putL xs off ys)[j]? = if off ≤ j ∧ j < off + ys.length then ys[j - off]? else xs[j]? := by
  have l1 : (xs.take off).length = off := by rw [List.length_take]; omega
  unfold putL
  rw [List.append_assoc]
  by_cases h1 : j < off
  · rw [List.getElem?_append_left (by omega), List.getElem?_take_of_lt h1, if_neg (by omega)]
  · rw [List.getElem?_append_right (by omega), l1]
    by_cases h2 : j < off + ys.length
    · rw [List.getElem?_append_left (by omega), if_pos (by omega)]
    · rw [List.getElem?_append_right (by omega), List.getElem?_drop, if_neg (by omega)]
      congr 1; omega

section
variable {P : Program} {n : Nat} {ops : Array Oper} {Q : Post} {rest : List Oper} {e : Env} {w w' : World} {s : Ro} {rs : List Asn} {tt : Nat} {pp : String} {af : Array Edge} {g : Option (Nat × Bool)} {d : Nat}
theorem K.storeRP {ty : TypeId} {x y : Operand} {k : Nat} [T : RowC P ty k] (i : Nat) {gg off c m sz : Nat} {el : TypeId} {xs ys : List Value} (H : Holds s w rs) (hw : wg n ops g e = true) (hx : ev e x = .pointer (some ⟨gg, off, none⟩)) (hi : rs[i]? = some (row el sz (.slice (some ⟨gg, 0, none⟩) m c) m xs)) (hy : ev e y = .agg ys.toArray) (h1 : ∀ v ∈ ys, v.oneCell' = true) (hn : ys.length = k) (hl : off + k ≤ xs.length)
    (h : ∀ w', Holds s w' (rs.set i (row el sz (.slice (some ⟨gg, 0, none⟩) m c) m (putL xs off ys))) → L P n ops Q rest e w') : L P n ops Q (⟨none, .store ty x y, tt, pp, af, g⟩ :: rest) e w := by
  refine ⟨fun a ha => wpList_step fun K hK => ?_⟩
  rw [ha.wn, if_pos (by exact hw)]
  obtain ⟨hlen, hrow⟩ := H.row hi
  rcases hrow with ⟨hn0, _⟩ | ⟨g', cap, cur, hv, _, hg, h3, h4, h5, h6⟩
  · cases hn0
  · cases hv
    have hs := T.size
    have hcl : xs.length ≤ cur.size := by
      have := congrArg List.length h6
      simp at this; omega
    cases hq : P.info? ty with
    | none => simp [hq] at hs
    | some ii =>
      simp [hq] at hs
      have hst := run_storeCells_at P gg off el ys 0 cur w hg (by simp; omega) h1
      simp only [Nat.add_zero] at hst
      have hst' : (storeVar ty ⟨gg, off, none⟩ (.agg ys.toArray)).run P w = .ok () (w.setRow gg (putL cur.toList off ys).toArray) := by
        simp [storeVar, sizeOf, typeInfo, hq, Value.cells, hs, hn, putL]
        simpa [hn] using hst
      unfold Oper.wp
      rw [ha.eval]
      unfold execOp
      simp only [hx, hy, Instr.storeAt, Instr.sureAddr, Sem.run_bind, Sem.run_pure, Result.andThen_ok, hst', Oper.upon]
      refine hK _ _ ((h _ (H.only_row hi (v' := .slice (some ⟨gg, 0, none⟩) m c) (n' := m) (xs' := putL xs off ys) ⟨by rw [putL_len (by omega)]; exact hlen, .inr ⟨gg, c, (putL cur.toList off ys).toArray, rfl, Nat.zero_le _, setRow_heap _ _ _ _ _ _ hg, h3, h4, by simp [putL_len (xs := cur.toList) (ys := ys) (off := off) (by simp; omega)]; exact h5, ?_⟩⟩ (only_setRow _ _ _ (by simp [Value.ownBlock])) (fun k hk => .inl hk))).go _ ha)
      have hms : m * sz = xs.length := hlen.symm
      apply List.ext_getElem?
      intro j
      rw [putL_get (by omega), List.getElem?_take]
      have hget : ∀ j, j < xs.length → cur.toList[j]? = xs[j]? := fun j hj => by rw [← h6, List.getElem?_take_of_lt (by omega)]
      split
      · rename_i hj
        show (putL cur.toList off ys)[j]? = _
        rw [putL_get (by simp; omega)]
        split
        · rfl
        · exact hget j (by omega)
      · rename_i hj
        rw [if_neg (by omega), List.getElem?_eq_none (by omega)]
/-- a struct within a row of our own is written -/
theorem X.rstp {ty : TypeId} {x y : Operand} {k : Nat} [T : RowC P ty k] {b off m c sz : Nat} {t : TypeId} {xs ys : List Value} {f : List Value → List Asn} (H : Holds s w rs) (h : ∀ w', Holds s w' (f (putL xs off ys)) → L P n ops Q rest e w') (hw : wg n ops g e = true := by rfl) (hx : ev e x = .pointer (some ⟨b, off, none⟩) := by rfl) (V : PutR rs b t sz m c xs f := by infer_instance) (hy : ev e y = .agg ys.toArray := by rfl) (h1 : ∀ v ∈ ys, v.oneCell' = true := by simp [Value.oneCell']) (hn : ys.length = k := by rfl) (hl : off + k ≤ xs.length := by omega) : L P n ops Q (⟨none, .store ty x y, tt, pp, af, g⟩ :: rest) e w := by
  obtain ⟨i, hi, hf⟩ := V.ix
  exact K.storeRP i H hw hx hi hy h1 hn hl (fun w' H' => h w' (by rw [hf] at H'; exact H'))
/-- a struct within a row of our own is read -/
theorem X.rdp {ty : TypeId} {x : Operand} {k : Nat} [T : RowC P ty k] {b off m c sz : Nat} {t : TypeId} {xs ys : List Value} {f : List Value → List Asn} (H : Holds s w rs) (h : L P n ops Q rest (upd e d (.agg ys.toArray)) w) (hw : wg n ops g e = true := by rfl) (hd : Nat.blt d n = true := by rfl) (hx : ev e x = .pointer (some ⟨b, off, none⟩) := by rfl) (V : PutR rs b t sz m c xs f := by infer_instance) (hys : (xs.drop off).take k = ys := by assumption) (hn : ys.length = k := by rfl) : L P n ops Q (⟨some d, .load ty x, tt, pp, af, g⟩ :: rest) e w := by
  obtain ⟨i, hi, hf⟩ := V.ix
  exact K.loadRP i ys H hw hd hx hi hys hn h

/-- a slice against nil -/
theorem X.nilS {x y : Operand} {t u el : TypeId} {sz by_ : Nat} {zz : List Value} [E : ElC P t el sz by_ zz] {a : Option Addr} {m c : Nat} {r : Bool} (h : L P n ops Q rest (upd e d (.bool r)) w) (hw : wg n ops g e = true := by rfl) (hd : Nat.blt d n = true := by rfl) (hx : ev e x = .slice a m c := by rfl) (hy : ev e y = .slice none 0 0 := by rfl) (hr : a.isNone = r := by rfl) : L P n ops Q (⟨some d, .binOp .eql t x y u, tt, pp, af, g⟩ :: rest) e w := by
  obtain ⟨v, E', _⟩ := E.el
  subst hr
  refine L.val (o := ⟨some d, .binOp .eql t x y u, tt, pp, af, g⟩) _ w hw hd ?_ h
  unfold execOp
  simp [hx, hy, eqGuard, Lib.run_eql_slice_nil w t el a m c 0 0 E'.slice]

/-! ### rows of structs -/
theorem flatS_set {α : Type} {f : α → List Value} {sz : Nat} : ∀ (l : List α), (∀ x ∈ l, (f x).length = sz) → ∀ (i j : Nat) (v : Value) (x' : α) (hi : i < l.length), j < sz → f x' = (f l[i]).set j v → (l.flatMap f).set (i * sz + j) v = (l.set i x').flatMap f
  | [], _, i, j, v, x', hi, _, _ => by simp at hi
  | x :: l, hf, 0, j, v, x', hi, hj, he => by
    have hx := hf x (by simp)
    simp only [List.getElem_cons_zero] at he
    rw [List.set_cons_zero, List.flatMap_cons, List.flatMap_cons, Nat.zero_mul, Nat.zero_add, List.set_append_left _ _ (by omega), he]
  | x :: l, hf, i + 1, j, v, x', hi, hj, he => by
    have hx := hf x (by simp)
    have e1 : (i + 1) * sz + j - (f x).length = i * sz + j := by rw [hx, Nat.add_mul]; omega
    rw [List.set_cons_succ, List.flatMap_cons, List.flatMap_cons, List.set_append_right _ _ (by rw [hx, Nat.add_mul]; omega), e1, flatS_set l (fun y hy => hf y (by simp [hy])) i j v x' (by simpa using hi) hj (by simpa using he)]
theorem flatS_put {α : Type} {f : α → List Value} {sz : Nat} : ∀ (l : List α), (∀ x ∈ l, (f x).length = sz) → ∀ (i j : Nat) (ys : List Value) (x' : α) (hi : i < l.length), j + ys.length ≤ sz → f x' = putL (f l[i]) j ys → putL (l.flatMap f) (i * sz + j) ys = (l.set i x').flatMap f
  | [], _, i, j, v, x', hi, _, _ => by simp at hi
  | x :: l, hf, 0, j, ys, x', hi, hj, he => by
    have hx := hf x (by simp)
    simp only [List.getElem_cons_zero] at he
    rw [List.set_cons_zero, List.flatMap_cons, List.flatMap_cons, Nat.zero_mul, Nat.zero_add, he]
    unfold putL
    rw [List.take_append_of_le_length (by omega), List.drop_append_of_le_length (by omega)]
    simp
  | x :: l, hf, i + 1, j, ys, x', hi, hj, he => by
    have hx := hf x (by simp)
    have ih := flatS_put l (fun y hy => hf y (by simp [hy])) i j ys x' (by simpa using hi) hj (by simpa using he)
    rw [List.set_cons_succ, List.flatMap_cons, List.flatMap_cons, ← ih]
    have e1 : (i + 1) * sz + j = (f x).length + (i * sz + j) := by rw [hx, Nat.add_mul]; omega
    unfold putL
    rw [e1, List.take_append, List.take_of_length_le (by omega), Nat.add_sub_cancel_left, Nat.add_assoc, List.drop_append, List.drop_of_length_le (by omega), Nat.add_sub_cancel_left]
    simp
theorem flatS_part {α : Type} {f : α → List Value} {sz : Nat} (l : List α) (hf : ∀ x ∈ l, (f x).length = sz) (i j k : Nat) (hi : i < l.length) (hj : j + k ≤ sz) : ((l.flatMap f).drop (i * sz + j)).take k = ((f l[i]).drop j).take k := by
  apply List.ext_getElem?
  intro q
  rw [List.getElem?_take, List.getElem?_take]
  split
  · rw [List.getElem?_drop, List.getElem?_drop, Nat.add_assoc, flat_get l hf i (j + q) hi (by omega)]
  · rfl
theorem flat_mem {α : Type} {f : α → List Value} {l : List α} (h : ∀ x ∈ l, ∀ v ∈ f x, v.oneCell' = true) : ∀ v ∈ l.flatMap f, v.oneCell' = true := by
  intro v hv
  obtain ⟨x, hx, hv⟩ := List.mem_flatMap.1 hv
  exact h x hx v hv
/-- a result that lies in a variable -/
theorem resV {fn : Func} {r ty k : Nat} [T : RowC P ty k] {b t : Nat} {cs : List Value} {f : List Value → List Asn} (H : Holds s w rs) (h : fn.results = #[.cell r ty]) (hr : e r = .pointer (some ⟨b, 0, none⟩) := by rfl) (V : PutV rs b t cs f := by infer_instance) (hn : cs.length = k := by rfl) : ResE P fn e w (.agg cs.toArray) := by
  obtain ⟨i, hi, _⟩ := V.ix
  exact resC i H h hr hi hn
theorem resVT {fn : Func} {r ty k u : Nat} [T : RowC P ty k] {b t : Nat} {cs : List Value} {f : List Value → List Asn} (H : Holds s w rs) (h : fn.results = #[.cell r ty, .tmp u]) (hr : e r = .pointer (some ⟨b, 0, none⟩) := by rfl) (V : PutV rs b t cs f := by infer_instance) (hn : cs.length = k := by rfl) : ResE P fn e w (.tuple #[.agg cs.toArray, e u]) := by
  obtain ⟨i, hi, _⟩ := V.ix
  exact resCT i H h hr hi hn
end
end Go.Own

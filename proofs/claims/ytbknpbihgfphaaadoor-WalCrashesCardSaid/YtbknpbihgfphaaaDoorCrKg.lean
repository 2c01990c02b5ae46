/- More rules of the walk: a slice that grows by noughts, parts of variables as slices, copies into them. Over any program. -/
import Derived.Test.YtbknpbihgfphaaaDoorCrK9
import Derived.Test.YtbknpbihgfphaaaDoorCrK8
set_option linter.unusedSimpArgs false
set_option linter.unusedVariables false
namespace Go.Own
open Go Go.RowKit
theorem zero_cells1 (x : Value) (n : Nat) : Builtin.zeroCells #[x] n = (List.replicate n x).toArray := by
  unfold Builtin.zeroCells
  apply Array.ext
  · simp
  · intro i h1 h2
    simp [Nat.mod_one]
section
variable {P : Program} {n : Nat} {ops : Array Oper} {Q : Post} {rest : List Oper} {e : Env} {w w' : World} {s : Ro} {rs : List Asn} {tt : Nat} {pp : String} {af : Array Edge} {g : Option (Nat × Bool)} {d : Nat}
theorem run_grow {t ti ty el : TypeId} {by_ : Nat} {x : Value} {k k' : IntKind} {z : Value} (E : ElT P t el 1 by_ z) (hz1 : z.cells = #[x]) (hti : P.underlying ti = some (.int k)) {m : Nat} (h0 : 0 < m) (hm : m ≤ 1000000) (hby : by_ = 1) :
    (Builtin.append_ #[t, ti] ty #[.slice none 0 0, .int k' (m : Int)]).run P w = .ok (.slice (some ⟨w.heap.size, 0, none⟩) m (grownCap w m 0 el)) (w.drew.alloc (.cells ((List.replicate (grownCap w m 0 el) x).toArray) el)) := by
  obtain ⟨i, hi, hz, hsz, hb⟩ := E.info
  have hw : IntKind.i64.wrap (m : Int) = (m : Int) := IntWalk.i64_in _ (by omega)
  have h1 : ¬ ((m : Int) < 0) := by omega
  have h2 : ¬ ((m : Int) * (i.bytes : Int) > 281474976710656) := by rw [hb, hby]; omega
  have h3 : ¬ (m = 0) := by omega
  have h4 : ¬ (9223372036854775807 < (m : Int)) := by omega
  have h5 : ¬ (281474976710656 < Builtin.nextslicecap m 0 * i.bytes) := by rw [nextslicecap_zero h0, hb, hby]; omega
  have hge := grownCap_ge w m 0 el
  have hcat : (List.replicate m x).toArray ++ (List.replicate (grownCap w m 0 el - m) x).toArray = (List.replicate (grownCap w m 0 el) x).toArray := by
    rw [List.append_toArray, List.replicate_append_replicate]
    congr 2; omega
  simp [Builtin.append_, run_underlying E.slice, run_underlying hti, sizeOf, typeInfo, zeroValue, hi, hz, hsz, asInt, asIntOf, hw, h1, h2, h3, h4, h5, Question.forced, run_firstCells_none, newRow, grownCap, hz1, zero_cells1]
  unfold grownCap at hge
  rw [Nat.add_sub_cancel' hge]
theorem K.grow {t ti el : TypeId} {by_ : Nat} {zz : List Value} [E : ElC P t el 1 by_ zz] {x y : Operand} {k k' : IntKind} {m : Nat} {ii : Int} {u : Value} (H : Holds s w rs) (hti : P.underlying ti = some (.int k)) (hzz : zz = [u]) (hby : by_ = 1) (hd : Nat.blt d n = true) (hx : ev e x = .slice none 0 0) (hy : ev e y = .int k' ii) (hii : ii = (m : Int)) (h0 : 0 < m) (hm : m ≤ 1000000)
    (h : ∀ gg cc w', Holds s w' (row el 1 (.slice (some ⟨gg, 0, none⟩) m cc) m (List.replicate m u) :: rs) → L P n ops Q rest (upd e d (.slice (some ⟨gg, 0, none⟩) m cc)) w') : L P n ops Q (⟨some d, .call { callee := .builtin .append, args := #[x, y], argTypes := #[t, ti] }, tt, pp, af, none⟩ :: rest) e w := by
  subst hii
  obtain ⟨v, E', hzv⟩ := E.el
  have hrun := fun ty => run_grow (P := P) (w := w) (ty := ty) (k' := k') E' (by rw [hzv, hzz]) hti h0 hm hby
  have hge := grownCap_ge w m 0 el
  have hle := grownCap_le_maxLen w m 0 el (by unfold maxLen; omega)
  generalize grownCap w m 0 el = cc at *
  refine L.val (o := ⟨some d, .call { callee := .builtin .append, args := #[x, y], argTypes := #[t, ti] }, tt, pp, af, none⟩) _ _ rfl hd ?_ (h w.heap.size cc _ (H.add (F1 := [w.heap.size]) (w' := w.drew.alloc (.cells (List.replicate cc u).toArray el)) ⟨rfl, ?_⟩ ((only_drew [] w).trans (only_alloc [] w.drew _)) (by simp)))
  · unfold execOp
    simp only [resolve, invoke, builtin, Sem.run_bind, Sem.run_pure, Result.andThen_ok, List.map_toArray, List.map_cons, List.map_nil, hx, hy, hrun]
  · refine ⟨by simp, .inr ⟨w.heap.size, cc, _, rfl, Nat.zero_le _, heap_alloc_new w.drew _, hge, hle, by simp, ?_⟩⟩
    rw [Nat.mul_one, List.take_replicate, Nat.min_eq_left hge]
theorem set_two (A : Array Value) (hA : A.size = 2) (v u : Value) : (A.setIfInBounds 0 v).setIfInBounds 1 u = #[v, u] := by
  apply Array.ext
  · simp [hA]
  · intro i h1 h2
    have : i < 2 := by simpa using h2
    rcases i with _ | _ | i
    · rw [Array.getElem_setIfInBounds_ne (by simp [hA]) (by decide)]; simp
    · simp
    · omega
/-- []T{x, y} -/
theorem K.two {t el : TypeId} {by_ : Nat} {zz : List Value} [E : ElC P t el 1 by_ zz] {x y : Operand} {v u : Value} (H : Holds s w rs) (hd : Nat.blt d n = true) (hx : ev e x = v) (hy : ev e y = u) (h1 : v.cells = #[v]) (h2 : u.cells = #[u])
    (h : ∀ gg w', Holds s w' (row el 1 (.slice (some ⟨gg, 0, none⟩) 2 2) 2 [v, u] :: rs) → L P n ops Q rest (upd e d (.slice (some ⟨gg, 0, none⟩) 2 2)) w') : L P n ops Q (⟨some d, .buildSlice t 2 #[(0, x), (1, y)], tt, pp, af, none⟩ :: rest) e w := by
  obtain ⟨z, E', _⟩ := E.el
  obtain ⟨i, hi, hz, hsz, hb⟩ := E'.info
  refine ⟨fun a ha => ?_⟩
  refine wpList_buildSlice (o := ⟨some d, .buildSlice t 2 #[(0, x), (1, y)], tt, pp, af, none⟩) rfl t el 2 #[(0, x), (1, y)] rfl #[v, u] i z E'.slice hi hz (by rw [hsz]; decide) (by rw [hsz]; decide) ?_ ?_
  · simp only [List.map_toArray, List.map_cons, List.map_nil, ha.eval, hx, hy, Instr.fill, hsz, h1, h2]
    simp only [Nat.zero_mul, Nat.one_mul, Nat.mul_one]
    generalize hA : (Array.range 2).map (fun j => z.cells[j % z.cells.size]!) = A
    have hAs : A.size = 2 := by rw [← hA]; simp
    simp [hAs, set_two]
  · have := (h w.heap.size _ (H.add (F1 := [w.heap.size]) (w' := w.alloc (.cells #[v, u] el)) ⟨rfl, ?_⟩ (only_alloc _ _ _) (by simp))).go _ (ha.put (d := some d) hd _)
    · exact this
    · exact ⟨by simp, .inr ⟨_, 2, #[v, u], rfl, Nat.zero_le _, heap_alloc_new _ _, Nat.le_refl _, by decide, by simp, by simp⟩⟩
theorem K.cap {x : Operand} {t : TypeId} {a : Option Addr} {m c : Nat} {el : TypeId} {sz by_ : Nat} {zz : List Value} [E : ElC P t el sz by_ zz] (hw : wg n ops g e = true) (hd : Nat.blt d n = true) (hx : ev e x = .slice a m c) (h : L P n ops Q rest (upd e d (.int .i64 (c : Int))) w) : L P n ops Q (⟨some d, .call { callee := .builtin .cap, args := #[x], argTypes := #[t] }, tt, pp, af, g⟩ :: rest) e w := by
  obtain ⟨v, E', _⟩ := E.el
  exact L.val (o := ⟨some d, .call { callee := .builtin .cap, args := #[x], argTypes := #[t] }, tt, pp, af, g⟩) _ w hw hd (by
    unfold execOp
    simp [resolve, invoke, builtin, Builtin.cap_, hx, run_underlying E'.slice, goInt]) h
/-- fewer of a row's elements -/
theorem Holds.fewer {el : TypeId} {sz k c m : Nat} {a : Option Addr} {xs : List Value} (i : Nat) (H : Holds s w rs) (hi : rs[i]? = some (Own.row el sz (.slice a k c) k xs)) (hm : m ≤ k) : Holds s w (rs.set i (Own.row el sz (.slice a m c) m (xs.take (m * sz)))) := by
  obtain ⟨F1, hp, hn, hB, h3⟩ := H.upd hi
  obtain ⟨hF, hl, ho⟩ := hp
  refine h3 _ w F1 ⟨by rw [hF]; cases a <;> rfl, by rw [List.length_take, hl]; exact Nat.min_eq_left (Nat.mul_le_mul_right _ hm), ?_⟩ (Only.refl _ _) (fun k hk => .inl hk)
  rcases ho with ⟨he, hx⟩ | ⟨g', cap, cur, hv, hb, hg, h5, h6, h7, h8⟩
  · cases he
    left
    have : m = 0 := by omega
    subst this
    exact ⟨rfl, rfl⟩
  · cases hv
    refine .inr ⟨g', c, cur, rfl, hb, hg, by omega, h6, h7, ?_⟩
    rw [← h8, List.take_take, Nat.min_eq_left (Nat.mul_le_mul_right _ hm)]
/-- a part of a variable, as a slice -/
theorem Src.part {v : Value} {sz k : Nat} {xs : List Value} (i b off c : Nat) (t : TypeId) {cs : List Value} (h : rs[i]? = some (var b t cs)) (hv : v = .slice (some ⟨b, off, none⟩) k c) (h1 : xs.length = k * sz) (h2 : k ≤ c) (h3 : c ≤ maxLen) (hx : (cs.drop off).take xs.length = xs) : Src s rs v sz k xs := by
  subst hv
  refine ⟨fun w H => ⟨some ⟨b, off, none⟩, c, rfl, h1, h2, h3, fun j x hj => ⟨⟨b, off, none⟩, rfl, ?_⟩⟩, fun _ k hk => ?_⟩
  · have hb := H.var h
    have hadd : (⟨b, off, none⟩ : Addr).add j = ⟨b, off + j, none⟩ := by unfold Addr.add; split <;> simp_all
    rw [hadd, cell_of_row w b (off + j) _ _ _ hb]
    rw [← hx, List.getElem?_take] at hj
    split at hj
    · simpa using hj
    · cases hj
  · simp [Value.ownBlock] at hk
    subst hk
    exact .inr ⟨i, _, h, fun w F hp => by have := hp.1; simp [this]⟩
end
end Go.Own

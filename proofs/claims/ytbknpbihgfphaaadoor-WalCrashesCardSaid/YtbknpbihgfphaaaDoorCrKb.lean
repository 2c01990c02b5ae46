/- More rules of the walk: bytes that a string gave, written. Over any program. -/
import Derived.Test.YtbknpbihgfphaaaDoorCrK9
set_option linter.unusedSimpArgs false
set_option linter.unusedVariables false
namespace Go.Own
open Go Go.RowKit
theorem run_storeCells_br (P : Program) (g o : Nat) (t : TypeId) (fz : Nat × Nat) : ∀ (vs : List Value) (i : Nat) (cur : Array Value) (w : World), w.heap[g]? = some (.cells cur t fz) → cur.size ≤ fz.1 → o + i + vs.length ≤ cur.size → (∀ v ∈ vs, v.oneCell' = true) →
    (storeCells ⟨g, o, none⟩ vs i).run P w = .ok () (w.setRow g (cur.toList.take (o + i) ++ vs ++ cur.toList.drop (o + i + vs.length)).toArray)
  | [], i, cur, w, hg, _, _, _ => by
    simp only [storeCells, List.append_nil, List.length_nil, Nat.add_zero, List.take_append_drop, Array.toArray_toList]
    rw [setRow_self w g cur t fz hg]
    rfl
  | v :: rest, i, cur, w, hg, hfz, hl, h1 => by
    have hi : o + i < cur.size := by simp at hl; omega
    have hadd : (⟨g, o, none⟩ : Addr).add i = ⟨g, o + i, none⟩ := by unfold Addr.add; split <;> simp_all
    have hcell : w.cell? ⟨g, o + i, none⟩ = some cur[o + i] := by simp [World.cell?, hg, hi]
    have hfro : w.frozen? ⟨g, o + i, none⟩ = false := by
      obtain ⟨lo, hi'⟩ := fz
      simp only [World.frozen?, hg, Bool.and_eq_false_iff, decide_eq_false_iff_not]
      left
      simp only at hfz
      omega
    have hst : (store ((⟨g, o, none⟩ : Addr).add i) v).run P w = .ok () (w.setRow g (cur.setIfInBounds (o + i) v)) := by
      rw [hadd, run_store P w _ v _ (h1 v (by simp)), hcell]
      simp [hfro, setCell_eq_setRow w g (o + i) cur t fz v hg]
    have ih := run_storeCells_br P g o t fz rest (i + 1) (cur.setIfInBounds (o + i) v) (w.setRow g (cur.setIfInBounds (o + i) v)) (setRow_heap w g cur _ t _ hg) (by simpa using hfz) (by simp at hl ⊢; omega) (fun x hx => h1 x (by simp [hx]))
    simp only [storeCells, Sem.run_bind, hst, Result.andThen_ok, ih, setRow_setRow]
    congr 3
    have e := list_seg_step cur.toList (o + i) v rest (by simp at hl ⊢; omega)
    simpa [Array.toList_setIfInBounds, Nat.add_assoc] using e
section
variable {P : Program} {n : Nat} {ops : Array Oper} {Q : Post} {rest : List Oper} {e : Env} {w w' : World} {s : Ro} {rs : List Asn} {tt : Nat} {pp : String} {af : Array Edge} {g : Option (Nat × Bool)} {d : Nat}
/-- copy(x[off:], y), x bytes that a string gave -/
theorem K.copyB {x y : Operand} {t u el : TypeId} {by_ : Nat} {zz : List Value} [E : ElC P t el 1 by_ zz] (i : Nat) {b off dl dc m c : Nat} {ty : TypeId} {l ys : List UInt8} {yv : Value} (H : Holds s w rs) (hi : rs[i]? = some (brow b ty m c l)) (hsrc : Src s rs yv 1 ys.length (u8s ys)) (h0 : 0 < ys.length) (hk : ys.length ≤ dl) (hfit : off + ys.length ≤ m) (hd : Nat.blt d n = true) (hx : ev e x = .slice (some ⟨b, off, none⟩) dl dc) (hy : ev e y = yv)
    (h : ∀ w', Holds s w' (rs.set i (brow b ty m c (l.take off ++ (ys ++ l.drop (off + ys.length))))) → L P n ops Q rest (upd e d (.int .i64 (ys.length : Int))) w') : L P n ops Q (⟨some d, .call { callee := .builtin .copy, args := #[x, y], argTypes := #[t, u] }, tt, pp, af, none⟩ :: rest) e w := by
  obtain ⟨v, E', _⟩ := E.el
  obtain ⟨inf, i1, i2, i3, i4⟩ := E'.info
  obtain ⟨F1, ⟨hF, cur, fz, hb, h1, h2, h3, h4, h5, h6⟩, _, _, hup⟩ := H.upd hi
  subst hF
  obtain ⟨sa, sc, rfl, hl, _, _, hc⟩ := hsrc.sl H
  rw [u8s_len, Nat.mul_one] at hl
  obtain ⟨ad, rfl, _⟩ := hc 0 (u8 ys[0]) (by simp [u8s, h0])
  have hmin : (u8s ys).length = Nat.min ys.length dl := by rw [u8s_len]; exact (Nat.min_eq_left hk).symm
  have hsrc' : ∀ j v, (u8s ys)[j]? = some v → w.cell? (ad.add j) = some v := fun j v hv => by
    obtain ⟨ad', ha, hcj⟩ := hc j v hv; cases ha; exact hcj
  have hrl := run_loadCells_list (P := P) w ad (u8s ys) hsrc'
  have hst := run_storeCells_br P b off ty fz (u8s ys) 0 cur w hb h6 (by rw [u8s_len]; omega) (u8s_one ys)
  have hcl : cur.toList.length = c := by simpa using h3
  have hlen : (cur.toList.take off ++ u8s ys ++ cur.toList.drop (off + ys.length)).length = c := by
    simp only [List.length_append, List.length_take, List.length_drop, u8s_len, hcl]; omega
  rw [u8s_len, Nat.add_zero] at hst
  have hrun : (Builtin.copy_ #[t, u] tt #[.slice (some ⟨b, off, none⟩) dl dc, .slice (some ad) ys.length sc]).run P w = .ok (.int .i64 (ys.length : Int)) (w.setRow b (cur.toList.take off ++ u8s ys ++ cur.toList.drop (off + ys.length)).toArray) := by
    rw [u8s_len] at hmin
    have hi1 : (P.info? el).map (·.size) = some 1 := by rw [i1]; simp [i3]
    have hsz : inf.size = 1 := by simpa [i1] using hi1
    rw [u8s_len] at hrl
    simp [Builtin.copy_, run_underlying E'.slice, Builtin.lenOf, Builtin.firstCells, sizeOf, typeInfo, i1, hsz, ← hmin, hrl, hst, goInt]
  have hnew : (cur.toList.take off ++ u8s ys ++ cur.toList.drop (off + ys.length)).take m = u8s (l.take off ++ (ys ++ l.drop (off + ys.length))) := by
    have e1 : (cur.toList.take m).take off = cur.toList.take off := by rw [List.take_take, Nat.min_eq_left (by omega)]
    have e2 : (cur.toList.take m).drop (off + ys.length) = (cur.toList.drop (off + ys.length)).take (m - (off + ys.length)) := by rw [List.drop_take]
    have e3 : u8s (l.take off) = (u8s l).take off := by unfold u8s; rw [List.map_take]
    have e4 : u8s (l.drop (off + ys.length)) = (u8s l).drop (off + ys.length) := by unfold u8s; rw [List.map_drop]
    rw [u8s_app, u8s_app, e3, e4, ← h4, e1, e2]
    have l1 : (cur.toList.take off).length = off := by rw [List.length_take]; omega
    have t1 : (cur.toList.take off).take m = cur.toList.take off := List.take_of_length_le (by rw [l1]; omega)
    have t2 : (u8s ys).take (m - off) = u8s ys := List.take_of_length_le (by rw [u8s_len]; omega)
    rw [List.append_assoc, List.take_append, l1, t1, List.take_append, u8s_len, t2, show m - off - ys.length = m - (off + ys.length) by omega]
  refine L.val (o := ⟨some d, .call { callee := .builtin .copy, args := #[x, y], argTypes := #[t, u] }, tt, pp, af, none⟩) _ _ rfl hd ?_ (h _ (hup (brow b ty m c (l.take off ++ (ys ++ l.drop (off + ys.length)))) _ [b] ⟨rfl, (cur.toList.take off ++ u8s ys ++ cur.toList.drop (off + ys.length)).toArray, fz, setRow_heap _ _ _ _ _ _ hb, h1, h2, by rw [List.size_toArray]; exact hlen, hnew, by simp only [List.length_append, List.length_take, List.length_drop]; omega, ?_⟩ (only_setRow _ _ _ (by simp)) (by simp)))
  · unfold execOp
    simp only [resolve, invoke, builtin, Sem.run_bind, Sem.run_pure, Result.andThen_ok, List.map_toArray, List.map_cons, List.map_nil, hx, hy, hrun]
  · rw [List.size_toArray, hlen]; omega
/-- they become read-only -/
theorem Holds.fixBrowP {b c : Nat} {t : TypeId} {l : List UInt8} (H : Holds s w (brow b t l.length c l :: rs)) (h0 : 0 < l.length) : ∃ s', s.Le s' ∧ Holds s' w rs ∧ SlS s' (.slice (some ⟨b, 0, none⟩) l.length c) 1 l.length (u8s l) ∧ Pin s' b 0 (u8 l[0]) := by
  obtain ⟨s', hs, H', h⟩ := H.fixBrow
  refine ⟨s', hs, H', h, ?_⟩
  obtain ⟨g', o, c', hv, _, _, hp⟩ := posS h h0 (by decide)
  cases hv
  simpa using hp 0 (u8 l[0]) (by simp [u8s, h0])
end
end Go.Own

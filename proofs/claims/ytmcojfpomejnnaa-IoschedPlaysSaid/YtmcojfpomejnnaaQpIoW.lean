/- nacelleref15.New, law15.same; iosched.Waiting and Served, which write nothing. -/
import Derived.Test.YtmcojfpomejnnaaQpIoV
set_option linter.unusedSimpArgs false
set_option linter.unusedVariables false
namespace Go.Proofs.Ytmcojfpomejnnaa
open Go Go.RowKit Go.Own
def newFS (dc : List Value) (xv rv lv : Value) (n : Nat) : List FS := [
/-  0 -/ FS.v 9 [] (.agg dc.toArray),
/-  1 -/ FS.v 10 [] xv,
/-  2 -/ FS.v 11 [] rv,
/-  3 -/ FS.v 12 [] lv,
/-  4 -/ FS.v 13 [] rv,
/-  5 -/ FS.v 14 [4] (.int .i64 (n : Int)),
/-  6 -/ FS.row 15 [5] [] 89 1 n (List.replicate n [.slice none 0 0]).flatten,
/-  7 -/ FS.v 16 [] rv,
/-  8 -/ FS.v 17 [7] (.int .i64 (n : Int)),
/-  9 -/ FS.row 18 [8] [] 41 1 n (List.replicate n [.int .u64 0]).flatten]
theorem build_rsch (a0 a1 a2 xa ra la wa va : Option Addr) (o : Bool) (lf : Int) (x0 y0 x1 y1 x2 y2 a b c e f g h i j k : Nat) (w : World) : (Instr.build 77 [(0, .agg [.slice a0 x0 y0, .slice a1 x1 y1, .bool o, .int .i64 lf, .slice a2 x2 y2].toArray), (1, .slice xa a b), (2, .slice ra c e), (5, .slice la f g), (3, .slice wa h i), (4, .slice va j k)].toArray).run Try.prog w = .ok (.agg [.slice a0 x0 y0, .slice a1 x1 y1, .bool o, .int .i64 lf, .slice a2 x2 y2, .slice xa a b, .slice ra c e, .slice wa h i, .slice va j k, .slice la f g, .int .i64 0].toArray) w := by kernel_rfl
theorem rep_flat (n : Nat) (v : Value) : (List.replicate n [v]).flatten = List.replicate n v := by
  induction n with
  | zero => rfl
  | succ n ih => rw [List.replicate_succ, List.flatten_cons, ih]; rfl
theorem svd_new {xs : List Ext} {rooms : List Int} (h : rooms.length = xs.length) (slots : List Int) : svd (SM.new xs rooms slots).parts = List.replicate xs.length (.int .u64 0) := by
  apply List.ext_getElem
  · simp [svd, SM.new, h]
  · intro i h1 h2
    simp [svd, SM.new, newPM]
section
variable {s : Ro} {w : World} {R : List Asn} {xs : List Ext} {rooms slots : List Int} {d : DM}
set_option maxRecDepth 100000 in
set_option maxHeartbeats 1000000 in
theorem RNew_s {v : Value} {xa ra la : Option Addr} {xc rc lc : Nat} (H : Holds s w R) (hR : RefS s v d) (hx : SlS s (.slice xa xs.length xc) 2 xs.length (xs.flatMap Ext.cells)) (hr : SlS s (.slice ra rooms.length rc) 1 rooms.length (rooms.map (Value.int .i64))) (hl : SlS s (.slice la slots.length lc) 1 slots.length (slots.map (Value.int .i64))) (hrl : rooms.length = xs.length) (hfew : xs.length ≤ 8) :
    Calls Try.prog 27 #[v, .slice xa xs.length xc, .slice ra rooms.length rc, .slice la slots.length lc] w fun e w' => ∃ s' bW, e = .returned (.pointer (some ⟨bW, 0, none⟩)) ∧ s.Le s' ∧ RSch s' w' bW xs rooms (SM.new xs rooms slots) d R := by
  obtain ⟨a0, c0, a1, c1, lf, a2, n2, c2, rfl⟩ := hR.cells'
  refine enter Try.func27 rfl Try.ntmps27 rfl ?_
  repeat' (first | refine Z H ?_ | (refine Zc ?_ ?_ <;> intro hc <;> first | (exfalso; omega) | skip) | (refine Y ?_; try change C _ _ _ _ _ _) | (refine Zs H ?_; clear H; (try clear w); intro w H) | (refine Zn H ?_; clear H; (try clear w); (first | ((fail_if_success (have := bl1)); intro bl1 w H) | intro _ w H)) | (refine Ze H ?_; clear H; (try clear w); intro gv w H))
  refine C.flow (newFS [.slice a0 d.secs.length c0, .slice a1 d.pend.length c1, .bool d.off, .int .i64 lf, .slice a2 n2 c2] (.slice xa xs.length xc) (.slice ra rooms.length rc) (.slice la slots.length lc) rooms.length) [0, 1, 2, 3, 6, 9] [0, 1, 2, 3, 4, 5, 6, 7, 8, 9] H (by kernel_rfl) rfl rfl ?_ ?_
  · repeat' (first | exact StepsF.nil | refine StepsF.cons ?_ ?_)
    · intro s1 h w E hs1; (conv => whnf); intro H; replace H : Holds s1 w (var bl1 63 [.slice a0 d.secs.length c0, .slice a1 d.pend.length c1, .bool d.off, .int .i64 lf, .slice a2 n2 c2] :: (R ++ E)) := H
      repeat' (first | refine Z H ?_ | (refine Zc ?_ ?_ <;> intro hc <;> first | (exfalso; omega) | skip) | (refine Y ?_; try change C _ _ _ _ _ _) | (refine Zs H ?_; clear H; (try clear w); intro w H) | (refine Zn H ?_; clear H; (try clear w); (first | ((fail_if_success (have := bl1)); intro bl1 w H) | intro _ w H)) | (refine Ze H ?_; clear H; (try clear w); intro gv w H))
      exact ⟨rfl, by (repeat (first | exact Agr.refl | exact Agr.hav | refine Agr.upd rfl ?_ | refine Agr.in rfl ?_)), s1, Ro.Le.refl _, rfl, H⟩
    · intro s1 h w E hs1; (conv => whnf); intro H; replace H : Holds s1 w (var bl1 63 [.slice a0 d.secs.length c0, .slice a1 d.pend.length c1, .bool d.off, .int .i64 lf, .slice a2 n2 c2] :: (R ++ E)) := H
      repeat' (first | refine Z H ?_ | (refine Zc ?_ ?_ <;> intro hc <;> first | (exfalso; omega) | skip) | (refine Y ?_; try change C _ _ _ _ _ _) | (refine Zs H ?_; clear H; (try clear w); intro w H) | (refine Zn H ?_; clear H; (try clear w); (first | ((fail_if_success (have := bl1)); intro bl1 w H) | intro _ w H)) | (refine Ze H ?_; clear H; (try clear w); intro gv w H))
      exact ⟨rfl, by (repeat (first | exact Agr.refl | exact Agr.hav | refine Agr.upd rfl ?_ | refine Agr.in rfl ?_)), s1, Ro.Le.refl _, rfl, H⟩
    · intro s1 h w E hs1; (conv => whnf); intro H; replace H : Holds s1 w (var bl1 63 [.slice a0 d.secs.length c0, .slice a1 d.pend.length c1, .bool d.off, .int .i64 lf, .slice a2 n2 c2] :: (R ++ E)) := H
      repeat' (first | refine Z H ?_ | (refine Zc ?_ ?_ <;> intro hc <;> first | (exfalso; omega) | skip) | (refine Y ?_; try change C _ _ _ _ _ _) | (refine Zs H ?_; clear H; (try clear w); intro w H) | (refine Zn H ?_; clear H; (try clear w); (first | ((fail_if_success (have := bl1)); intro bl1 w H) | intro _ w H)) | (refine Ze H ?_; clear H; (try clear w); intro gv w H))
      exact ⟨rfl, by (repeat (first | exact Agr.refl | exact Agr.hav | refine Agr.upd rfl ?_ | refine Agr.in rfl ?_)), s1, Ro.Le.refl _, rfl, H⟩
    · intro s1 h w E hs1; (conv => whnf); intro H; replace H : Holds s1 w (var bl1 63 [.slice a0 d.secs.length c0, .slice a1 d.pend.length c1, .bool d.off, .int .i64 lf, .slice a2 n2 c2] :: (R ++ E)) := H
      repeat' (first | refine Z H ?_ | (refine Zc ?_ ?_ <;> intro hc <;> first | (exfalso; omega) | skip) | (refine Y ?_; try change C _ _ _ _ _ _) | (refine Zs H ?_; clear H; (try clear w); intro w H) | (refine Zn H ?_; clear H; (try clear w); (first | ((fail_if_success (have := bl1)); intro bl1 w H) | intro _ w H)) | (refine Ze H ?_; clear H; (try clear w); intro gv w H))
      exact ⟨rfl, by (repeat (first | exact Agr.refl | exact Agr.hav | refine Agr.upd rfl ?_ | refine Agr.in rfl ?_)), s1, Ro.Le.refl _, rfl, H⟩
    · intro s1 h w E hs1; (conv => whnf); intro H; replace H : Holds s1 w (var bl1 63 [.slice a0 d.secs.length c0, .slice a1 d.pend.length c1, .bool d.off, .int .i64 lf, .slice a2 n2 c2] :: (R ++ E)) := H
      repeat' (first | refine Z H ?_ | (refine Zc ?_ ?_ <;> intro hc <;> first | (exfalso; omega) | skip) | (refine Y ?_; try change C _ _ _ _ _ _) | (refine Zs H ?_; clear H; (try clear w); intro w H) | (refine Zn H ?_; clear H; (try clear w); (first | ((fail_if_success (have := bl1)); intro bl1 w H) | intro _ w H)) | (refine Ze H ?_; clear H; (try clear w); intro gv w H))
      exact ⟨rfl, by (repeat (first | exact Agr.refl | exact Agr.hav | refine Agr.upd rfl ?_ | refine Agr.in rfl ?_)), s1, Ro.Le.refl _, rfl, H⟩
    · intro s1 h w E hs1; (conv => whnf); rintro _ rfl; (conv => whnf); intro H; replace H : Holds s1 w (var bl1 63 [.slice a0 d.secs.length c0, .slice a1 d.pend.length c1, .bool d.off, .int .i64 lf, .slice a2 n2 c2] :: (R ++ E)) := H
      repeat' (first | refine Z H ?_ | (refine Zc ?_ ?_ <;> intro hc <;> first | (exfalso; omega) | skip) | (refine Y ?_; try change C _ _ _ _ _ _) | (refine Zs H ?_; clear H; (try clear w); intro w H) | (refine Zn H ?_; clear H; (try clear w); (first | ((fail_if_success (have := bl1)); intro bl1 w H) | intro _ w H)) | (refine Ze H ?_; clear H; (try clear w); intro gv w H))
      exact ⟨rfl, by (repeat (first | exact Agr.refl | exact Agr.hav | refine Agr.upd rfl ?_ | refine Agr.in rfl ?_)), s1, Ro.Le.refl _, rfl, H⟩
    · intro s1 h w E hs1; (conv => whnf); rintro _ rfl; (conv => whnf); intro H; replace H : Holds s1 w (var bl1 63 [.slice a0 d.secs.length c0, .slice a1 d.pend.length c1, .bool d.off, .int .i64 lf, .slice a2 n2 c2] :: (R ++ E)) := H
      refine K.make (k := rooms.length) (m := rooms.length) H rfl rfl rfl rfl rfl (Nat.le_refl _) (by omega) (by unfold maxLen; omega) ?_
      clear H
      intro g7 w H
      (try simp only [List.set_cons_zero, List.set_cons_succ, List.eraseIdx_cons_zero, List.eraseIdx_cons_succ] at H)
      repeat' (first | refine Z H ?_ | (refine Zc ?_ ?_ <;> intro hc <;> first | (exfalso; omega) | skip) | (refine Y ?_; try change C _ _ _ _ _ _) | (refine Zs H ?_; clear H; (try clear w); intro w H) | (refine Zn H ?_; clear H; (try clear w); (first | ((fail_if_success (have := bl1)); intro bl1 w H) | intro _ w H)) | (refine Ze H ?_; clear H; (try clear w); intro gv w H))
      exact ⟨rfl, by (repeat (first | exact Agr.refl | exact Agr.hav | refine Agr.upd rfl ?_ | refine Agr.in rfl ?_)), s1, Ro.Le.refl _, ⟨_, _, rfl⟩, H⟩
    · intro s1 h w E hs1; (conv => whnf); intro H; replace H : Holds s1 w (var bl1 63 [.slice a0 d.secs.length c0, .slice a1 d.pend.length c1, .bool d.off, .int .i64 lf, .slice a2 n2 c2] :: (R ++ E)) := H
      repeat' (first | refine Z H ?_ | (refine Zc ?_ ?_ <;> intro hc <;> first | (exfalso; omega) | skip) | (refine Y ?_; try change C _ _ _ _ _ _) | (refine Zs H ?_; clear H; (try clear w); intro w H) | (refine Zn H ?_; clear H; (try clear w); (first | ((fail_if_success (have := bl1)); intro bl1 w H) | intro _ w H)) | (refine Ze H ?_; clear H; (try clear w); intro gv w H))
      exact ⟨rfl, by (repeat (first | exact Agr.refl | exact Agr.hav | refine Agr.upd rfl ?_ | refine Agr.in rfl ?_)), s1, Ro.Le.refl _, rfl, H⟩
    · intro s1 h w E hs1; (conv => whnf); rintro _ rfl; (conv => whnf); intro H; replace H : Holds s1 w (var bl1 63 [.slice a0 d.secs.length c0, .slice a1 d.pend.length c1, .bool d.off, .int .i64 lf, .slice a2 n2 c2] :: (R ++ E)) := H
      repeat' (first | refine Z H ?_ | (refine Zc ?_ ?_ <;> intro hc <;> first | (exfalso; omega) | skip) | (refine Y ?_; try change C _ _ _ _ _ _) | (refine Zs H ?_; clear H; (try clear w); intro w H) | (refine Zn H ?_; clear H; (try clear w); (first | ((fail_if_success (have := bl1)); intro bl1 w H) | intro _ w H)) | (refine Ze H ?_; clear H; (try clear w); intro gv w H))
      exact ⟨rfl, by (repeat (first | exact Agr.refl | exact Agr.hav | refine Agr.upd rfl ?_ | refine Agr.in rfl ?_)), s1, Ro.Le.refl _, rfl, H⟩
    · intro s1 h w E hs1; (conv => whnf); rintro _ rfl; (conv => whnf); intro H; replace H : Holds s1 w (var bl1 63 [.slice a0 d.secs.length c0, .slice a1 d.pend.length c1, .bool d.off, .int .i64 lf, .slice a2 n2 c2] :: (R ++ E)) := H
      refine K.make (k := rooms.length) (m := rooms.length) H rfl rfl rfl rfl rfl (Nat.le_refl _) (by omega) (by unfold maxLen; omega) ?_
      clear H
      intro g7 w H
      (try simp only [List.set_cons_zero, List.set_cons_succ, List.eraseIdx_cons_zero, List.eraseIdx_cons_succ] at H)
      repeat' (first | refine Z H ?_ | (refine Zc ?_ ?_ <;> intro hc <;> first | (exfalso; omega) | skip) | (refine Y ?_; try change C _ _ _ _ _ _) | (refine Zs H ?_; clear H; (try clear w); intro w H) | (refine Zn H ?_; clear H; (try clear w); (first | ((fail_if_success (have := bl1)); intro bl1 w H) | intro _ w H)) | (refine Ze H ?_; clear H; (try clear w); intro gv w H))
      exact ⟨rfl, by (repeat (first | exact Agr.refl | exact Agr.hav | refine Agr.upd rfl ?_ | refine Agr.in rfl ?_)), s1, Ro.Le.refl _, ⟨_, _, rfl⟩, H⟩
  · intro s1 h w hs1; (conv => whnf); rintro _ rfl; (conv => whnf); rintro _ rfl; (conv => whnf); rintro _ rfl; (conv => whnf); rintro _ rfl; (conv => whnf); rintro _ ⟨a6, c6, rfl⟩; (conv => whnf); rintro _ ⟨a9, c9, rfl⟩; (conv => whnf); intro H; replace H : Holds s1 w (row 89 1 (.slice a6 rooms.length c6) rooms.length (List.replicate rooms.length [.slice none 0 0]).flatten :: row 41 1 (.slice a9 rooms.length c9) rooms.length (List.replicate rooms.length [.int .u64 0]).flatten :: var bl1 63 [.slice a0 d.secs.length c0, .slice a1 d.pend.length c1, .bool d.off, .int .i64 lf, .slice a2 n2 c2] :: R) := H
    change L _ _ _ _ [_, _, _] _ _
    have he : (List.map (fun j => (fsAt (newFS [.slice a0 d.secs.length c0, .slice a1 d.pend.length c1, .bool d.off, .int .i64 lf, .slice a2 n2 c2] (.slice xa xs.length xc) (.slice ra rooms.length rc) (.slice la slots.length lc) rooms.length) j).at_) [0, 1, 2, 3, 6, 9]) = [9, 10, 11, 12, 15, 18] := rfl
    rw [he]
    have hbu := build_rsch a0 a1 a2 xa ra la a6 a9 d.off lf d.secs.length c0 d.pend.length c1 n2 c2 xs.length xc rooms.length rc slots.length lc rooms.length c6 rooms.length c9
    refine K.build _ _ hbu rfl rfl (by simp only [List.map_cons, List.map_nil, ev, upds, upd, Nat.beq_refl, cond_true, cond_false]; rfl) ?_
    repeat' (first | (refine J.box H ?_; clear H; intro bq w H) | refine Z H ?_ | (refine Zc ?_ ?_ <;> intro hc <;> first | (exfalso; omega) | skip) | (refine Y ?_; try change C _ _ _ _ _ _) | (refine Zs H ?_; clear H; (try clear w); intro w H) | (refine Zn H ?_; clear H; (try clear w); (first | ((fail_if_success (have := bl1)); intro bl1 w H) | intro _ w H)) | (refine Ze H ?_; clear H; (try clear w); intro gv w H))
    refine ⟨rfl, ?_⟩
    repeat' (first | refine Z H ?_ | (refine Zc ?_ ?_ <;> intro hc <;> first | (exfalso; omega) | skip) | (refine Y ?_; try change C _ _ _ _ _ _) | (refine Zs H ?_; clear H; (try clear w); intro w H) | (refine Zn H ?_; clear H; (try clear w); (first | ((fail_if_success (have := bl1)); intro bl1 w H) | intro _ w H)) | (refine Ze H ?_; clear H; (try clear w); intro gv w H))
    have hn : (SM.new xs rooms slots).parts.length = rooms.length := by simp [SM.new, hrl]
    rw [rep_flat, rep_flat] at H
    refine ⟨_, resT rfl, s1, _, rfl, hs1, a0, c0, a1, c1, lf, a2, n2, c2, xa, xc, ra, rc, la, lc, List.replicate rooms.length (.slice none 0 0), a6, c6, a9, c9, ⟨hR.mono hs1, hx.mono hs1, hr.mono hs1, hl.mono hs1, by simp [hn], fun i h1 h2 => ?_⟩, ?_⟩
    · rw [List.getElem_replicate]
      have : (SM.new xs rooms slots).parts[i].q = [] := by simp [SM.new, newPM]
      rw [this]
      exact Wl.nil s1
    · rw [svd_new hrl, hn, show List.replicate xs.length (Value.int .u64 0) = List.replicate rooms.length (Value.int .u64 0) by rw [hrl]]
      exact (show Holds s1 _ (var bq 77 [.slice a0 d.secs.length c0, .slice a1 d.pend.length c1, .bool d.off, .int .i64 lf, .slice a2 n2 c2, .slice xa xs.length xc, .slice ra rooms.length rc, .slice a6 rooms.length c6, .slice a9 rooms.length c9, .slice la slots.length lc, .int .i64 0] :: row 89 1 (.slice a6 rooms.length c6) rooms.length (List.replicate rooms.length (.slice none 0 0)) :: row 41 1 (.slice a9 rooms.length c9) rooms.length (List.replicate rooms.length (.int .u64 0)) :: R) from H.arr)
theorem same_s {pt : Int} {n : Nat} {l : List UInt8} {code : Int} {da : Option Addr} {dc : Nat} (H : Holds s w R) (hd : Src s R (.slice da l.length dc) 1 l.length (u8s l)) :
    Calls Try.prog 33 #[.agg #[.int .i64 pt, .int .u64 (n : Int), .slice da l.length dc, .int .i64 code], .agg #[.int .i64 pt, .int .u64 (n : Int), .string (bst l), .int .i64 code]] w fun e w' => e = .returned (.bool true) ∧ Holds s w' R := by
  refine enter Try.func33 rfl Try.ntmps33 rfl ?_
  repeat' (first | (refine K.str H (sk (sk hd)) rfl rfl rfl ?_) | refine Z H ?_ | (refine Zc ?_ ?_ <;> intro hc <;> first | (exfalso; omega) | skip) | (refine Y ?_; try change C _ _ _ _ _ _) | (refine Zs H ?_; clear H; (try clear w); intro w H) | (refine Zn H ?_; clear H; (try clear w); intro _ w H) | (refine Ze H ?_; clear H; (try clear w); intro gv w H))
  all_goals first
    | exact ⟨_, resT rfl, rfl, H.arr⟩
    | exact absurd rfl (by assumption)
end
/-- a schedule that is only read -/
def SchR (s : Ro) (b bS : Nat) (m : SM) : Prop := ∃ va cap ps sv, SRep s b ps m ∧ (∀ j v, ([.slice va ps.length cap, sv, .int .i64 (m.next : Int)] : List Value)[j]? = some v → Pin s bS (0 + j) v) ∧ SlS s (.slice va ps.length cap) 70 ps.length (ps.flatMap Pr.cells)
section
variable {s : Ro} {w : World} {R : List Asn} {b bS : Nat} {m : SM} {i : Int}
theorem Sch.pinned (h : Sch s w b bS m R) : SchR (Own.full s w) b bS m := by
  obtain ⟨va, cap, sa, sc, ps, hr, hsl, H⟩ := h
  have h1 := H.var (i := 0) rfl
  have h2 := H.row (i := 1) rfl
  refine ⟨va, cap, ps, .slice sa m.slots.length sc, hr.mono H.le_full, fun j v hj => ⟨_, _, _, h1, by simpa using hj⟩, ?_⟩
  obtain ⟨h3, h4⟩ := h2
  rcases h4 with ⟨h4, h5⟩ | ⟨g, cap', cur, hv, _, h5, h6, h7, h8, h9⟩
  · injection h4 with e1 e2 e3
    refine ⟨va, cap, rfl, h3, by omega, by rw [e3]; simp [maxLen], .inl (List.eq_nil_of_length_eq_zero (by rw [h3, e2]))⟩
  · cases hv
    refine ⟨_, _, rfl, h3, h6, h7, .inr ⟨g, 0, rfl, fun j x hx => ⟨_, _, _, h5, ?_⟩⟩⟩
    rw [← h9, List.getElem?_take] at hx
    split at hx
    · simpa using hx
    · cases hx
theorem isPart_f {va : Option Addr} {n c : Nat} {v1 v2 : Value} (hn : n ≤ 8) (H : Holds s w R) (hp : ∀ j v, ([.slice va n c, v1, v2] : List Value)[j]? = some v → Pin s bS (0 + j) v) : Calls Try.prog 63 #[.pointer (some ⟨bS, 0, none⟩), .int .i64 i] w fun e w' => e = .returned (.bool (decide (0 ≤ i ∧ i < (n : Int)))) ∧ Holds s w' R := by
  have p0 : Pin s bS 0 (.slice va n c) := hp 0 _ rfl
  refine enter Try.func63 rfl Try.ntmps63 rfl ?_
  repeat' (first | refine Z H ?_ | (refine Zc ?_ ?_ <;> intro hc <;> first | (exfalso; omega) | skip) | (refine Y ?_; try change C _ _ _ _ _ _) | (refine Zs H ?_; clear H; (try clear w); intro w H) | (refine Zn H ?_; clear H; (try clear w); intro _ w H) | (refine Ze H ?_; clear H; (try clear w); intro gv w H))
  all_goals
    refine ⟨_, resT rfl, ?_, H⟩
    first
      | rw [decide_eq_true (by omega)]; rfl
      | rw [decide_eq_false (by omega)]; rfl
theorem Waiting_f (h : SchR s b bS m) (H : Holds s w R) : Calls Try.prog 38 #[.pointer (some ⟨bS, 0, none⟩), .int .i64 i] w fun e w' => e = .returned (.int .i64 (m.waiting i : Int)) ∧ Holds s w' R := by
  obtain ⟨va, cap, ps, sv, hr, hp3, hsl⟩ := h
  have hlen := hr.len
  have hfew := hr.few
  have hP := isPart_f (i := i) (by omega) H hp3
  by_cases hi : 0 ≤ i ∧ i < (ps.length : Int)
  · obtain ⟨j, rfl⟩ : ∃ j : Nat, i = j := ⟨i.toNat, by omega⟩
    have hj : j < ps.length := by omega
    rw [decide_eq_true hi] at hP
    have hv : View ps j ps[j] := ⟨hr.oks, hj, rfl⟩
    have hp := hr.all j hj (by omega)
    have hw : m.waiting (j : Int) = ps[j].count := by
      unfold SM.waiting
      rw [if_pos (by omega), Int.toNat_natCast, List.getElem?_eq_getElem (by omega)]
      exact hp.cnt.symm
    rw [hw]
    have hc : (ps.flatMap Pr.cells)[0 + j * 70 + 4 + 65]? = some (.int .i64 (ps[j].count : Int)) := hv.get (Pr.get_count hp.ok) (by omega)
    obtain ⟨a', c', hv', _, _, _, h5⟩ := hsl
    cases hv'
    obtain ⟨g, o, rfl, h6⟩ : ∃ g o, va = some ⟨g, o, none⟩ ∧ ∀ q x, (ps.flatMap Pr.cells)[q]? = some x → Pin s g (o + q) x := by
      rcases h5 with h5 | h5
      · rw [h5] at hc; cases hc
      · exact h5
    have pc : Pin s g (o + j * 70 + 4 + 65) (.int .i64 (ps[j].count : Int)) := by
      have := h6 _ _ hc
      rwa [show o + (0 + j * 70 + 4 + 65) = o + j * 70 + 4 + 65 by omega] at this
    have p0 : Pin s bS 0 (.slice (some ⟨g, o, none⟩) ps.length cap) := hp3 0 _ rfl
    refine enter Try.func38 rfl Try.ntmps38 rfl ?_
    repeat' (first | refine Z H ?_ | (refine Zc ?_ ?_ <;> intro hc <;> first | (exfalso; omega) | skip) | (refine Y ?_; try change C _ _ _ _ _ _) | (refine Zs H ?_; clear H; (try clear w); intro w H) | (refine Zn H ?_; clear H; (try clear w); intro _ w H) | (refine Ze H ?_; clear H; (try clear w); intro gv w H))
    (refine X.call (hP) ?_; (try clear H); rintro _ w ⟨rfl, H⟩; refine ⟨_, rfl, ?_⟩)
    clear hP
    repeat' (first | refine Z H ?_ | (refine Zc ?_ ?_ <;> intro hc <;> first | (exfalso; omega) | skip) | (refine Y ?_; try change C _ _ _ _ _ _) | (refine Zs H ?_; clear H; (try clear w); intro w H) | (refine Zn H ?_; clear H; (try clear w); intro _ w H) | (refine Ze H ?_; clear H; (try clear w); intro gv w H))
    exact ⟨_, resT rfl, rfl, H⟩
  · rw [decide_eq_false hi] at hP
    have hw : m.waiting i = 0 := by
      unfold SM.waiting
      split
      · rw [List.getElem?_eq_none (by omega)]; rfl
      · rfl
    rw [hw]
    refine enter Try.func38 rfl Try.ntmps38 rfl ?_
    repeat' (first | refine Z H ?_ | (refine Zc ?_ ?_ <;> intro hc <;> first | (exfalso; omega) | skip) | (refine Y ?_; try change C _ _ _ _ _ _) | (refine Zs H ?_; clear H; (try clear w); intro w H) | (refine Zn H ?_; clear H; (try clear w); intro _ w H) | (refine Ze H ?_; clear H; (try clear w); intro gv w H))
    (refine X.call (hP) ?_; (try clear H); rintro _ w ⟨rfl, H⟩; refine ⟨_, rfl, ?_⟩)
    clear hP
    repeat' (first | refine Z H ?_ | (refine Zc ?_ ?_ <;> intro hc <;> first | (exfalso; omega) | skip) | (refine Y ?_; try change C _ _ _ _ _ _) | (refine Zs H ?_; clear H; (try clear w); intro w H) | (refine Zn H ?_; clear H; (try clear w); intro _ w H) | (refine Ze H ?_; clear H; (try clear w); intro gv w H))
    exact ⟨_, resT rfl, rfl, H⟩
theorem Served_f (h : SchR s b bS m) (H : Holds s w R) : Calls Try.prog 39 #[.pointer (some ⟨bS, 0, none⟩), .int .i64 i] w fun e w' => e = .returned (.int .u64 (m.servedN i : Int)) ∧ Holds s w' R := by
  obtain ⟨va, cap, ps, sv, hr, hp3, hsl⟩ := h
  have hlen := hr.len
  have hfew := hr.few
  have hP := isPart_f (i := i) (by omega) H hp3
  by_cases hi : 0 ≤ i ∧ i < (ps.length : Int)
  · obtain ⟨j, rfl⟩ : ∃ j : Nat, i = j := ⟨i.toNat, by omega⟩
    have hj : j < ps.length := by omega
    rw [decide_eq_true hi] at hP
    have hv : View ps j ps[j] := ⟨hr.oks, hj, rfl⟩
    have hp := hr.all j hj (by omega)
    have hw : m.servedN (j : Int) = ps[j].served := by
      unfold SM.servedN
      rw [if_pos (by omega), Int.toNat_natCast, List.getElem?_eq_getElem (by omega)]
      exact hp.served.symm
    rw [hw]
    have hc : (ps.flatMap Pr.cells)[0 + j * 70 + 3]? = some (.int .u64 (ps[j].served : Int)) := hv.get (j := 3) rfl (by omega)
    obtain ⟨a', c', hv', _, _, _, h5⟩ := hsl
    cases hv'
    obtain ⟨g, o, rfl, h6⟩ : ∃ g o, va = some ⟨g, o, none⟩ ∧ ∀ q x, (ps.flatMap Pr.cells)[q]? = some x → Pin s g (o + q) x := by
      rcases h5 with h5 | h5
      · rw [h5] at hc; cases hc
      · exact h5
    have pc : Pin s g (o + j * 70 + 3) (.int .u64 (ps[j].served : Int)) := by
      have := h6 _ _ hc
      rwa [show o + (0 + j * 70 + 3) = o + j * 70 + 3 by omega] at this
    have p0 : Pin s bS 0 (.slice (some ⟨g, o, none⟩) ps.length cap) := hp3 0 _ rfl
    refine enter Try.func39 rfl Try.ntmps39 rfl ?_
    repeat' (first | refine Z H ?_ | (refine Zc ?_ ?_ <;> intro hc <;> first | (exfalso; omega) | skip) | (refine Y ?_; try change C _ _ _ _ _ _) | (refine Zs H ?_; clear H; (try clear w); intro w H) | (refine Zn H ?_; clear H; (try clear w); intro _ w H) | (refine Ze H ?_; clear H; (try clear w); intro gv w H))
    (refine X.call (hP) ?_; (try clear H); rintro _ w ⟨rfl, H⟩; refine ⟨_, rfl, ?_⟩)
    clear hP
    repeat' (first | refine Z H ?_ | (refine Zc ?_ ?_ <;> intro hc <;> first | (exfalso; omega) | skip) | (refine Y ?_; try change C _ _ _ _ _ _) | (refine Zs H ?_; clear H; (try clear w); intro w H) | (refine Zn H ?_; clear H; (try clear w); intro _ w H) | (refine Ze H ?_; clear H; (try clear w); intro gv w H))
    exact ⟨_, resT rfl, rfl, H⟩
  · rw [decide_eq_false hi] at hP
    have hw : m.servedN i = 0 := by
      unfold SM.servedN
      split
      · rw [List.getElem?_eq_none (by omega)]; rfl
      · rfl
    rw [hw]
    refine enter Try.func39 rfl Try.ntmps39 rfl ?_
    repeat' (first | refine Z H ?_ | (refine Zc ?_ ?_ <;> intro hc <;> first | (exfalso; omega) | skip) | (refine Y ?_; try change C _ _ _ _ _ _) | (refine Zs H ?_; clear H; (try clear w); intro w H) | (refine Zn H ?_; clear H; (try clear w); intro _ w H) | (refine Ze H ?_; clear H; (try clear w); intro gv w H))
    (refine X.call (hP) ?_; (try clear H); rintro _ w ⟨rfl, H⟩; refine ⟨_, rfl, ?_⟩)
    clear hP
    repeat' (first | refine Z H ?_ | (refine Zc ?_ ?_ <;> intro hc <;> first | (exfalso; omega) | skip) | (refine Y ?_; try change C _ _ _ _ _ _) | (refine Zs H ?_; clear H; (try clear w); intro w H) | (refine Zn H ?_; clear H; (try clear w); intro _ w H) | (refine Ze H ?_; clear H; (try clear w); intro gv w H))
    exact ⟨_, resT rfl, rfl, H⟩
theorem Waiting_e (H : Holds s w R) (h : SchR (Own.full s w) b bS m) : Calls Try.prog 38 #[.pointer (some ⟨bS, 0, none⟩), .int .i64 i] w fun e w' => e = .returned (.int .i64 (m.waiting i : Int)) ∧ Only [] w w' ∧ Holds s w' R :=
  (Waiting_f h H.full).mono fun e w' ⟨he, H'⟩ => ⟨he, H.pure0 H'⟩
theorem Served_e (H : Holds s w R) (h : SchR (Own.full s w) b bS m) : Calls Try.prog 39 #[.pointer (some ⟨bS, 0, none⟩), .int .i64 i] w fun e w' => e = .returned (.int .u64 (m.servedN i : Int)) ∧ Only [] w w' ∧ Holds s w' R :=
  (Served_f h H.full).mono fun e w' ⟨he, H'⟩ => ⟨he, H.pure0 H'⟩
end
end Go.Proofs.Ytmcojfpomejnnaa

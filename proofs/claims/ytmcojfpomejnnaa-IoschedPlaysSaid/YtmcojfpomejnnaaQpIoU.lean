/- nacelleref15.Ask. -/
import Derived.Test.YtmcojfpomejnnaaQpIoQ
import Derived.Test.YtmcojfpomejnnaaQpK8f
set_option linter.unusedSimpArgs false
set_option linter.unusedVariables false
namespace Go.Proofs.Ytmcojfpomejnnaa
open Go Go.RowKit Go.Own
theorem askP_none {p : PM} (h : p.ext = none) (k a : Int) (l : List UInt8) : askP p k a l = (p, 0, 6) := by unfold askP; rw [h]
theorem askP_form {p : PM} {x : Ext} (h : p.ext = some x) {k a : Int} {l : List UInt8} (hf : formedM k a l.length = false) : askP p k a l = (p, 0, 1) := by unfold askP; rw [h]; simp only; rw [if_pos hf]
theorem askP_far {p : PM} {x : Ext} (h : p.ext = some x) {k a : Int} {l : List UInt8} (hf : formedM k a l.length = true) (hk : k ≠ 2 ∧ (a < 0 ∨ x.2 ≤ a)) : askP p k a l = (p, 0, 4) := by unfold askP; rw [h]; simp only; rw [if_neg (by rw [hf]; decide), if_pos hk]
theorem askP_full {p : PM} {x : Ext} (h : p.ext = some x) {k a : Int} {l : List UInt8} (hf : formedM k a l.length = true) (hk : ¬ (k ≠ 2 ∧ (a < 0 ∨ x.2 ≤ a))) (hr : p.room ≤ (p.q.length : Int)) : askP p k a l = (p, 0, 5) := by unfold askP; rw [h]; simp only; rw [if_neg (by rw [hf]; decide), if_neg hk, if_pos hr]
theorem askP_push {p : PM} {x : Ext} (h : p.ext = some x) {k a : Int} {l : List UInt8} (hf : formedM k a l.length = true) (hk : ¬ (k ≠ 2 ∧ (a < 0 ∨ x.2 ≤ a))) (hr : ¬ p.room ≤ (p.q.length : Int)) : askP p k a l = ({ p with last := p.last + 1, q := p.q ++ [⟨p.last + 1, k, a, l⟩] }, p.last + 1, 0) := by
  unfold askP; rw [h]; simp only; rw [if_neg (by rw [hf]; decide), if_neg hk, if_neg hr, ← h]
def wqFS (bW bl gw wc n j qa qn qc : Nat) (g : Option Addr) (xs y : List Value) : List FS := [
/-  0 -/ FS.v 101 [] (.pointer (some ⟨bW, 0, none⟩)),
/-  1 -/ FS.v 102 [0] (.pointer (some ⟨bW, 0, none⟩)),
/-  2 -/ FS.v 103 [1] (.pointer (some ⟨bW, 7, none⟩)),
/-  3 -/ FS.v 104 [2] (.slice (some ⟨gw, 0, none⟩) n wc),
/-  4 -/ FS.v 105 [] (.int .i64 (j : Int)),
/-  5 -/ FS.row 106 [] [] 45 3 0 [],
/-  6 -/ FS.v 107 [] (.pointer (some ⟨bW, 0, none⟩)),
/-  7 -/ FS.v 108 [6] (.pointer (some ⟨bW, 0, none⟩)),
/-  8 -/ FS.v 109 [7] (.pointer (some ⟨bW, 7, none⟩)),
/-  9 -/ FS.v 110 [8] (.slice (some ⟨gw, 0, none⟩) n wc),
/- 10 -/ FS.v 111 [] (.int .i64 (j : Int)),
/- 11 -/ FS.v 112 [9, 10] (.pointer (some ⟨gw, 0 + j * 1, none⟩)),
/- 12 -/ FS.v 113 [11] (.slice g qn qc),
/- 13 -/ FS.row 114 [5, 12] [5] 45 3 qn xs,
/- 14 -/ FS.v 115 [] (.agg y.toArray),
/- 15 -/ FS.sl 116 [14] 3 1 y,
/- 16 -/ FS.row 117 [13, 15] [13] 45 3 (qn + 1) (xs ++ y),
/- 17 -/ FS.v 118 [3, 4] (.pointer (some ⟨gw, 0 + j * 1, none⟩))]
theorem sk {s : Ro} {rs : List Asn} {A : Asn} {v : Value} {sz n : Nat} {xs : List Value} (h : Src s rs v sz n xs) : Src s (A :: rs) v sz n xs := ⟨fun w H => h.reads w H.tail, fun hx k hk => (h.blk hx k hk).imp id fun ⟨i, A, h1, h2⟩ => ⟨i + 1, A, by simpa using h1, h2⟩⟩
theorem svd_same (l : List PM) {j : Nat} {p : PM} (hj : j < l.length) (h : p.served = l[j].served) : svd (l.set j p) = svd l := by
  rw [svd_set]
  apply List.ext_getElem?
  intro i
  rw [List.getElem?_set]
  split
  · rename_i e; subst e
    simp [svd, hj, h]
  · rfl
theorem wq_one (l : List Wq) : ∀ u ∈ l.flatMap Wq.cells, u.oneCell' = true := by
  intro u hu
  obtain ⟨x, _, hx⟩ := List.mem_flatMap.1 hu
  simp only [Wq.cells, List.mem_cons, List.not_mem_nil, or_false] at hx
  rcases hx with rfl | rfl | rfl <;> rfl
section
variable {s : Ro} {w : World} {R : List Asn} {bW : Nat} {xs : List Ext} {rooms : List Int} {m : SM} {d : DM} {k a i : Int} {da : Option Addr} {dc : Nat} {l : List UInt8}
set_option maxRecDepth 100000 in
set_option maxHeartbeats 1000000 in
theorem RAsk_s (h : RSch s w bW xs rooms m d R) (hP : Pl xs rooms m) (hd : Src s R (.slice da l.length dc) 1 l.length (u8s l)) (hi : I64 i) (ha : I64 a) (hl : l.length ≤ 1000) (hserv : ∀ p ∈ m.parts, p.served ≤ 1000000) :
    Calls Try.prog 28 #[.pointer (some ⟨bW, 0, none⟩), .int .i64 i, .agg #[.int .i64 k, .int .i64 a, .slice da l.length dc]] w fun e w' => ∃ s', e = .returned (.tuple #[.int .u64 ((m.ask i k a l).2.1 : Int), .int .i64 (m.ask i k a l).2.2]) ∧ s.Le s' ∧ RSch s' w' bW xs rooms (m.ask i k a l).1 d R := by
  have hdn := hd
  obtain ⟨a0, c0, a1, c1, lf, a2, n2, c2, xa, xc, ra, rc, la, lc, ws, wa, wc, va, vc, hf, H⟩ := h
  have hlen := hP.len
  have hfew := hP.few
  have hrl := hP.rl
  by_cases hin : 0 ≤ i ∧ i < (xs.length : Int)
  rotate_left
  · rw [ask_far (by omega)]
    refine enter Try.func28 rfl Try.ntmps28 rfl ?_
    repeat' (first | refine Z H ?_ | (refine Zc ?_ ?_ <;> intro hc <;> first | (exfalso; omega) | skip) | (refine Y ?_; try change C _ _ _ _ _ _) | (refine Zs H ?_; clear H; (try clear w); intro w H) | (refine Zn H ?_; clear H; (try clear w); (first | ((fail_if_success (have := bl1)); intro bl1 w H) | intro _ w H)) | (refine Ze H ?_; clear H; (try clear w); intro gv w H))
    all_goals
      refine ⟨_, resTT rfl, s, rfl, Ro.Le.refl _, ?_⟩
      exact ⟨a0, c0, a1, c1, lf, a2, n2, c2, xa, xc, ra, rc, la, lc, ws, wa, wc, va, vc, hf, H.arr⟩
  obtain ⟨j, rfl⟩ : ∃ j : Nat, i = j := ⟨i.toNat, by omega⟩
  have hj : j < xs.length := by omega
  have hjr : j < rooms.length := by omega
  have hjm : j < m.parts.length := by omega
  have hp := hP.all j hj hjr hjm
  have hsv := hserv m.parts[j] (List.getElem_mem _)
  obtain ⟨gx, ox, cx, hv1, _, _, hpx⟩ := elemS hf.hx (fun _ _ => rfl) (by decide) (by omega)
  cases hv1
  obtain ⟨gr, ox2, cx2, hv2, _, _, hpr⟩ := elemS1 hf.hr (by omega)
  cases hv2
  have px : Pin s gx (ox + j * 2 + 1) (.int .i64 xs[j].2) := hpx j hj 1 _ rfl
  have pr : Pin s gr (ox2 + j * 1) (.int .i64 rooms[j]) := by rw [Nat.mul_one]; exact hpr j hjr
  obtain ⟨gw, rfl, _⟩ := H.form (i := 1) rfl (by omega)
  obtain ⟨gsv, rfl, _⟩ := H.form (i := 2) rfl (by omega)
  have hwn := hf.wn
  have hjw : j < ws.length := by omega
  have hW := hf.wl j hjw hjm
  obtain ⟨qa, qc, hqv, hq1, hq2⟩ := hW.form
  have hws : ws[0 + j * 1]? = some (.slice qa m.parts[j].q.length qc) := by
    rw [Nat.zero_add, Nat.mul_one, List.getElem?_eq_getElem hjw, hqv]
  have hsg : (svd m.parts)[0 + j * 1]? = some (.int .u64 (m.parts[j].served : Int)) := by
    rw [Nat.zero_add, Nat.mul_one]
    simp [svd, List.getElem?_eq_getElem hjm]
  have hext := hp.ext
  have hroom := hp.room
  have hr16 := hP.r16 rooms[j] (List.getElem_mem _)
  have hx64 := (hP.xi xs[j] (List.getElem_mem _)).2
  have hlast := hp.last
  rw [ask_at hjm]
  by_cases hx0 : xs[j].2 = 0
  · rw [if_pos hx0] at hext
    rw [askP_none hext, SM.set_self]
    rw [hx0] at px
    refine enter Try.func28 rfl Try.ntmps28 rfl ?_
    repeat' (first | (refine K.iaA (i := 1) rfl rfl rfl rfl rfl (by omega) ?_) | refine Z H ?_ | (refine Zc ?_ ?_ <;> intro hc <;> first | (exfalso; omega) | skip) | (refine Y ?_; try change C _ _ _ _ _ _) | (refine Zs H ?_; clear H; (try clear w); intro w H) | (refine Zn H ?_; clear H; (try clear w); (first | ((fail_if_success (have := bl1)); intro bl1 w H) | intro _ w H)) | (refine Ze H ?_; clear H; (try clear w); intro gv w H))
    exact ⟨_, resTT rfl, s, rfl, Ro.Le.refl _, a0, c0, a1, c1, lf, a2, n2, c2, some ⟨gx, ox, none⟩, xc, some ⟨gr, ox2, none⟩, rc, la, lc, ws, some ⟨gw, 0, none⟩, wc, some ⟨gsv, 0, none⟩, vc, hf, H.arr⟩
  rw [if_neg hx0] at hext
  have haI := ha
  unfold I64 at ha hx64
  refine enter Try.func28 rfl Try.ntmps28 rfl ?_
  repeat' (first | (refine K.iaA (i := 1) rfl rfl rfl rfl rfl (by omega) ?_) | ((fail_if_success (with_reducible show C _ _ _ (Code.seq (Code.seq (Code.region 4 _ _) _) _) _ _)); refine Z H ?_) | (refine Zc ?_ ?_ <;> intro hc <;> first | (exfalso; omega) | skip) | (refine Y ?_; try change C _ _ _ _ _ _) | (refine Zs H ?_; clear H; (try clear w); intro w H) | (refine Zn H ?_; clear H; (try clear w); (first | ((fail_if_success (have := bl1)); intro bl1 w H) | intro _ w H)) | (refine Ze H ?_; clear H; (try clear w); intro gv w H))
  refine C.cut [8, 31, 32, 33] [8] rfl (fun vs w => ∃ n : Int, vs = [.int .i64 n] ∧ (k = 1 ∧ n = 64 ∨ k ≠ 1 ∧ n = 0) ∧ Holds s w (var bl1 45 [.int .i64 k, .int .i64 a, .slice da l.length dc] :: var bW 77 [.slice a0 d.secs.length c0, .slice a1 d.pend.length c1, .bool d.off, .int .i64 lf, .slice a2 n2 c2, .slice (some ⟨gx, ox, none⟩) xs.length xc, .slice (some ⟨gr, ox2, none⟩) rooms.length rc, .slice (some ⟨gw, 0, none⟩) m.parts.length wc, .slice (some ⟨gsv, 0, none⟩) m.parts.length vc, .slice la m.slots.length lc, .int .i64 (m.next : Int)] :: row 89 1 (.slice (some ⟨gw, 0, none⟩) m.parts.length wc) m.parts.length ws :: row 41 1 (.slice (some ⟨gsv, 0, none⟩) m.parts.length vc) m.parts.length (svd m.parts) :: R)) ?_ ?_
  · repeat' (first | refine Z H ?_ | (refine Zc ?_ ?_ <;> intro hc <;> first | (exfalso; omega) | skip) | (refine Y ?_; try change C _ _ _ _ _ _) | (refine Zs H ?_; clear H; (try clear w); intro w H) | (refine Zn H ?_; clear H; (try clear w); (first | ((fail_if_success (have := bl1)); intro bl1 w H) | intro _ w H)) | (refine Ze H ?_; clear H; (try clear w); intro gv w H))
    · exact ⟨by (repeat (first | exact Agr.refl | exact Agr.hav | refine Agr.upd rfl ?_ | refine Agr.in rfl ?_)), 64, rfl, by omega, H.arr⟩
    · exact ⟨by (repeat (first | exact Agr.refl | exact Agr.hav | refine Agr.upd rfl ?_ | refine Agr.in rfl ?_)), 0, rfl, by omega, H.arr⟩
  clear H
  rintro vs hv w ⟨n, rfl, hn, H⟩
  refine C.cut [6, 7, 34, 35, 36, 37, 38, 39, 40, 41, 42, 43, 44, 45, 46, 47, 48, 49, 50, 51, 52, 53, 54, 55, 56, 57, 58] [] rfl (fun vs w => formedM k a l.length = true ∧ Holds s w (var bl1 45 [.int .i64 k, .int .i64 a, .slice da l.length dc] :: var bW 77 [.slice a0 d.secs.length c0, .slice a1 d.pend.length c1, .bool d.off, .int .i64 lf, .slice a2 n2 c2, .slice (some ⟨gx, ox, none⟩) xs.length xc, .slice (some ⟨gr, ox2, none⟩) rooms.length rc, .slice (some ⟨gw, 0, none⟩) m.parts.length wc, .slice (some ⟨gsv, 0, none⟩) m.parts.length vc, .slice la m.slots.length lc, .int .i64 (m.next : Int)] :: row 89 1 (.slice (some ⟨gw, 0, none⟩) m.parts.length wc) m.parts.length ws :: row 41 1 (.slice (some ⟨gsv, 0, none⟩) m.parts.length vc) m.parts.length (svd m.parts) :: R)) ?_ ?_
  · cases hfm : formedM k a l.length with
    | false =>
      rw [askP_form hext hfm, SM.set_self]
      repeat' (first | refine Z H ?_ | (refine Zc ?_ ?_ <;> intro hc <;> first | (exfalso; omega) | skip) | (refine Y ?_; try change C _ _ _ _ _ _) | (refine Zs H ?_; clear H; (try clear w); intro w H) | (refine Zn H ?_; clear H; (try clear w); (first | ((fail_if_success (have := bl1)); intro bl1 w H) | intro _ w H)) | (refine Ze H ?_; clear H; (try clear w); intro gv w H))
      all_goals first
        | exact ⟨_, resTT rfl, s, rfl, Ro.Le.refl _, a0, c0, a1, c1, lf, a2, n2, c2, some ⟨gx, ox, none⟩, xc, some ⟨gr, ox2, none⟩, rc, la, lc, ws, some ⟨gw, 0, none⟩, wc, some ⟨gsv, 0, none⟩, vc, hf, H.arr⟩
        | (exfalso; rw [formed_t (by omega)] at hfm; cases hfm)
    | true =>
      have hfk : k = 1 ∧ l.length = 64 ∨ k = 2 ∧ a = 0 ∧ l.length = 0 ∨ k = 0 ∧ l.length = 0 := Decidable.byContradiction fun h => by rw [formed_f h] at hfm; cases hfm
      repeat' (first | refine Z H ?_ | (refine Zc ?_ ?_ <;> intro hc <;> first | (exfalso; omega) | skip) | (refine Y ?_; try change C _ _ _ _ _ _) | (refine Zs H ?_; clear H; (try clear w); intro w H) | (refine Zn H ?_; clear H; (try clear w); (first | ((fail_if_success (have := bl1)); intro bl1 w H) | intro _ w H)) | (refine Ze H ?_; clear H; (try clear w); intro gv w H))
      all_goals first
        | exact ⟨by (repeat (first | exact Agr.refl | exact Agr.hav | refine Agr.upd rfl ?_ | refine Agr.in rfl ?_)), rfl, H.arr⟩
        | (exfalso; omega)
  clear H
  rintro vs hv w ⟨hfm, H⟩
  refine C.cut [6, 7, 59, 60, 61, 62, 63, 64, 65, 66, 67, 68, 69, 70, 71, 72, 73, 74, 75, 76, 77, 78, 79] [] rfl (fun vs w => ¬ (k ≠ 2 ∧ (a < 0 ∨ xs[j].2 ≤ a)) ∧ Holds s w (var bl1 45 [.int .i64 k, .int .i64 a, .slice da l.length dc] :: var bW 77 [.slice a0 d.secs.length c0, .slice a1 d.pend.length c1, .bool d.off, .int .i64 lf, .slice a2 n2 c2, .slice (some ⟨gx, ox, none⟩) xs.length xc, .slice (some ⟨gr, ox2, none⟩) rooms.length rc, .slice (some ⟨gw, 0, none⟩) m.parts.length wc, .slice (some ⟨gsv, 0, none⟩) m.parts.length vc, .slice la m.slots.length lc, .int .i64 (m.next : Int)] :: row 89 1 (.slice (some ⟨gw, 0, none⟩) m.parts.length wc) m.parts.length ws :: row 41 1 (.slice (some ⟨gsv, 0, none⟩) m.parts.length vc) m.parts.length (svd m.parts) :: R)) ?_ ?_
  · have hk := formed_k hfm
    have e1 := fun h => askP_far (p := m.parts[j]) (l := l) hext hfm h
    generalize hX : xs[j].2 = x2 at *
    repeat' (first | refine Z H ?_ | (refine Zc ?_ ?_ <;> intro hc <;> first | (exfalso; omega) | skip) | (refine Y ?_; try change C _ _ _ _ _ _) | (refine Zs H ?_; clear H; (try clear w); intro w H) | (refine Zn H ?_; clear H; (try clear w); (first | ((fail_if_success (have := bl1)); intro bl1 w H) | intro _ w H)) | (refine Ze H ?_; clear H; (try clear w); intro gv w H))
    refine C.drawn1 [0, 1, 0, 0, 0, 1, 0, 0, 0, 1, 0, 0, 0, 1, 0, 0, 0, 1, 0, 0, 0] [0, 1, 3, 7, 15, 31, 63, 127, 255, 511, 255, 1279, 3327, 7423, 255, 31999, 64767, 130303, 262143, 524287, 1048575] (by kernel_rfl) ?_; replace H := H.drew
    repeat' (first | (refine K.iaA (i := 1) rfl rfl rfl rfl rfl (by omega) ?_) | refine Z H ?_ | (refine Zc ?_ ?_ <;> intro hc <;> first | (exfalso; omega) | skip) | (refine Y ?_; try change C _ _ _ _ _ _) | (refine Zs H ?_; clear H; (try clear w); intro w H) | (refine Zn H ?_; clear H; (try clear w); (first | ((fail_if_success (have := bl1)); intro bl1 w H) | intro _ w H)) | (refine Ze H ?_; clear H; (try clear w); intro gv w H))
    all_goals first
      | exact ⟨by (repeat (first | exact Agr.refl | exact Agr.hav | refine Agr.upd rfl ?_ | refine Agr.in rfl ?_)), by omega, H.arr⟩
      | (rw [e1 (by omega), SM.set_self]; exact ⟨_, resTT rfl, s, rfl, Ro.Le.refl _, a0, c0, a1, c1, lf, a2, n2, c2, some ⟨gx, ox, none⟩, xc, some ⟨gr, ox2, none⟩, rc, la, lc, ws, some ⟨gw, 0, none⟩, wc, some ⟨gsv, 0, none⟩, vc, hf, H.arr⟩)
  clear H
  rintro vs hv' w ⟨hnf, H⟩
  repeat' (first | refine Z H ?_ | (refine Zc ?_ ?_ <;> intro hc <;> first | (exfalso; omega) | skip) | (refine Y ?_; try change C _ _ _ _ _ _) | (refine Zs H ?_; clear H; (try clear w); intro w H) | (refine Zn H ?_; clear H; (try clear w); (first | ((fail_if_success (have := bl1)); intro bl1 w H) | intro _ w H)) | (refine Ze H ?_; clear H; (try clear w); intro gv w H))
  refine C.drawn1 [0, 0, 0, 1, 0, 0, 1, 0, 0, 0, 0, 1, 0, 0, 1, 0] [0, 1, 3, 7, 0, 31, 63, 127, 0, 256, 768, 1792, 0, 7936, 16128, 32767] (by kernel_rfl) ?_; replace H := H.drew
  generalize hX : rooms[j] = room at *
  repeat' (first | refine Z H ?_ | (refine Zc ?_ ?_ <;> intro hc <;> first | (exfalso; omega) | skip) | (refine Y ?_; try change C _ _ _ _ _ _) | (refine Zs H ?_; clear H; (try clear w); intro w H) | (refine Zn H ?_; clear H; (try clear w); (first | ((fail_if_success (have := bl1)); intro bl1 w H) | intro _ w H)) | (refine Ze H ?_; clear H; (try clear w); intro gv w H))
  · rw [askP_full hext hfm hnf (by omega), SM.set_self]
    exact ⟨_, resTT rfl, s, rfl, Ro.Le.refl _, a0, c0, a1, c1, lf, a2, n2, c2, some ⟨gx, ox, none⟩, xc, some ⟨gr, ox2, none⟩, rc, la, lc, ws, some ⟨gw, 0, none⟩, wc, some ⟨gsv, 0, none⟩, vc, hf, H.arr⟩
  have hnr : ¬ m.parts[j].room ≤ (m.parts[j].q.length : Int) := by omega
  rw [askP_push hext hfm hnf hnr]
  obtain ⟨ql, hqm, hqs, hqd⟩ := hW
  rw [hqv] at hqs
  have hqn : m.parts[j].q.length = ql.length := by rw [← hqm, List.length_map]
  rw [hqn] at hqs hws
  repeat' (first | refine Z H ?_ | (refine Zc ?_ ?_ <;> intro hc <;> first | (exfalso; omega) | skip) | (refine Y ?_; try change C _ _ _ _ _ _) | (refine Zs H ?_; clear H; (try clear w); intro w H) | (refine Zn H ?_; clear H; (try clear w); (first | ((fail_if_success (have := bl1)); intro bl1 w H) | intro _ w H)) | (refine Ze H ?_; clear H; (try clear w); intro gv w H))
  refine K.app0 0 H rfl (sk (sk (sk (sk (sk hd))))) (u8s_one _) (by unfold maxLen; omega) (by omega) rfl rfl rfl ?_
  clear H
  intro aa cc w H
  (try simp only [List.set_cons_zero, List.set_cons_succ, List.eraseIdx_cons_zero, List.eraseIdx_cons_succ] at H)
  repeat' (first | refine Z H ?_ | (refine Zc ?_ ?_ <;> intro hc <;> first | (exfalso; omega) | skip) | (refine Y ?_; try change C _ _ _ _ _ _) | (refine Zs H ?_; clear H; (try clear w); intro w H) | (refine Zn H ?_; clear H; (try clear w); (first | ((fail_if_success (have := bl1)); intro bl1 w H) | intro _ w H)) | (refine Ze H ?_; clear H; (try clear w); intro gv w H))
  obtain ⟨sB, hsB, H, hrow⟩ := H.fixRow
  refine C.flow (wqFS bW bl1 gw wc m.parts.length j 0 ql.length qc qa (ql.flatMap Wq.cells) [.int .i64 k, .int .i64 a, .slice aa l.length cc]) [16, 17] [0, 1, 2, 3, 4, 6, 7, 8, 9, 10, 11, 12, 14, 15, 16, 17] H (by kernel_rfl) rfl rfl ?_ ?_
  · repeat' (first | exact StepsF.nil | refine StepsF.cons ?_ ?_)
    · intro s1 h w E hs1; (conv => whnf); intro H; replace H : Holds s1 w (var bl1 45 [.int .i64 k, .int .i64 a, .slice aa l.length cc] :: var bW 77 [.slice a0 d.secs.length c0, .slice a1 d.pend.length c1, .bool d.off, .int .i64 lf, .slice a2 n2 c2, .slice (some ⟨gx, ox, none⟩) xs.length xc, .slice (some ⟨gr, ox2, none⟩) rooms.length rc, .slice (some ⟨gw, 0, none⟩) m.parts.length wc, .slice (some ⟨gsv, 0, none⟩) m.parts.length vc, .slice la m.slots.length lc, .int .i64 (m.next : Int)] :: row 89 1 (.slice (some ⟨gw, 0, none⟩) m.parts.length wc) m.parts.length ws :: row 41 1 (.slice (some ⟨gsv, 0, none⟩) m.parts.length vc) m.parts.length (svd m.parts) :: (R ++ E)) := H
      repeat' (first | refine Z H ?_ | (refine Zc ?_ ?_ <;> intro hc <;> first | (exfalso; omega) | skip) | (refine Y ?_; try change C _ _ _ _ _ _) | (refine Zs H ?_; clear H; (try clear w); intro w H) | (refine Zn H ?_; clear H; (try clear w); (first | ((fail_if_success (have := bl1)); intro bl1 w H) | intro _ w H)) | (refine Ze H ?_; clear H; (try clear w); intro gv w H))
      exact ⟨rfl, by (repeat (first | exact Agr.refl | exact Agr.hav | refine Agr.upd rfl ?_ | refine Agr.in rfl ?_)), s1, Ro.Le.refl _, rfl, H⟩
    · intro s1 h w E hs1; (conv => whnf); rintro _ rfl; (conv => whnf); intro H; replace H : Holds s1 w (var bl1 45 [.int .i64 k, .int .i64 a, .slice aa l.length cc] :: var bW 77 [.slice a0 d.secs.length c0, .slice a1 d.pend.length c1, .bool d.off, .int .i64 lf, .slice a2 n2 c2, .slice (some ⟨gx, ox, none⟩) xs.length xc, .slice (some ⟨gr, ox2, none⟩) rooms.length rc, .slice (some ⟨gw, 0, none⟩) m.parts.length wc, .slice (some ⟨gsv, 0, none⟩) m.parts.length vc, .slice la m.slots.length lc, .int .i64 (m.next : Int)] :: row 89 1 (.slice (some ⟨gw, 0, none⟩) m.parts.length wc) m.parts.length ws :: row 41 1 (.slice (some ⟨gsv, 0, none⟩) m.parts.length vc) m.parts.length (svd m.parts) :: (R ++ E)) := H
      repeat' (first | refine Z H ?_ | (refine Zc ?_ ?_ <;> intro hc <;> first | (exfalso; omega) | skip) | (refine Y ?_; try change C _ _ _ _ _ _) | (refine Zs H ?_; clear H; (try clear w); intro w H) | (refine Zn H ?_; clear H; (try clear w); (first | ((fail_if_success (have := bl1)); intro bl1 w H) | intro _ w H)) | (refine Ze H ?_; clear H; (try clear w); intro gv w H))
      exact ⟨rfl, by (repeat (first | exact Agr.refl | exact Agr.hav | refine Agr.upd rfl ?_ | refine Agr.in rfl ?_)), s1, Ro.Le.refl _, rfl, H⟩
    · intro s1 h w E hs1; (conv => whnf); rintro _ rfl; (conv => whnf); intro H; replace H : Holds s1 w (var bl1 45 [.int .i64 k, .int .i64 a, .slice aa l.length cc] :: var bW 77 [.slice a0 d.secs.length c0, .slice a1 d.pend.length c1, .bool d.off, .int .i64 lf, .slice a2 n2 c2, .slice (some ⟨gx, ox, none⟩) xs.length xc, .slice (some ⟨gr, ox2, none⟩) rooms.length rc, .slice (some ⟨gw, 0, none⟩) m.parts.length wc, .slice (some ⟨gsv, 0, none⟩) m.parts.length vc, .slice la m.slots.length lc, .int .i64 (m.next : Int)] :: row 89 1 (.slice (some ⟨gw, 0, none⟩) m.parts.length wc) m.parts.length ws :: row 41 1 (.slice (some ⟨gsv, 0, none⟩) m.parts.length vc) m.parts.length (svd m.parts) :: (R ++ E)) := H
      repeat' (first | refine Z H ?_ | (refine Zc ?_ ?_ <;> intro hc <;> first | (exfalso; omega) | skip) | (refine Y ?_; try change C _ _ _ _ _ _) | (refine Zs H ?_; clear H; (try clear w); intro w H) | (refine Zn H ?_; clear H; (try clear w); (first | ((fail_if_success (have := bl1)); intro bl1 w H) | intro _ w H)) | (refine Ze H ?_; clear H; (try clear w); intro gv w H))
      exact ⟨rfl, by (repeat (first | exact Agr.refl | exact Agr.hav | refine Agr.upd rfl ?_ | refine Agr.in rfl ?_)), s1, Ro.Le.refl _, rfl, H⟩
    · intro s1 h w E hs1; (conv => whnf); rintro _ rfl; (conv => whnf); intro H; replace H : Holds s1 w (var bl1 45 [.int .i64 k, .int .i64 a, .slice aa l.length cc] :: var bW 77 [.slice a0 d.secs.length c0, .slice a1 d.pend.length c1, .bool d.off, .int .i64 lf, .slice a2 n2 c2, .slice (some ⟨gx, ox, none⟩) xs.length xc, .slice (some ⟨gr, ox2, none⟩) rooms.length rc, .slice (some ⟨gw, 0, none⟩) m.parts.length wc, .slice (some ⟨gsv, 0, none⟩) m.parts.length vc, .slice la m.slots.length lc, .int .i64 (m.next : Int)] :: row 89 1 (.slice (some ⟨gw, 0, none⟩) m.parts.length wc) m.parts.length ws :: row 41 1 (.slice (some ⟨gsv, 0, none⟩) m.parts.length vc) m.parts.length (svd m.parts) :: (R ++ E)) := H
      repeat' (first | refine Z H ?_ | (refine Zc ?_ ?_ <;> intro hc <;> first | (exfalso; omega) | skip) | (refine Y ?_; try change C _ _ _ _ _ _) | (refine Zs H ?_; clear H; (try clear w); intro w H) | (refine Zn H ?_; clear H; (try clear w); (first | ((fail_if_success (have := bl1)); intro bl1 w H) | intro _ w H)) | (refine Ze H ?_; clear H; (try clear w); intro gv w H))
      exact ⟨rfl, by (repeat (first | exact Agr.refl | exact Agr.hav | refine Agr.upd rfl ?_ | refine Agr.in rfl ?_)), s1, Ro.Le.refl _, rfl, H⟩
    · intro s1 h w E hs1; (conv => whnf); intro H; replace H : Holds s1 w (var bl1 45 [.int .i64 k, .int .i64 a, .slice aa l.length cc] :: var bW 77 [.slice a0 d.secs.length c0, .slice a1 d.pend.length c1, .bool d.off, .int .i64 lf, .slice a2 n2 c2, .slice (some ⟨gx, ox, none⟩) xs.length xc, .slice (some ⟨gr, ox2, none⟩) rooms.length rc, .slice (some ⟨gw, 0, none⟩) m.parts.length wc, .slice (some ⟨gsv, 0, none⟩) m.parts.length vc, .slice la m.slots.length lc, .int .i64 (m.next : Int)] :: row 89 1 (.slice (some ⟨gw, 0, none⟩) m.parts.length wc) m.parts.length ws :: row 41 1 (.slice (some ⟨gsv, 0, none⟩) m.parts.length vc) m.parts.length (svd m.parts) :: (R ++ E)) := H
      repeat' (first | refine Z H ?_ | (refine Zc ?_ ?_ <;> intro hc <;> first | (exfalso; omega) | skip) | (refine Y ?_; try change C _ _ _ _ _ _) | (refine Zs H ?_; clear H; (try clear w); intro w H) | (refine Zn H ?_; clear H; (try clear w); (first | ((fail_if_success (have := bl1)); intro bl1 w H) | intro _ w H)) | (refine Ze H ?_; clear H; (try clear w); intro gv w H))
      exact ⟨rfl, by (repeat (first | exact Agr.refl | exact Agr.hav | refine Agr.upd rfl ?_ | refine Agr.in rfl ?_)), s1, Ro.Le.refl _, rfl, H⟩
    · intro s1 h w E hs1; (conv => whnf); intro H; replace H : Holds s1 w (var bl1 45 [.int .i64 k, .int .i64 a, .slice aa l.length cc] :: var bW 77 [.slice a0 d.secs.length c0, .slice a1 d.pend.length c1, .bool d.off, .int .i64 lf, .slice a2 n2 c2, .slice (some ⟨gx, ox, none⟩) xs.length xc, .slice (some ⟨gr, ox2, none⟩) rooms.length rc, .slice (some ⟨gw, 0, none⟩) m.parts.length wc, .slice (some ⟨gsv, 0, none⟩) m.parts.length vc, .slice la m.slots.length lc, .int .i64 (m.next : Int)] :: row 89 1 (.slice (some ⟨gw, 0, none⟩) m.parts.length wc) m.parts.length ws :: row 41 1 (.slice (some ⟨gsv, 0, none⟩) m.parts.length vc) m.parts.length (svd m.parts) :: (R ++ E)) := H
      repeat' (first | refine Z H ?_ | (refine Zc ?_ ?_ <;> intro hc <;> first | (exfalso; omega) | skip) | (refine Y ?_; try change C _ _ _ _ _ _) | (refine Zs H ?_; clear H; (try clear w); intro w H) | (refine Zn H ?_; clear H; (try clear w); (first | ((fail_if_success (have := bl1)); intro bl1 w H) | intro _ w H)) | (refine Ze H ?_; clear H; (try clear w); intro gv w H))
      exact ⟨rfl, by (repeat (first | exact Agr.refl | exact Agr.hav | refine Agr.upd rfl ?_ | refine Agr.in rfl ?_)), s1, Ro.Le.refl _, ⟨_, _, rfl⟩, H⟩
    · intro s1 h w E hs1; (conv => whnf); intro H; replace H : Holds s1 w (var bl1 45 [.int .i64 k, .int .i64 a, .slice aa l.length cc] :: var bW 77 [.slice a0 d.secs.length c0, .slice a1 d.pend.length c1, .bool d.off, .int .i64 lf, .slice a2 n2 c2, .slice (some ⟨gx, ox, none⟩) xs.length xc, .slice (some ⟨gr, ox2, none⟩) rooms.length rc, .slice (some ⟨gw, 0, none⟩) m.parts.length wc, .slice (some ⟨gsv, 0, none⟩) m.parts.length vc, .slice la m.slots.length lc, .int .i64 (m.next : Int)] :: row 89 1 (.slice (some ⟨gw, 0, none⟩) m.parts.length wc) m.parts.length ws :: row 41 1 (.slice (some ⟨gsv, 0, none⟩) m.parts.length vc) m.parts.length (svd m.parts) :: (R ++ E)) := H
      repeat' (first | refine Z H ?_ | (refine Zc ?_ ?_ <;> intro hc <;> first | (exfalso; omega) | skip) | (refine Y ?_; try change C _ _ _ _ _ _) | (refine Zs H ?_; clear H; (try clear w); intro w H) | (refine Zn H ?_; clear H; (try clear w); (first | ((fail_if_success (have := bl1)); intro bl1 w H) | intro _ w H)) | (refine Ze H ?_; clear H; (try clear w); intro gv w H))
      exact ⟨rfl, by (repeat (first | exact Agr.refl | exact Agr.hav | refine Agr.upd rfl ?_ | refine Agr.in rfl ?_)), s1, Ro.Le.refl _, rfl, H⟩
    · intro s1 h w E hs1; (conv => whnf); rintro _ rfl; (conv => whnf); intro H; replace H : Holds s1 w (var bl1 45 [.int .i64 k, .int .i64 a, .slice aa l.length cc] :: var bW 77 [.slice a0 d.secs.length c0, .slice a1 d.pend.length c1, .bool d.off, .int .i64 lf, .slice a2 n2 c2, .slice (some ⟨gx, ox, none⟩) xs.length xc, .slice (some ⟨gr, ox2, none⟩) rooms.length rc, .slice (some ⟨gw, 0, none⟩) m.parts.length wc, .slice (some ⟨gsv, 0, none⟩) m.parts.length vc, .slice la m.slots.length lc, .int .i64 (m.next : Int)] :: row 89 1 (.slice (some ⟨gw, 0, none⟩) m.parts.length wc) m.parts.length ws :: row 41 1 (.slice (some ⟨gsv, 0, none⟩) m.parts.length vc) m.parts.length (svd m.parts) :: (R ++ E)) := H
      repeat' (first | refine Z H ?_ | (refine Zc ?_ ?_ <;> intro hc <;> first | (exfalso; omega) | skip) | (refine Y ?_; try change C _ _ _ _ _ _) | (refine Zs H ?_; clear H; (try clear w); intro w H) | (refine Zn H ?_; clear H; (try clear w); (first | ((fail_if_success (have := bl1)); intro bl1 w H) | intro _ w H)) | (refine Ze H ?_; clear H; (try clear w); intro gv w H))
      exact ⟨rfl, by (repeat (first | exact Agr.refl | exact Agr.hav | refine Agr.upd rfl ?_ | refine Agr.in rfl ?_)), s1, Ro.Le.refl _, rfl, H⟩
    · intro s1 h w E hs1; (conv => whnf); rintro _ rfl; (conv => whnf); intro H; replace H : Holds s1 w (var bl1 45 [.int .i64 k, .int .i64 a, .slice aa l.length cc] :: var bW 77 [.slice a0 d.secs.length c0, .slice a1 d.pend.length c1, .bool d.off, .int .i64 lf, .slice a2 n2 c2, .slice (some ⟨gx, ox, none⟩) xs.length xc, .slice (some ⟨gr, ox2, none⟩) rooms.length rc, .slice (some ⟨gw, 0, none⟩) m.parts.length wc, .slice (some ⟨gsv, 0, none⟩) m.parts.length vc, .slice la m.slots.length lc, .int .i64 (m.next : Int)] :: row 89 1 (.slice (some ⟨gw, 0, none⟩) m.parts.length wc) m.parts.length ws :: row 41 1 (.slice (some ⟨gsv, 0, none⟩) m.parts.length vc) m.parts.length (svd m.parts) :: (R ++ E)) := H
      repeat' (first | refine Z H ?_ | (refine Zc ?_ ?_ <;> intro hc <;> first | (exfalso; omega) | skip) | (refine Y ?_; try change C _ _ _ _ _ _) | (refine Zs H ?_; clear H; (try clear w); intro w H) | (refine Zn H ?_; clear H; (try clear w); (first | ((fail_if_success (have := bl1)); intro bl1 w H) | intro _ w H)) | (refine Ze H ?_; clear H; (try clear w); intro gv w H))
      exact ⟨rfl, by (repeat (first | exact Agr.refl | exact Agr.hav | refine Agr.upd rfl ?_ | refine Agr.in rfl ?_)), s1, Ro.Le.refl _, rfl, H⟩
    · intro s1 h w E hs1; (conv => whnf); rintro _ rfl; (conv => whnf); intro H; replace H : Holds s1 w (var bl1 45 [.int .i64 k, .int .i64 a, .slice aa l.length cc] :: var bW 77 [.slice a0 d.secs.length c0, .slice a1 d.pend.length c1, .bool d.off, .int .i64 lf, .slice a2 n2 c2, .slice (some ⟨gx, ox, none⟩) xs.length xc, .slice (some ⟨gr, ox2, none⟩) rooms.length rc, .slice (some ⟨gw, 0, none⟩) m.parts.length wc, .slice (some ⟨gsv, 0, none⟩) m.parts.length vc, .slice la m.slots.length lc, .int .i64 (m.next : Int)] :: row 89 1 (.slice (some ⟨gw, 0, none⟩) m.parts.length wc) m.parts.length ws :: row 41 1 (.slice (some ⟨gsv, 0, none⟩) m.parts.length vc) m.parts.length (svd m.parts) :: (R ++ E)) := H
      repeat' (first | refine Z H ?_ | (refine Zc ?_ ?_ <;> intro hc <;> first | (exfalso; omega) | skip) | (refine Y ?_; try change C _ _ _ _ _ _) | (refine Zs H ?_; clear H; (try clear w); intro w H) | (refine Zn H ?_; clear H; (try clear w); (first | ((fail_if_success (have := bl1)); intro bl1 w H) | intro _ w H)) | (refine Ze H ?_; clear H; (try clear w); intro gv w H))
      exact ⟨rfl, by (repeat (first | exact Agr.refl | exact Agr.hav | refine Agr.upd rfl ?_ | refine Agr.in rfl ?_)), s1, Ro.Le.refl _, rfl, H⟩
    · intro s1 h w E hs1; (conv => whnf); intro H; replace H : Holds s1 w (var bl1 45 [.int .i64 k, .int .i64 a, .slice aa l.length cc] :: var bW 77 [.slice a0 d.secs.length c0, .slice a1 d.pend.length c1, .bool d.off, .int .i64 lf, .slice a2 n2 c2, .slice (some ⟨gx, ox, none⟩) xs.length xc, .slice (some ⟨gr, ox2, none⟩) rooms.length rc, .slice (some ⟨gw, 0, none⟩) m.parts.length wc, .slice (some ⟨gsv, 0, none⟩) m.parts.length vc, .slice la m.slots.length lc, .int .i64 (m.next : Int)] :: row 89 1 (.slice (some ⟨gw, 0, none⟩) m.parts.length wc) m.parts.length ws :: row 41 1 (.slice (some ⟨gsv, 0, none⟩) m.parts.length vc) m.parts.length (svd m.parts) :: (R ++ E)) := H
      repeat' (first | refine Z H ?_ | (refine Zc ?_ ?_ <;> intro hc <;> first | (exfalso; omega) | skip) | (refine Y ?_; try change C _ _ _ _ _ _) | (refine Zs H ?_; clear H; (try clear w); intro w H) | (refine Zn H ?_; clear H; (try clear w); (first | ((fail_if_success (have := bl1)); intro bl1 w H) | intro _ w H)) | (refine Ze H ?_; clear H; (try clear w); intro gv w H))
      exact ⟨rfl, by (repeat (first | exact Agr.refl | exact Agr.hav | refine Agr.upd rfl ?_ | refine Agr.in rfl ?_)), s1, Ro.Le.refl _, rfl, H⟩
    · intro s1 h w E hs1; (conv => whnf); rintro _ rfl; (conv => whnf); rintro _ rfl; (conv => whnf); intro H; replace H : Holds s1 w (var bl1 45 [.int .i64 k, .int .i64 a, .slice aa l.length cc] :: var bW 77 [.slice a0 d.secs.length c0, .slice a1 d.pend.length c1, .bool d.off, .int .i64 lf, .slice a2 n2 c2, .slice (some ⟨gx, ox, none⟩) xs.length xc, .slice (some ⟨gr, ox2, none⟩) rooms.length rc, .slice (some ⟨gw, 0, none⟩) m.parts.length wc, .slice (some ⟨gsv, 0, none⟩) m.parts.length vc, .slice la m.slots.length lc, .int .i64 (m.next : Int)] :: row 89 1 (.slice (some ⟨gw, 0, none⟩) m.parts.length wc) m.parts.length ws :: row 41 1 (.slice (some ⟨gsv, 0, none⟩) m.parts.length vc) m.parts.length (svd m.parts) :: (R ++ E)) := H
      repeat' (first | refine Z H ?_ | (refine Zc ?_ ?_ <;> intro hc <;> first | (exfalso; omega) | skip) | (refine Y ?_; try change C _ _ _ _ _ _) | (refine Zs H ?_; clear H; (try clear w); intro w H) | (refine Zn H ?_; clear H; (try clear w); (first | ((fail_if_success (have := bl1)); intro bl1 w H) | intro _ w H)) | (refine Ze H ?_; clear H; (try clear w); intro gv w H))
      exact ⟨rfl, by (repeat (first | exact Agr.refl | exact Agr.hav | refine Agr.upd rfl ?_ | refine Agr.in rfl ?_)), s1, Ro.Le.refl _, rfl, H⟩
    · intro s1 h w E hs1; (conv => whnf); rintro _ rfl; (conv => whnf); intro H; replace H : Holds s1 w (var bl1 45 [.int .i64 k, .int .i64 a, .slice aa l.length cc] :: var bW 77 [.slice a0 d.secs.length c0, .slice a1 d.pend.length c1, .bool d.off, .int .i64 lf, .slice a2 n2 c2, .slice (some ⟨gx, ox, none⟩) xs.length xc, .slice (some ⟨gr, ox2, none⟩) rooms.length rc, .slice (some ⟨gw, 0, none⟩) m.parts.length wc, .slice (some ⟨gsv, 0, none⟩) m.parts.length vc, .slice la m.slots.length lc, .int .i64 (m.next : Int)] :: row 89 1 (.slice (some ⟨gw, 0, none⟩) m.parts.length wc) m.parts.length ws :: row 41 1 (.slice (some ⟨gsv, 0, none⟩) m.parts.length vc) m.parts.length (svd m.parts) :: (R ++ E)) := H
      repeat' (first | refine Z H ?_ | (refine Zc ?_ ?_ <;> intro hc <;> first | (exfalso; omega) | skip) | (refine Y ?_; try change C _ _ _ _ _ _) | (refine Zs H ?_; clear H; (try clear w); intro w H) | (refine Zn H ?_; clear H; (try clear w); (first | ((fail_if_success (have := bl1)); intro bl1 w H) | intro _ w H)) | (refine Ze H ?_; clear H; (try clear w); intro gv w H))
      exact ⟨rfl, by (repeat (first | exact Agr.refl | exact Agr.hav | refine Agr.upd rfl ?_ | refine Agr.in rfl ?_)), s1, Ro.Le.refl _, rfl, H⟩
    · intro s1 h w E hs1; (conv => whnf); rintro _ ⟨a3, c3, rfl⟩; (conv => whnf); rintro _ rfl; (conv => whnf); intro H; replace H : Holds s1 w (row 45 3 (.slice a3 0 c3) 0 [] :: var bl1 45 [.int .i64 k, .int .i64 a, .slice aa l.length cc] :: var bW 77 [.slice a0 d.secs.length c0, .slice a1 d.pend.length c1, .bool d.off, .int .i64 lf, .slice a2 n2 c2, .slice (some ⟨gx, ox, none⟩) xs.length xc, .slice (some ⟨gr, ox2, none⟩) rooms.length rc, .slice (some ⟨gw, 0, none⟩) m.parts.length wc, .slice (some ⟨gsv, 0, none⟩) m.parts.length vc, .slice la m.slots.length lc, .int .i64 (m.next : Int)] :: row 89 1 (.slice (some ⟨gw, 0, none⟩) m.parts.length wc) m.parts.length ws :: row 41 1 (.slice (some ⟨gsv, 0, none⟩) m.parts.length vc) m.parts.length (svd m.parts) :: (R ++ E)) := H
      refine K.app0 0 H rfl (.ro (hqs.mono (hsB.trans hs1))) (wq_one ql) (by unfold maxLen; omega) (by omega) rfl rfl rfl ?_
      clear H
      intro a5 c5 w H
      (try simp only [List.set_cons_zero, List.set_cons_succ, List.eraseIdx_cons_zero, List.eraseIdx_cons_succ] at H)
      repeat' (first | refine Z H ?_ | (refine Zc ?_ ?_ <;> intro hc <;> first | (exfalso; omega) | skip) | (refine Y ?_; try change C _ _ _ _ _ _) | (refine Zs H ?_; clear H; (try clear w); intro w H) | (refine Zn H ?_; clear H; (try clear w); (first | ((fail_if_success (have := bl1)); intro bl1 w H) | intro _ w H)) | (refine Ze H ?_; clear H; (try clear w); intro gv w H))
      exact ⟨rfl, by (repeat (first | exact Agr.refl | exact Agr.hav | refine Agr.upd rfl ?_ | refine Agr.in rfl ?_)), s1, Ro.Le.refl _, ⟨_, _, rfl⟩, H⟩
    · intro s1 h w E hs1; (conv => whnf); intro H; replace H : Holds s1 w (var bl1 45 [.int .i64 k, .int .i64 a, .slice aa l.length cc] :: var bW 77 [.slice a0 d.secs.length c0, .slice a1 d.pend.length c1, .bool d.off, .int .i64 lf, .slice a2 n2 c2, .slice (some ⟨gx, ox, none⟩) xs.length xc, .slice (some ⟨gr, ox2, none⟩) rooms.length rc, .slice (some ⟨gw, 0, none⟩) m.parts.length wc, .slice (some ⟨gsv, 0, none⟩) m.parts.length vc, .slice la m.slots.length lc, .int .i64 (m.next : Int)] :: row 89 1 (.slice (some ⟨gw, 0, none⟩) m.parts.length wc) m.parts.length ws :: row 41 1 (.slice (some ⟨gsv, 0, none⟩) m.parts.length vc) m.parts.length (svd m.parts) :: (R ++ E)) := H
      repeat' (first | refine Z H ?_ | (refine Zc ?_ ?_ <;> intro hc <;> first | (exfalso; omega) | skip) | (refine Y ?_; try change C _ _ _ _ _ _) | (refine Zs H ?_; clear H; (try clear w); intro w H) | (refine Zn H ?_; clear H; (try clear w); (first | ((fail_if_success (have := bl1)); intro bl1 w H) | intro _ w H)) | (refine Ze H ?_; clear H; (try clear w); intro gv w H))
      exact ⟨rfl, by (repeat (first | exact Agr.refl | exact Agr.hav | refine Agr.upd rfl ?_ | refine Agr.in rfl ?_)), s1, Ro.Le.refl _, rfl, H⟩
    · intro s1 h w E hs1; (conv => whnf); rintro _ rfl; (conv => whnf); intro H; replace H : Holds s1 w (var bl1 45 [.int .i64 k, .int .i64 a, .slice aa l.length cc] :: var bW 77 [.slice a0 d.secs.length c0, .slice a1 d.pend.length c1, .bool d.off, .int .i64 lf, .slice a2 n2 c2, .slice (some ⟨gx, ox, none⟩) xs.length xc, .slice (some ⟨gr, ox2, none⟩) rooms.length rc, .slice (some ⟨gw, 0, none⟩) m.parts.length wc, .slice (some ⟨gsv, 0, none⟩) m.parts.length vc, .slice la m.slots.length lc, .int .i64 (m.next : Int)] :: row 89 1 (.slice (some ⟨gw, 0, none⟩) m.parts.length wc) m.parts.length ws :: row 41 1 (.slice (some ⟨gsv, 0, none⟩) m.parts.length vc) m.parts.length (svd m.parts) :: (R ++ E)) := H
      refine K.one H rfl rfl (by conv => lhs; whnf) (by rfl) (by rfl) ?_; clear H; (try clear w); intro g1 w H
      obtain ⟨s2, hs2, H, hS⟩ := H.fixRow
      repeat' (first | refine Z H ?_ | (refine Zc ?_ ?_ <;> intro hc <;> first | (exfalso; omega) | skip) | (refine Y ?_; try change C _ _ _ _ _ _) | (refine Zs H ?_; clear H; (try clear w); intro w H) | (refine Zn H ?_; clear H; (try clear w); (first | ((fail_if_success (have := bl1)); intro bl1 w H) | intro _ w H)) | (refine Ze H ?_; clear H; (try clear w); intro gv w H))
      exact ⟨rfl, by (repeat (first | exact Agr.refl | exact Agr.hav | refine Agr.upd rfl ?_ | refine Agr.in rfl ?_)), s2, hs2, ⟨_, _, rfl, hS⟩, H⟩
    · intro s1 h w E hs1; (conv => whnf); rintro _ ⟨a3, c3, rfl⟩; (conv => whnf); rintro _ ⟨a5, c5, rfl, hS⟩; (conv => whnf); intro H; replace H : Holds s1 w (row 45 3 (.slice a3 ql.length c3) ql.length (ql.flatMap Wq.cells) :: var bl1 45 [.int .i64 k, .int .i64 a, .slice aa l.length cc] :: var bW 77 [.slice a0 d.secs.length c0, .slice a1 d.pend.length c1, .bool d.off, .int .i64 lf, .slice a2 n2 c2, .slice (some ⟨gx, ox, none⟩) xs.length xc, .slice (some ⟨gr, ox2, none⟩) rooms.length rc, .slice (some ⟨gw, 0, none⟩) m.parts.length wc, .slice (some ⟨gsv, 0, none⟩) m.parts.length vc, .slice la m.slots.length lc, .int .i64 (m.next : Int)] :: row 89 1 (.slice (some ⟨gw, 0, none⟩) m.parts.length wc) m.parts.length ws :: row 41 1 (.slice (some ⟨gsv, 0, none⟩) m.parts.length vc) m.parts.length (svd m.parts) :: (R ++ E)) := H
      refine K.app 0 H rfl (.ro hS) (by simp [Value.oneCell']) (by unfold maxLen; omega) (by omega) rfl rfl rfl ?_
      clear H
      intro a6 c6 w H
      (try simp only [List.set_cons_zero, List.set_cons_succ, List.eraseIdx_cons_zero, List.eraseIdx_cons_succ] at H)
      repeat' (first | refine Z H ?_ | (refine Zc ?_ ?_ <;> intro hc <;> first | (exfalso; omega) | skip) | (refine Y ?_; try change C _ _ _ _ _ _) | (refine Zs H ?_; clear H; (try clear w); intro w H) | (refine Zn H ?_; clear H; (try clear w); (first | ((fail_if_success (have := bl1)); intro bl1 w H) | intro _ w H)) | (refine Ze H ?_; clear H; (try clear w); intro gv w H))
      exact ⟨rfl, by (repeat (first | exact Agr.refl | exact Agr.hav | refine Agr.upd rfl ?_ | refine Agr.in rfl ?_)), s1, Ro.Le.refl _, ⟨_, _, rfl⟩, H⟩
    · intro s1 h w E hs1; (conv => whnf); rintro _ rfl; (conv => whnf); rintro _ rfl; (conv => whnf); intro H; replace H : Holds s1 w (var bl1 45 [.int .i64 k, .int .i64 a, .slice aa l.length cc] :: var bW 77 [.slice a0 d.secs.length c0, .slice a1 d.pend.length c1, .bool d.off, .int .i64 lf, .slice a2 n2 c2, .slice (some ⟨gx, ox, none⟩) xs.length xc, .slice (some ⟨gr, ox2, none⟩) rooms.length rc, .slice (some ⟨gw, 0, none⟩) m.parts.length wc, .slice (some ⟨gsv, 0, none⟩) m.parts.length vc, .slice la m.slots.length lc, .int .i64 (m.next : Int)] :: row 89 1 (.slice (some ⟨gw, 0, none⟩) m.parts.length wc) m.parts.length ws :: row 41 1 (.slice (some ⟨gsv, 0, none⟩) m.parts.length vc) m.parts.length (svd m.parts) :: (R ++ E)) := H
      repeat' (first | refine Z H ?_ | (refine Zc ?_ ?_ <;> intro hc <;> first | (exfalso; omega) | skip) | (refine Y ?_; try change C _ _ _ _ _ _) | (refine Zs H ?_; clear H; (try clear w); intro w H) | (refine Zn H ?_; clear H; (try clear w); (first | ((fail_if_success (have := bl1)); intro bl1 w H) | intro _ w H)) | (refine Ze H ?_; clear H; (try clear w); intro gv w H))
      exact ⟨rfl, by (repeat (first | exact Agr.refl | exact Agr.hav | refine Agr.upd rfl ?_ | refine Agr.in rfl ?_)), s1, Ro.Le.refl _, rfl, H⟩
  · intro s1 h w hs1; (conv => whnf); rintro _ ⟨a6, c6, rfl⟩; (conv => whnf); rintro _ rfl; (conv => whnf); intro H; replace H : Holds s1 w (row 45 3 (.slice a6 (ql.length + 1) c6) (ql.length + 1) (ql.flatMap Wq.cells ++ [.int .i64 k, .int .i64 a, .slice aa l.length cc]) :: var bl1 45 [.int .i64 k, .int .i64 a, .slice aa l.length cc] :: var bW 77 [.slice a0 d.secs.length c0, .slice a1 d.pend.length c1, .bool d.off, .int .i64 lf, .slice a2 n2 c2, .slice (some ⟨gx, ox, none⟩) xs.length xc, .slice (some ⟨gr, ox2, none⟩) rooms.length rc, .slice (some ⟨gw, 0, none⟩) m.parts.length wc, .slice (some ⟨gsv, 0, none⟩) m.parts.length vc, .slice la m.slots.length lc, .int .i64 (m.next : Int)] :: row 89 1 (.slice (some ⟨gw, 0, none⟩) m.parts.length wc) m.parts.length ws :: row 41 1 (.slice (some ⟨gsv, 0, none⟩) m.parts.length vc) m.parts.length (svd m.parts) :: R) := H
    change L _ _ _ _ [_] _ _
    repeat' (first | refine Z H ?_ | (refine Zc ?_ ?_ <;> intro hc <;> first | (exfalso; omega) | skip) | (refine Y ?_; try change C _ _ _ _ _ _) | (refine Zs H ?_; clear H; (try clear w); intro w H) | (refine Zn H ?_; clear H; (try clear w); (first | ((fail_if_success (have := bl1)); intro bl1 w H) | intro _ w H)) | (refine Ze H ?_; clear H; (try clear w); intro gv w H))
    refine ⟨rfl, ?_⟩
    obtain ⟨s2, hs2, H, hnew⟩ := H.fixRow
    have hwrap : IntKind.u64.wrap ((m.parts[j].served : Int) + ((ql.length + 1 : Nat) : Int)) = ((m.parts[j].last + 1 : Nat) : Int) := by simp [IntKind.wrap, IntKind.bits, IntKind.signed]; omega
    have hget : (ws.set (0 + j * 1) (.slice a6 (ql.length + 1) c6))[0 + j * 1]? = some (.slice a6 (ql.length + 1) c6) := by
      rw [List.getElem?_set_self (by omega)]
    repeat' (first | refine Z H ?_ | (refine Zc ?_ ?_ <;> intro hc <;> first | (exfalso; omega) | skip) | (refine Y ?_; try change C _ _ _ _ _ _) | (refine Zs H ?_; clear H; (try clear w); intro w H) | (refine Zn H ?_; clear H; (try clear w); (first | ((fail_if_success (have := bl1)); intro bl1 w H) | intro _ w H)) | (refine Ze H ?_; clear H; (try clear w); intro gv w H))
    refine C.drawn1 [0, 0, 0, 1, 0, 0, 1, 0, 0, 0, 1, 0, 0, 1, 0, 0, 0, 0, 0] [0, 1, 3, 7, 0, 31, 63, 0, 128, 384, 896, 0, 3968, 8064, 16256, 32640, 65535, 131071, 262143] (by kernel_rfl) ?_; replace H := H.drew
    have hw64 : IntKind.u64.wrap ((ql.length + 1 : Nat) : Int) = ((ql.length + 1 : Nat) : Int) := by simp [IntKind.wrap, IntKind.bits, IntKind.signed]; omega
    repeat' (first | (refine K.convI rfl rfl rfl rfl ?_; rw [hw64]) | (refine K.arith _ rfl rfl rfl rfl rfl ?_; rw [hwrap]) | refine Z H ?_ | (refine Zc ?_ ?_ <;> intro hc <;> first | (exfalso; omega) | skip) | (refine Y ?_; try change C _ _ _ _ _ _) | (refine Zs H ?_; clear H; (try clear w); intro w H) | (refine Zn H ?_; clear H; (try clear w); (first | ((fail_if_success (have := bl1)); intro bl1 w H) | intro _ w H)) | (refine Ze H ?_; clear H; (try clear w); intro gv w H))
    have hle := hsB.trans (hs1.trans hs2)
    refine ⟨_, resTT rfl, s2, rfl, hle, a0, c0, a1, c1, lf, a2, n2, c2, some ⟨gx, ox, none⟩, xc, some ⟨gr, ox2, none⟩, rc, la, lc, ws.set j (.slice a6 (ql.length + 1) c6), some ⟨gw, 0, none⟩, wc, some ⟨gsv, 0, none⟩, vc, (hf.mono hle).push (p := { m.parts[j] with last := m.parts[j].last + 1, q := m.parts[j].q ++ [⟨m.parts[j].last + 1, k, a, l⟩] }) ⟨ql ++ [⟨⟨m.parts[j].last + 1, k, a, l⟩, aa, cc⟩], by simp [hqm], ?_, ?_⟩, ?_⟩
    · rw [List.length_append, List.flatMap_append]
      exact hnew
    · intro x hx
      rcases List.mem_append.1 hx with hx | hx
      · exact (hqd x hx).mono hle
      · rw [List.mem_singleton.1 hx]
        exact hrow.mono (hs1.trans hs2)
    · simp only [List.length_set]
      rw [svd_same m.parts (p := { ext := m.parts[j].ext, room := m.parts[j].room, last := m.parts[j].last + 1, served := m.parts[j].served, q := m.parts[j].q ++ [{ n := m.parts[j].last + 1, kind := k, at_ := a, data := l }] }) hjm rfl]
      have H' : Holds s2 _ (var bW 77 [.slice a0 d.secs.length c0, .slice a1 d.pend.length c1, .bool d.off, .int .i64 lf, .slice a2 n2 c2, .slice (some ⟨gx, ox, none⟩) xs.length xc, .slice (some ⟨gr, ox2, none⟩) rooms.length rc, .slice (some ⟨gw, 0, none⟩) m.parts.length wc, .slice (some ⟨gsv, 0, none⟩) m.parts.length vc, .slice la m.slots.length lc, .int .i64 (m.next : Int)] :: row 89 1 (.slice (some ⟨gw, 0, none⟩) m.parts.length wc) m.parts.length (ws.set (0 + j * 1) (.slice a6 (ql.length + 1) c6)) :: row 41 1 (.slice (some ⟨gsv, 0, none⟩) m.parts.length vc) m.parts.length (svd m.parts) :: R) := H.arr
      rw [Nat.zero_add, Nat.mul_one] at H'
      exact H'
end
end Go.Proofs.Ytmcojfpomejnnaa

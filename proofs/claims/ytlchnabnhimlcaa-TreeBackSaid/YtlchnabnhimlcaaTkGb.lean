/- The arguments of the tree's laws: a list of ops, a tree. law17.Played, walked: a tree behind ops is well formed. law17: awake, walked; TreeNumbers. TreeApart, walked. -/
import Derived.Test.YtlchnabnhimlcaaTkK4
import Derived.Test.YtlchnabnhimlcaaTkGa
import Derived.Test.YtlchnabnhimlcaaTkTx3
set_option linter.unusedSimpArgs false
set_option linter.unusedVariables false
namespace Go.Proofs.Ytlchnabnhimlcaa
open Go Go.RowKit Go.Own
open Go.ChangeShapes Go.WideShapes Go.ChangeAt
set_option maxRecDepth 100000 in
theorem op_of {w : World} (cs : List Value) (hl : cs.length = Try.prog.cellsOf 26) (h : Rdg Try.prog w 26 cs) : ∃ x : OpM, x.cells = cs ∧ OpOk (startRo w) x := by
  have hl6 : cs.length = 6 := hl.trans (by kernel_rfl)
  match cs, hl6 with
  | [c0, c1, c2, c3, c4, c5], _ =>
    have f0 : Rdg Try.prog w 3 [c0] := rdg_field Try.underlying26 h 0 3 0 1 rfl (by kernel_rfl)
    have f1 : Rdg Try.prog w 9 [c1] := rdg_field Try.underlying26 h 1 9 1 1 rfl (by kernel_rfl)
    have f2 : Rdg Try.prog w 9 [c2] := rdg_field Try.underlying26 h 2 9 2 1 rfl (by kernel_rfl)
    have f3 : Rdg Try.prog w 3 [c3] := rdg_field Try.underlying26 h 3 3 3 1 rfl (by kernel_rfl)
    have f4 : Rdg Try.prog w 3 [c4] := rdg_field Try.underlying26 h 4 3 4 1 rfl (by kernel_rfl)
    have f5 : Rdg Try.prog w 24 [c5] := rdg_field Try.underlying26 h 5 24 5 1 rfl (by kernel_rfl)
    obtain ⟨n0, e0, w0⟩ := rdg_int Try.underlying3 f0
    obtain ⟨s1, e1, w1⟩ := rdg_str Try.underlying9 f1
    obtain ⟨s2, e2, w2⟩ := rdg_str Try.underlying9 f2
    obtain ⟨n3, e3, w3⟩ := rdg_int Try.underlying3 f3
    obtain ⟨n4, e4, w4⟩ := rdg_int Try.underlying3 f4
    obtain ⟨b, k1, k2⟩ := rdg_u8s Try.underlying24 Try.underlying5 (by kernel_rfl) (by kernel_rfl) f5
    have hS := SlS.start k1
    obtain ⟨va, vc, hv, _⟩ := formS hS
    cases e0; cases e1; cases e2; cases e3; cases e4
    subst hv
    exact ⟨⟨n0, s1, s2, n3, n4, b, va, vc⟩, rfl, Nat.le_trans w1 reach_le2, Nat.le_trans w2 reach_le2, Nat.le_trans k2 reach_le2, hS⟩
theorem ops_of {w : World} {v : Value} (h : Rdg Try.prog w 23 [v]) : ∃ l : List OpM, SlS (startRo w) v 6 l.length (l.flatMap OpM.cells) ∧ ∀ a ∈ l, OpOk (startRo w) a := by
  obtain ⟨acts, ha1, ha2, _⟩ := rdg_list OpM.cells (OpOk (startRo w)) Try.underlying23 (by rw [show Try.prog.cellsOf 26 = 6 by kernel_rfl]; decide) (fun cs' hl h => op_of cs' hl h) h
  rw [show Try.prog.cellsOf 26 = 6 by kernel_rfl] at ha1
  exact ⟨acts, SlS.start ha1, fun a h => (ha2 a h).1⟩
set_option maxRecDepth 100000 in
theorem node_of {w : World} (cs : List Value) (hl : cs.length = 6) (h : Rdg Try.prog w 29 cs) : ∃ x : Nd, x.cells = cs ∧ True := by
  match cs, hl with
  | [c0, c1, c2, c3, c4, c5], _ =>
    have f0 : Rdg Try.prog w 3 [c0] := rdg_field Try.underlying29 h 0 3 0 1 rfl (by kernel_rfl)
    have f1 : Rdg Try.prog w 3 [c1] := rdg_field Try.underlying29 h 1 3 1 1 rfl (by kernel_rfl)
    have f2 : Rdg Try.prog w 9 [c2] := rdg_field Try.underlying29 h 2 9 2 1 rfl (by kernel_rfl)
    have f3 : Rdg Try.prog w 3 [c3] := rdg_field Try.underlying29 h 3 3 3 1 rfl (by kernel_rfl)
    have f4 : Rdg Try.prog w 27 [c4, c5] := rdg_field Try.underlying29 h 4 27 4 2 rfl (by kernel_rfl)
    obtain ⟨_, g⟩ := rdg_array Try.underlying27 f4
    rw [show Try.prog.cellsOf 3 = 1 by kernel_rfl] at g
    have g0 : Rdg Try.prog w 3 [c4] := g 0 (by decide)
    have g1 : Rdg Try.prog w 3 [c5] := g 1 (by decide)
    obtain ⟨n0, e0, _⟩ := rdg_int Try.underlying3 f0
    obtain ⟨n1, e1, _⟩ := rdg_int Try.underlying3 f1
    obtain ⟨s2, e2, _⟩ := rdg_str Try.underlying9 f2
    obtain ⟨n3, e3, _⟩ := rdg_int Try.underlying3 f3
    obtain ⟨n4, e4, _⟩ := rdg_int Try.underlying3 g0
    obtain ⟨n5, e5, _⟩ := rdg_int Try.underlying3 g1
    cases e0; cases e1; cases e2; cases e3; cases e4; cases e5
    exact ⟨⟨n0, n1, s2, n3, n4, n5⟩, rfl, trivial⟩
theorem u8of {w : World} (cs : List Value) (hl : cs.length = 1) (h : Rdg Try.prog w 5 cs) : ∃ x : UInt8, [u8 x] = cs ∧ True := by
  obtain ⟨n, rfl, hw⟩ := rdg_int Try.underlying5 h
  obtain ⟨x, hx⟩ := wf_u8 hw
  exact ⟨x, by rw [hx], trivial⟩
theorem block_of {w : World} (cs : List Value) (hl : cs.length = 40) (h : Rdg Try.prog w 31 cs) : ∃ x : Str, u8s x = cs ∧ x.length = 40 := by
  obtain ⟨l, h1, h2, _⟩ := rdg_items (fun x : UInt8 => [u8 x]) (fun _ => True) Try.underlying31 (sz := 1) (by kernel_rfl) (by kernel_rfl) (fun cs' hl h => u8of cs' hl h) h
  rw [flatMap_one] at h2
  exact ⟨l, h2, h1⟩
set_option maxRecDepth 100000 in
theorem tree_of {w : World} (cs : List Value) (hl : cs.length = 368) (h : Rdg Try.prog w 34 cs) : ∃ t : TR, t.cells = cs ∧ t.Ok := by
  have f0 := rdg_field Try.underlying34 h 0 30 0 48 rfl (by kernel_rfl)
  have f1 := rdg_field Try.underlying34 h 1 32 48 320 rfl (by kernel_rfl)
  obtain ⟨nd, a1, a2, _⟩ := rdg_items Nd.cells (fun _ => True) Try.underlying30 (sz := 6) (by kernel_rfl) (by kernel_rfl) (fun cs' hl h => node_of cs' hl h) f0
  obtain ⟨bl, b1, b2, b3⟩ := rdg_items u8s (fun x : Str => x.length = 40) Try.underlying32 (sz := 40) (by kernel_rfl) (by kernel_rfl) (fun cs' hl h => block_of cs' hl h) f1
  refine ⟨⟨nd, bl⟩, ?_, a1, b1, b3⟩
  rw [TR.cells, a2, b2, List.drop_zero, List.take_of_length_le (l := cs.drop 48) (by rw [List.length_drop, hl]; decide), List.take_append_drop]
end Go.Proofs.Ytlchnabnhimlcaa
set_option linter.unusedSimpArgs false
set_option linter.unusedVariables false
namespace Go.Proofs.Ytlchnabnhimlcaa
open Go Go.RowKit Go.Own
section
variable {w : World} {s : Ro} {R : List Asn}
set_option maxRecDepth 100000 in
set_option maxHeartbeats 1000000 in
theorem Played_w {l : List OpM} {va : Option Addr} {vc : Nat} (H : Holds s w R) (hl : SlS s (.slice va l.length vc) 6 l.length (l.flatMap OpM.cells)) (hok : ∀ a ∈ l, OpOk s a) : Calls Try.prog 9 #[.slice va l.length vc] w fun e w' => ∃ (s' : Ro) (u : TR) (m' : List RN) (b : Bool), e = .returned (.tuple #[.agg u.cells.toArray, .agg (rcells m').toArray, .bool b]) ∧ s.Le s' ∧ u.Ok ∧ checkM u = true ∧ ROk s' m' 3000 ∧ Holds s' w' R := by
  have hz := TR.ok_zero
  have hn := TR.ok_new
  have hz8 : (List.replicate 8 RN.zero).length = 8 := rfl
  refine enter Try.func9 rfl Try.ntmps9 rfl ?_
  repeat' (first | (refine X.lenL ?_) | (refine X.lv H ?_) | (refine X.lp H ?_) | (refine X.ldT H ?_) | (refine X.stT H ?_; clear H; (try clear w); intro w H) | (refine X.ldM H ?_) | (refine X.stR H ?_; clear H; (try clear w); intro w H) | (refine X.eqL ?_ ?_ <;> intro hc <;> first | (exfalso; first | exact absurd hc (by assumption) | exact absurd (by assumption) hc) | skip) | refine Z H ?_ | (refine Zc ?_ ?_ <;> intro hc <;> first | (exfalso; omega) | skip) | (refine Y ?_; try change C _ _ _ _ _ _) | (refine Zs H ?_; clear H; (try clear w); intro w H) | (refine Zn H ?_; clear H; (try clear w); (first | ((fail_if_success (have := bl1)); intro bl1 w H) | ((fail_if_success (have := bl2)); intro bl2 w H) | ((fail_if_success (have := bl3)); intro bl3 w H) | ((fail_if_success (have := bl4)); intro bl4 w H) | intro _ w H)) | (refine Ze H ?_; clear H; (try clear w); intro gv w H))
  (refine X.call (NewT_s H) ?_; (try clear H); rintro _ w ⟨rfl, H⟩; refine ⟨_, rfl, ?_⟩)
  repeat' (first | (refine X.lenL ?_) | (refine X.lv H ?_) | (refine X.lp H ?_) | (refine X.ldT H ?_) | (refine X.stT H ?_; clear H; (try clear w); intro w H) | (refine X.ldM H ?_) | (refine X.stR H ?_; clear H; (try clear w); intro w H) | (refine X.eqL ?_ ?_ <;> intro hc <;> first | (exfalso; first | exact absurd hc (by assumption) | exact absurd (by assumption) hc) | skip) | refine Z H ?_ | (refine Zc ?_ ?_ <;> intro hc <;> first | (exfalso; omega) | skip) | (refine Y ?_; try change C _ _ _ _ _ _) | (refine Zs H ?_; clear H; (try clear w); intro w H) | (refine Zn H ?_; clear H; (try clear w); (first | ((fail_if_success (have := bl1)); intro bl1 w H) | ((fail_if_success (have := bl2)); intro bl2 w H) | ((fail_if_success (have := bl3)); intro bl3 w H) | ((fail_if_success (have := bl4)); intro bl4 w H) | intro _ w H)) | (refine Ze H ?_; clear H; (try clear w); intro gv w H))
  (refine X.call (New_w H) ?_; (try clear H); rintro _ w ⟨m0, hm0, rfl, H⟩; refine ⟨_, rfl, ?_⟩)
  have hm08 := hm0.l8
  repeat' (first | (refine X.lenL ?_) | (refine X.lv H ?_) | (refine X.lp H ?_) | (refine X.ldT H ?_) | (refine X.stT H ?_; clear H; (try clear w); intro w H) | (refine X.ldM H ?_) | (refine X.stR H ?_; clear H; (try clear w); intro w H) | (refine X.eqL ?_ ?_ <;> intro hc <;> first | (exfalso; first | exact absurd hc (by assumption) | exact absurd (by assumption) hc) | skip) | ((fail_if_success (with_reducible show C _ _ _ (Code.seq (Code.seq (Code.region 2 _ _) _) _) _ _)); refine Z H ?_) | (refine Zc ?_ ?_ <;> intro hc <;> first | (exfalso; omega) | skip) | (refine Y ?_; try change C _ _ _ _ _ _) | (refine Zs H ?_; clear H; (try clear w); intro w H) | (refine Zn H ?_; clear H; (try clear w); (first | ((fail_if_success (have := bl1)); intro bl1 w H) | ((fail_if_success (have := bl2)); intro bl2 w H) | ((fail_if_success (have := bl3)); intro bl3 w H) | ((fail_if_success (have := bl4)); intro bl4 w H) | intro _ w H)) | (refine Ze H ?_; clear H; (try clear w); intro gv w H))
  refine C.cut [7, 8, 11, 12, 13, 14, 15, 16, 17, 18, 19, 20, 21, 22, 23, 24, 25, 26, 27, 28, 29, 30, 31, 32, 33, 34] [7] rfl (fun vs w => ∃ (s' : Ro) (u : TR) (m' : List RN) (b : Bool), vs = [.bool b] ∧ s.Le s' ∧ u.Ok ∧ checkM u = true ∧ ROk s' m' 3000 ∧ Holds s' w (var bl4 39 (rcells m') :: var bl3 34 u.cells :: var bl2 39 (rcells (List.replicate 8 RN.zero)) :: var bl1 34 TR.zero.cells :: R)) ?_ ?_
  · repeat' (first | (refine X.lenL ?_) | (refine X.lv H ?_) | (refine X.lp H ?_) | (refine X.ldT H ?_) | (refine X.stT H ?_; clear H; (try clear w); intro w H) | (refine X.ldM H ?_) | (refine X.stR H ?_; clear H; (try clear w); intro w H) | (refine X.eqL ?_ ?_ <;> intro hc <;> first | (exfalso; first | exact absurd hc (by assumption) | exact absurd (by assumption) hc) | skip) | refine Z H ?_ | (refine Zc ?_ ?_ <;> intro hc <;> first | (exfalso; omega) | skip) | (refine Y ?_; try change C _ _ _ _ _ _) | (refine Zs H ?_; clear H; (try clear w); intro w H) | (refine Zn H ?_; clear H; (try clear w); (first | ((fail_if_success (have := bl1)); intro bl1 w H) | ((fail_if_success (have := bl2)); intro bl2 w H) | ((fail_if_success (have := bl3)); intro bl3 w H) | ((fail_if_success (have := bl4)); intro bl4 w H) | intro _ w H)) | (refine Ze H ?_; clear H; (try clear w); intro gv w H))
    refine C.loopS [7, 8, 11, 12, 13, 14, 15, 16, 17, 18, 19, 20, 21, 22, 23, 24, 25, 26, 27, 28, 29, 30, 31, 32, 33, 34] [7, 8] rfl (fun k vs w => ∃ (i : Nat) (s' : Ro) (u : TR) (m' : List RN) (b : Bool), k = 40 - i ∧ i ≤ 40 ∧ i ≤ l.length ∧ vs = [.bool b, .int .i64 (i : Int)] ∧ s.Le s' ∧ u.Ok ∧ checkM u = true ∧ ROk s' m' (72 + 72 * i) ∧ Holds s' w (var bl4 39 (rcells m') :: var bl3 34 u.cells :: var bl2 39 (rcells (List.replicate 8 RN.zero)) :: var bl1 34 TR.zero.cells :: R)) 40 ⟨0, s, _, m0, true, rfl, by omega, Nat.zero_le _, rfl, Ro.Le.refl _, hn, check_new, hm0, H⟩ ?_
    clear H
    rintro k vs hv w ⟨i, s1, u, m, b, rfl, hi, hil, rfl, hs1, hu, hcu, hm, H⟩
    have hm8 := hm.l8
    have hm30 : ROk s1 m 3000 := hm.mono (Ro.Le.refl _) (by omega)
    by_cases hl1 : i < l.length
    rotate_left
    · repeat' (first | (refine X.lenL ?_) | (refine X.lv H ?_) | (refine X.lp H ?_) | (refine X.ldT H ?_) | (refine X.stT H ?_; clear H; (try clear w); intro w H) | (refine X.ldM H ?_) | (refine X.stR H ?_; clear H; (try clear w); intro w H) | (refine X.eqL ?_ ?_ <;> intro hc <;> first | (exfalso; first | exact absurd hc (by assumption) | exact absurd (by assumption) hc) | skip) | refine Z H ?_ | (refine Zc ?_ ?_ <;> intro hc <;> first | (exfalso; omega) | skip) | (refine Y ?_; try change C _ _ _ _ _ _) | (refine Zs H ?_; clear H; (try clear w); intro w H) | (refine Zn H ?_; clear H; (try clear w); (first | ((fail_if_success (have := bl1)); intro bl1 w H) | ((fail_if_success (have := bl2)); intro bl2 w H) | ((fail_if_success (have := bl3)); intro bl3 w H) | ((fail_if_success (have := bl4)); intro bl4 w H) | intro _ w H)) | (refine Ze H ?_; clear H; (try clear w); intro gv w H))
      exact ⟨by (repeat (first | exact Agr.refl | exact Agr.hav | refine Agr.upd rfl ?_ | refine Agr.in rfl ?_)), s1, u, m, b, rfl, hs1, hu, hcu, hm30, H⟩
    by_cases hl2 : i < 40
    rotate_left
    · repeat' (first | (refine X.lenL ?_) | (refine X.lv H ?_) | (refine X.lp H ?_) | (refine X.ldT H ?_) | (refine X.stT H ?_; clear H; (try clear w); intro w H) | (refine X.ldM H ?_) | (refine X.stR H ?_; clear H; (try clear w); intro w H) | (refine X.eqL ?_ ?_ <;> intro hc <;> first | (exfalso; first | exact absurd hc (by assumption) | exact absurd (by assumption) hc) | skip) | refine Z H ?_ | (refine Zc ?_ ?_ <;> intro hc <;> first | (exfalso; omega) | skip) | (refine Y ?_; try change C _ _ _ _ _ _) | (refine Zs H ?_; clear H; (try clear w); intro w H) | (refine Zn H ?_; clear H; (try clear w); (first | ((fail_if_success (have := bl1)); intro bl1 w H) | ((fail_if_success (have := bl2)); intro bl2 w H) | ((fail_if_success (have := bl3)); intro bl3 w H) | ((fail_if_success (have := bl4)); intro bl4 w H) | intro _ w H)) | (refine Ze H ?_; clear H; (try clear w); intro gv w H))
      exact ⟨by (repeat (first | exact Agr.refl | exact Agr.hav | refine Agr.upd rfl ?_ | refine Agr.in rfl ?_)), s1, u, m, b, rfl, hs1, hu, hcu, hm30, H⟩
    cases b
    · repeat' (first | (refine X.lenL ?_) | (refine X.lv H ?_) | (refine X.lp H ?_) | (refine X.ldT H ?_) | (refine X.stT H ?_; clear H; (try clear w); intro w H) | (refine X.ldM H ?_) | (refine X.stR H ?_; clear H; (try clear w); intro w H) | (refine X.eqL ?_ ?_ <;> intro hc <;> first | (exfalso; first | exact absurd hc (by assumption) | exact absurd (by assumption) hc) | skip) | refine Z H ?_ | (refine Zc ?_ ?_ <;> intro hc <;> first | (exfalso; omega) | skip) | (refine Y ?_; try change C _ _ _ _ _ _) | (refine Zs H ?_; clear H; (try clear w); intro w H) | (refine Zn H ?_; clear H; (try clear w); (first | ((fail_if_success (have := bl1)); intro bl1 w H) | ((fail_if_success (have := bl2)); intro bl2 w H) | ((fail_if_success (have := bl3)); intro bl3 w H) | ((fail_if_success (have := bl4)); intro bl4 w H) | intro _ w H)) | (refine Ze H ?_; clear H; (try clear w); intro gv w H))
      exact ⟨by (repeat (first | exact Agr.refl | exact Agr.hav | refine Agr.upd rfl ?_ | refine Agr.in rfl ?_)), s1, u, m, false, rfl, hs1, hu, hcu, hm30, H⟩
    obtain ⟨g1, o1, c1, e1, _, _, hp1⟩ := elemS (hl.mono hs1) (fun _ _ => rfl) (by decide) (by omega)
    cases e1
    have q1 : ∀ j v, ([.int .i64 l[i].k, .string ⟨l[i].path.toArray⟩, .string ⟨l[i].dst.toArray⟩, .int .i64 l[i].n, .int .i64 l[i].quota, .slice l[i].a l[i].data.length l[i].c] : List Value)[j]? = some v → Pin s1 g1 (o1 + i * 6 + j) v := hp1 i hl1
    have ho := (hok l[i] (List.getElem_mem _)).mono hs1
    generalize l[i] = o at *
    repeat' (first | (refine X.lenL ?_) | (refine X.lv H ?_) | (refine X.lp H ?_) | (refine X.ldT H ?_) | (refine X.stT H ?_; clear H; (try clear w); intro w H) | (refine X.ldM H ?_) | (refine X.stR H ?_; clear H; (try clear w); intro w H) | (refine X.eqL ?_ ?_ <;> intro hc <;> first | (exfalso; first | exact absurd hc (by assumption) | exact absurd (by assumption) hc) | skip) | refine Z H ?_ | (refine Zc ?_ ?_ <;> intro hc <;> first | (exfalso; omega) | skip) | (refine Y ?_; try change C _ _ _ _ _ _) | (refine Zs H ?_; clear H; (try clear w); intro w H) | (refine Zn H ?_; clear H; (try clear w); (first | ((fail_if_success (have := bl1)); intro bl1 w H) | ((fail_if_success (have := bl2)); intro bl2 w H) | ((fail_if_success (have := bl3)); intro bl3 w H) | ((fail_if_success (have := bl4)); intro bl4 w H) | intro _ w H)) | (refine Ze H ?_; clear H; (try clear w); intro gv w H))
    refine C.drawn1 [1, 1, 0, 0, 0, 1, 3, 0, 0, 0, 0, 3, 3, 0] [0, 0, 0, 0, 12, 28, 63, 127, 255, 255, 255, 511, 3071, 8191] (by kernel_rfl) ?_; replace H := H.drew
    repeat' (first | (refine X.lenL ?_) | (refine X.lv H ?_) | (refine X.lp H ?_) | (refine X.ldT H ?_) | (refine X.stT H ?_; clear H; (try clear w); intro w H) | (refine X.ldM H ?_) | (refine X.stR H ?_; clear H; (try clear w); intro w H) | (refine X.eqL ?_ ?_ <;> intro hc <;> first | (exfalso; first | exact absurd hc (by assumption) | exact absurd (by assumption) hc) | skip) | refine Z H ?_ | (refine Zc ?_ ?_ <;> intro hc <;> first | (exfalso; omega) | skip) | (refine Y ?_; try change C _ _ _ _ _ _) | (refine Zs H ?_; clear H; (try clear w); intro w H) | (refine Zn H ?_; clear H; (try clear w); (first | ((fail_if_success (have := bl1)); intro bl1 w H) | ((fail_if_success (have := bl2)); intro bl2 w H) | ((fail_if_success (have := bl3)); intro bl3 w H) | ((fail_if_success (have := bl4)); intro bl4 w H) | intro _ w H)) | (refine Ze H ?_; clear H; (try clear w); intro gv w H))
    have hD := Do_w H hu hm (by omega) (by omega) ho
    (refine X.call (hD) ?_; (try clear H); rintro _ w ⟨s2, u2, m2, b2, rfl, hs2, hD2, hm2, H⟩; refine ⟨_, rfl, ?_⟩)
    clear hD
    have hu2 := hD2.ok hu
    have hcu2 := hD2.check hu hcu
    have hm28 := hm2.l8
    repeat' (first | (refine X.lenL ?_) | (refine X.lv H ?_) | (refine X.lp H ?_) | (refine X.ldT H ?_) | (refine X.stT H ?_; clear H; (try clear w); intro w H) | (refine X.ldM H ?_) | (refine X.stR H ?_; clear H; (try clear w); intro w H) | (refine X.eqL ?_ ?_ <;> intro hc <;> first | (exfalso; first | exact absurd hc (by assumption) | exact absurd (by assumption) hc) | skip) | refine Z H ?_ | (refine Zc ?_ ?_ <;> intro hc <;> first | (exfalso; omega) | skip) | (refine Y ?_; try change C _ _ _ _ _ _) | (refine Zs H ?_; clear H; (try clear w); intro w H) | (refine Zn H ?_; clear H; (try clear w); (first | ((fail_if_success (have := bl1)); intro bl1 w H) | ((fail_if_success (have := bl2)); intro bl2 w H) | ((fail_if_success (have := bl3)); intro bl3 w H) | ((fail_if_success (have := bl4)); intro bl4 w H) | intro _ w H)) | (refine Ze H ?_; clear H; (try clear w); intro gv w H))
    exact ⟨by (repeat (first | exact Agr.refl | exact Agr.hav | refine Agr.upd rfl ?_ | refine Agr.in rfl ?_)), 40 - (i + 1), by omega, i + 1, s2, u2, m2, b2, rfl, by omega, by omega, rfl, hs1.trans hs2, hu2, hcu2, hm2.mono (Ro.Le.refl _) (by omega), H⟩
  clear H
  rintro vs hv w ⟨s1, u, m, b, rfl, hs1, hu, hcu, hm, H⟩
  have hm8 := hm.l8
  repeat' (first | (refine X.lenL ?_) | (refine X.lv H ?_) | (refine X.lp H ?_) | (refine X.ldT H ?_) | (refine X.stT H ?_; clear H; (try clear w); intro w H) | (refine X.ldM H ?_) | (refine X.stR H ?_; clear H; (try clear w); intro w H) | (refine X.eqL ?_ ?_ <;> intro hc <;> first | (exfalso; first | exact absurd hc (by assumption) | exact absurd (by assumption) hc) | skip) | refine Z H ?_ | (refine Zc ?_ ?_ <;> intro hc <;> first | (exfalso; omega) | skip) | (refine Y ?_; try change C _ _ _ _ _ _) | (refine Zs H ?_; clear H; (try clear w); intro w H) | (refine Zn H ?_; clear H; (try clear w); (first | ((fail_if_success (have := bl1)); intro bl1 w H) | ((fail_if_success (have := bl2)); intro bl2 w H) | ((fail_if_success (have := bl3)); intro bl3 w H) | ((fail_if_success (have := bl4)); intro bl4 w H) | intro _ w H)) | (refine Ze H ?_; clear H; (try clear w); intro gv w H))
  refine C.drawn2 [bl4] [4, 1, 0, 2, 3, 0] [4] [0, 0, 0, 1, 11, 31] (by kernel_rfl) ?_; replace H := H.drew; simp only [segL, List.take_succ_cons, List.take_zero, List.drop_succ_cons, List.drop_zero]; have H0 := H
  repeat' (first | (refine X.lenL ?_) | (refine X.lv H ?_) | (refine X.lp H ?_) | (refine X.ldT H ?_) | (refine X.stT H ?_; clear H; (try clear w); intro w H) | (refine X.ldM H ?_) | (refine X.stR H ?_; clear H; (try clear w); intro w H) | (refine X.eqL ?_ ?_ <;> intro hc <;> first | (exfalso; first | exact absurd hc (by assumption) | exact absurd (by assumption) hc) | skip) | refine Z H ?_ | (refine Zc ?_ ?_ <;> intro hc <;> first | (exfalso; omega) | skip) | (refine Y ?_; try change C _ _ _ _ _ _) | (refine Zs H ?_; clear H; (try clear w); intro w H) | (refine Zn H ?_; clear H; (try clear w); (first | ((fail_if_success (have := bl1)); intro bl1 w H) | ((fail_if_success (have := bl2)); intro bl2 w H) | ((fail_if_success (have := bl3)); intro bl3 w H) | ((fail_if_success (have := bl4)); intro bl4 w H) | intro _ w H)) | (refine Ze H ?_; clear H; (try clear w); intro gv w H))
  refine ⟨rfl, rfl, (by repeat (first | exact subN_nil | refine subN_cons (by simp) ?_)), (by first | exact keep_same | (repeat (first | exact keepV H0 H | exact keepP H0 H | exact keep_nil | refine keep_cons ?_ ?_))), ?_⟩; clear H0; have H0 := H
  repeat' (first | (refine X.lenL ?_) | (refine X.lv H ?_) | (refine X.lp H ?_) | (refine X.ldT H ?_) | (refine X.stT H ?_; clear H; (try clear w); intro w H) | (refine X.ldM H ?_) | (refine X.stR H ?_; clear H; (try clear w); intro w H) | (refine X.eqL ?_ ?_ <;> intro hc <;> first | (exfalso; first | exact absurd hc (by assumption) | exact absurd (by assumption) hc) | skip) | refine Z H ?_ | (refine Zc ?_ ?_ <;> intro hc <;> first | (exfalso; omega) | skip) | (refine Y ?_; try change C _ _ _ _ _ _) | (refine Zs H ?_; clear H; (try clear w); intro w H) | (refine Zn H ?_; clear H; (try clear w); (first | ((fail_if_success (have := bl1)); intro bl1 w H) | ((fail_if_success (have := bl2)); intro bl2 w H) | ((fail_if_success (have := bl3)); intro bl3 w H) | ((fail_if_success (have := bl4)); intro bl4 w H) | intro _ w H)) | (refine Ze H ?_; clear H; (try clear w); intro gv w H))
  refine ⟨rfl, rfl, (by repeat (first | exact subN_nil | refine subN_cons (by simp) ?_)), (by first | exact keep_same | (repeat (first | exact keepV H0 H | exact keepP H0 H | exact keep_nil | refine keep_cons ?_ ?_))), ?_⟩; clear H0; have H0 := H
  repeat' (first | (refine X.lenL ?_) | (refine X.lv H ?_) | (refine X.lp H ?_) | (refine X.ldT H ?_) | (refine X.stT H ?_; clear H; (try clear w); intro w H) | (refine X.ldM H ?_) | (refine X.stR H ?_; clear H; (try clear w); intro w H) | (refine X.eqL ?_ ?_ <;> intro hc <;> first | (exfalso; first | exact absurd hc (by assumption) | exact absurd (by assumption) hc) | skip) | refine Z H ?_ | (refine Zc ?_ ?_ <;> intro hc <;> first | (exfalso; omega) | skip) | (refine Y ?_; try change C _ _ _ _ _ _) | (refine Zs H ?_; clear H; (try clear w); intro w H) | (refine Zn H ?_; clear H; (try clear w); (first | ((fail_if_success (have := bl1)); intro bl1 w H) | ((fail_if_success (have := bl2)); intro bl2 w H) | ((fail_if_success (have := bl3)); intro bl3 w H) | ((fail_if_success (have := bl4)); intro bl4 w H) | intro _ w H)) | (refine Ze H ?_; clear H; (try clear w); intro gv w H))
  exact ⟨_, resCCT H rfl (hn := TR.cells_len hu) (hn' := rcells_len hm8), s1, u, m, b, rfl, hs1, hu, hcu, hm, H.tail.tail.tail.tail⟩
end
end Go.Proofs.Ytlchnabnhimlcaa
set_option linter.unusedSimpArgs false
set_option linter.unusedVariables false
namespace Go.Proofs.Ytlchnabnhimlcaa
open Go Go.RowKit Go.Own
abbrev sA : Str := [47, 97]
abbrev sAF : Str := [47, 97, 47, 102]
abbrev sAB : Str := [47, 97, 47, 98]
def awt1 : TR := (makeM TR.new sA 1).1
def awt2 : TR := (makeM awt1 sAF 2).1
def awt3 : TR := (writeM awt2 sAF 38 [120, 121, 122] 8).1
theorem aw1_e : (makeM TR.new sA 1).2 = 0 := by decide +kernel
theorem aw2_e : (makeM awt1 sAF 2).2 = 0 := by decide +kernel
theorem aw2_f : findTM awt2 sAF = (2, 0) := by decide +kernel
theorem aw3_e : (writeM awt2 sAF 38 [120, 121, 122] 8).2 = 0 := by decide +kernel
theorem aw3_n : awt3.n 2 = ⟨2, 1, [102], 41, 1, 2⟩ := by decide +kernel
theorem aw3_m : (moveM awt3 sA sAB).2 = 172 := by decide +kernel
theorem aw3_r : (removeM awt3 sA).2 = 172 := by decide +kernel
theorem build_b3 (x y z : Int) (w : World) : (Instr.buildSlice 24 3 [(0, .int .u8 x), (1, .int .u8 y), (2, .int .u8 z)].toArray).run Try.prog w = .ok (.slice (some ⟨w.heap.size, 0, none⟩) 3 3) (w.alloc (.cells [.int .u8 x, .int .u8 y, .int .u8 z].toArray 5)) := by kernel_rfl
theorem build_blk12 (w : World) : (Instr.build 27 ([(0, .int .i64 1), (1, .int .i64 2)] : List (Nat × Value)).toArray).run Try.prog w = .ok (.agg ([.int .i64 1, .int .i64 2] : List Value).toArray) w := by kernel_rfl
/-- []byte("..") of a constant: the row is marked -/
theorem X.convB {n : Nat} {ops : Array Oper} {Q : Post} {rest : List Oper} {e : Env} {w : World} {tt : Nat} {pp : String} {af : Array Edge} {g : Option (Nat × Bool)} {d : Nat} {s : Ro} {rs : List Asn} {x : Operand} {bb m c : Nat} (l : Str) (H : Holds s w (row 5 1 (.slice (some ⟨bb, 0, none⟩) m c) m (u8s l) :: rs)) (h : ∀ w', Holds s w' (brow bb 5 m c l :: rs) → L Try.prog n ops Q rest (upd e d (.slice (some ⟨bb, 0, none⟩) m c)) w') (hw : wg n ops g e = true := by rfl) (hd : Nat.blt d n = true := by rfl) (hx : ev e x = .slice (some ⟨bb, 0, none⟩) m c := by rfl) : L Try.prog n ops Q (⟨some d, .convert 24 24 x, tt, pp, af, g⟩ :: rest) e w := by
  obtain ⟨F1, ⟨hF, hlen, hrw⟩, _, _, hup⟩ := H.upd (i := 0) rfl
  rcases hrw with ⟨hv, _⟩ | ⟨g', cap, cur, hv, _, hg, a1, a2, a3, a4⟩
  · cases hv
  cases hv
  rw [Nat.mul_one] at a3 a4
  have hsh : w.shape? bb = some (5, cur.size) := by unfold World.shape?; rw [hg]
  have hrun : (convert 24 24 (.slice (some ⟨bb, 0, none⟩) m c)).run Try.prog w = .ok (.slice (some ⟨bb, 0, none⟩) m c) (w.freeze ⟨bb, cur.size, none⟩ 1) := by
    simp [convert, run_underlying Try.underlying24, run_underlying Try.underlying5, markStringish, hsh]
  have hnew : (w.freeze ⟨bb, cur.size, none⟩ 1).heap[bb]? = some (.cells cur 5 (cur.size, cur.size + 1)) := by
    unfold World.freeze
    rw [if_neg (by decide)]
    simp [Array.getElem?_modify, hg]
  have hon : Only [bb] w (w.freeze ⟨bb, cur.size, none⟩ 1) := by
    unfold World.freeze
    rw [if_neg (by decide)]
    refine ⟨rfl, rfl, rfl, by simp, fun k _ hs => ?_⟩
    have : bb ≠ k := fun e => hs (by simp [e])
    simp [Array.getElem?_modify, this]
  have hF1 : F1 = [bb] := hF
  subst hF1
  refine L.val (o := ⟨some d, .convert 24 24 x, tt, pp, af, g⟩) _ _ hw hd (run_v (sm := convert 24 24 (ev e x)) rfl (by rw [hx]; exact hrun)) (h _ ?_)
  refine hup (brow bb 5 m c l) _ [bb] ⟨rfl, cur, _, hnew, a1, a2, a3, a4, ?_, Nat.le_refl _⟩ hon (fun k hk => .inl hk)
  rw [u8s_len, Nat.mul_one] at hlen
  exact hlen
section
variable {s : Ro} {w : World} {R : List Asn}
set_option maxRecDepth 100000 in
set_option maxHeartbeats 1000000 in
theorem awake17 (H : Holds s w R) : Calls Try.prog 8 #[] w fun y w' => ∃ s', y = .returned (.bool true) ∧ s.Le s' ∧ Holds s' w' R := by
  have hn := TR.ok_new
  have hz := TR.ok_zero
  have h1 : awt1.Ok := ok_make hn
  have h2 : awt2.Ok := ok_make h1
  have h3 : awt3.Ok := ok_write h2
  have e1 := aw1_e
  have e2 := aw2_e
  have e3 := aw2_f
  have e4 := aw3_e
  have e5 := aw3_m
  have e6 := aw3_r
  have n2 := aw3_n
  refine enter Try.func8 rfl Try.ntmps8 rfl ?_
  repeat' (first | (refine X.lenL ?_) | (refine X.lv H ?_) | (refine X.lp H ?_) | (refine X.ldT H ?_) | (refine X.stT H ?_; clear H; (try clear w); intro w H) | (refine K.build [] _ build_tree0 rfl rfl rfl ?_) | (refine X.eqL ?_ ?_ <;> intro hc <;> first | (exfalso; first | exact absurd hc (by assumption) | exact absurd (by assumption) hc) | skip) | refine Z H ?_ | (refine Zc ?_ ?_ <;> intro hc <;> first | (exfalso; omega) | skip) | (refine Y ?_; try change C _ _ _ _ _ _) | (refine Zs H ?_; clear H; (try clear w); intro w H) | (refine Zn H ?_; clear H; (try clear w); intro _ w H) | (refine Ze H ?_; clear H; (try clear w); intro gv w H))
  (refine X.call (NewT_s H) ?_; (try clear H); rintro _ w ⟨rfl, H⟩; refine ⟨_, rfl, ?_⟩)
  repeat' (first | (refine X.lenL ?_) | (refine X.lv H ?_) | (refine X.lp H ?_) | (refine X.ldT H ?_) | (refine X.stT H ?_; clear H; (try clear w); intro w H) | (refine K.build [] _ build_tree0 rfl rfl rfl ?_) | (refine X.eqL ?_ ?_ <;> intro hc <;> first | (exfalso; first | exact absurd hc (by assumption) | exact absurd (by assumption) hc) | skip) | refine Z H ?_ | (refine Zc ?_ ?_ <;> intro hc <;> first | (exfalso; omega) | skip) | (refine Y ?_; try change C _ _ _ _ _ _) | (refine Zs H ?_; clear H; (try clear w); intro w H) | (refine Zn H ?_; clear H; (try clear w); intro _ w H) | (refine Ze H ?_; clear H; (try clear w); intro gv w H))
  have hM := make_t (p := sA) (k := 1) H hn
  rw [e1, show (makeM TR.new sA 1).1 = awt1 from rfl] at hM
  (refine X.call (hM) ?_; (try clear H); rintro _ w ⟨rfl, H⟩; refine ⟨_, rfl, ?_⟩)
  clear hM
  repeat' (first | (refine X.lenL ?_) | (refine X.lv H ?_) | (refine X.lp H ?_) | (refine X.ldT H ?_) | (refine X.stT H ?_; clear H; (try clear w); intro w H) | (refine K.build [] _ build_tree0 rfl rfl rfl ?_) | (refine X.eqL ?_ ?_ <;> intro hc <;> first | (exfalso; first | exact absurd hc (by assumption) | exact absurd (by assumption) hc) | skip) | refine Z H ?_ | (refine Zc ?_ ?_ <;> intro hc <;> first | (exfalso; omega) | skip) | (refine Y ?_; try change C _ _ _ _ _ _) | (refine Zs H ?_; clear H; (try clear w); intro w H) | (refine Zn H ?_; clear H; (try clear w); intro _ w H) | (refine Ze H ?_; clear H; (try clear w); intro gv w H))
  have hM := make_t (p := sAF) (k := 2) H h1
  rw [e2, show (makeM awt1 sAF 2).1 = awt2 from rfl] at hM
  (refine X.call (hM) ?_; (try clear H); rintro _ w ⟨rfl, H⟩; refine ⟨_, rfl, ?_⟩)
  clear hM
  repeat' (first | (refine X.lenL ?_) | (refine X.lv H ?_) | (refine X.lp H ?_) | (refine X.ldT H ?_) | (refine X.stT H ?_; clear H; (try clear w); intro w H) | (refine K.build [] _ build_tree0 rfl rfl rfl ?_) | (refine X.eqL ?_ ?_ <;> intro hc <;> first | (exfalso; first | exact absurd hc (by assumption) | exact absurd (by assumption) hc) | skip) | refine Z H ?_ | (refine Zc ?_ ?_ <;> intro hc <;> first | (exfalso; omega) | skip) | (refine Y ?_; try change C _ _ _ _ _ _) | (refine Zs H ?_; clear H; (try clear w); intro w H) | (refine Zn H ?_; clear H; (try clear w); intro _ w H) | (refine Ze H ?_; clear H; (try clear w); intro gv w H))
  have hM := Find_s (p := sAF) H h2
  rw [e3] at hM
  (refine X.call (hM) ?_; (try clear H); rintro _ w ⟨rfl, H⟩; refine ⟨_, rfl, ?_⟩)
  clear hM
  repeat' (first | (refine X.lenL ?_) | (refine X.lv H ?_) | (refine X.lp H ?_) | (refine X.ldT H ?_) | (refine X.stT H ?_; clear H; (try clear w); intro w H) | (refine K.build [] _ build_tree0 rfl rfl rfl ?_) | (refine X.eqL ?_ ?_ <;> intro hc <;> first | (exfalso; first | exact absurd hc (by assumption) | exact absurd (by assumption) hc) | skip) | refine Z H ?_ | (refine Zc ?_ ?_ <;> intro hc <;> first | (exfalso; omega) | skip) | (refine Y ?_; try change C _ _ _ _ _ _) | (refine Zs H ?_; clear H; (try clear w); intro w H) | (refine Zn H ?_; clear H; (try clear w); intro _ w H) | (refine Ze H ?_; clear H; (try clear w); intro gv w H))
  refine K.lit [(0, .int .u8 120), (1, .int .u8 121), (2, .int .u8 122)] 5 1 [.int .u8 120, .int .u8 121, .int .u8 122] H (build_b3 _ _ _) rfl rfl rfl rfl (by decide) ?_
  clear H
  intro g2 w H
  refine X.convB [120, 121, 122] H ?_
  clear H
  intro w H
  obtain ⟨s1, hs1, H, hr1⟩ := Holds.fixBrow (l := [120, 121, 122]) H
  repeat' (first | (refine X.lenL ?_) | (refine X.lv H ?_) | (refine X.lp H ?_) | (refine X.ldT H ?_) | (refine X.stT H ?_; clear H; (try clear w); intro w H) | (refine K.build [] _ build_tree0 rfl rfl rfl ?_) | (refine X.eqL ?_ ?_ <;> intro hc <;> first | (exfalso; first | exact absurd hc (by assumption) | exact absurd (by assumption) hc) | skip) | refine Z H ?_ | (refine Zc ?_ ?_ <;> intro hc <;> first | (exfalso; omega) | skip) | (refine Y ?_; try change C _ _ _ _ _ _) | (refine Zs H ?_; clear H; (try clear w); intro w H) | (refine Zn H ?_; clear H; (try clear w); intro _ w H) | (refine Ze H ?_; clear H; (try clear w); intro gv w H))
  have hM := write_t (p := sAF) (l := [120, 121, 122]) (at_ := 38) (quota := 8) H h2 hr1 (by decide)
  rw [e4, show (writeM awt2 sAF 38 [120, 121, 122] 8).1 = awt3 from rfl] at hM
  (refine X.call (hM) ?_; (try clear H); rintro _ w ⟨rfl, H⟩; refine ⟨_, rfl, ?_⟩)
  clear hM
  repeat' (first | (refine X.lenL ?_) | (refine X.lv H ?_) | (refine X.lp H ?_) | (refine X.ldT H ?_) | (refine X.stT H ?_; clear H; (try clear w); intro w H) | (refine K.build [] _ build_tree0 rfl rfl rfl ?_) | (refine X.eqL ?_ ?_ <;> intro hc <;> first | (exfalso; first | exact absurd hc (by assumption) | exact absurd (by assumption) hc) | skip) | refine Z H ?_ | (refine Zc ?_ ?_ <;> intro hc <;> first | (exfalso; omega) | skip) | (refine Y ?_; try change C _ _ _ _ _ _) | (refine Zs H ?_; clear H; (try clear w); intro w H) | (refine Zn H ?_; clear H; (try clear w); intro _ w H) | (refine Ze H ?_; clear H; (try clear w); intro gv w H))
  have hM := move_t (p := sA) (q := sAB) H h3
  rw [e5] at hM
  have h4 : (moveM awt3 sA sAB).1.Ok := ok_move h3
  generalize (moveM awt3 sA sAB).1 = aw4 at *
  (refine X.call (hM) ?_; (try clear H); rintro _ w ⟨rfl, H⟩; refine ⟨_, rfl, ?_⟩)
  clear hM
  repeat' (first | (refine X.lenL ?_) | (refine X.lv H ?_) | (refine X.lp H ?_) | (refine X.ldT H ?_) | (refine X.stT H ?_; clear H; (try clear w); intro w H) | (refine K.build [] _ build_tree0 rfl rfl rfl ?_) | (refine X.eqL ?_ ?_ <;> intro hc <;> first | (exfalso; first | exact absurd hc (by assumption) | exact absurd (by assumption) hc) | skip) | refine Z H ?_ | (refine Zc ?_ ?_ <;> intro hc <;> first | (exfalso; omega) | skip) | (refine Y ?_; try change C _ _ _ _ _ _) | (refine Zs H ?_; clear H; (try clear w); intro w H) | (refine Zn H ?_; clear H; (try clear w); intro _ w H) | (refine Ze H ?_; clear H; (try clear w); intro gv w H))
  have hM := remove_t (p := sA) H h3
  rw [e6] at hM
  have h5 : (removeM awt3 sA).1.Ok := ok_remove h3
  generalize (removeM awt3 sA).1 = aw5 at *
  (refine X.call (hM) ?_; (try clear H); rintro _ w ⟨rfl, H⟩; refine ⟨_, rfl, ?_⟩)
  clear hM
  have c3 := TR.cell h3 (i := 2) (by decide) 3 (.int .i64 41) (by rw [n2]; rfl)
  have c4 := TR.blks h3 (i := 2) (by decide)
  rw [n2] at c4
  change _ = [Value.int .i64 1, Value.int .i64 2] at c4
  repeat' (first | (refine K.iaA (i := 2) rfl rfl rfl rfl rfl (by decide) ?_) | (refine K.build [(0, .int .i64 1), (1, .int .i64 2)] _ build_blk12 rfl rfl rfl ?_) | (refine X.eqA (eq_blk 9998 _ _ _ _) guard_blk ?_) | (refine X.lenL ?_) | (refine X.lv H ?_) | (refine X.lp H ?_) | (refine X.ldT H ?_) | (refine X.stT H ?_; clear H; (try clear w); intro w H) | (refine K.build [] _ build_tree0 rfl rfl rfl ?_) | (refine X.eqL ?_ ?_ <;> intro hc <;> first | (exfalso; first | exact absurd hc (by assumption) | exact absurd (by assumption) hc) | skip) | refine Z H ?_ | (refine Zc ?_ ?_ <;> intro hc <;> first | (exfalso; omega) | skip) | (refine Y ?_; try change C _ _ _ _ _ _) | (refine Zs H ?_; clear H; (try clear w); intro w H) | (refine Zn H ?_; clear H; (try clear w); intro _ w H) | (refine Ze H ?_; clear H; (try clear w); intro gv w H))
  --DBG
  exact ⟨_, resT rfl, s1, rfl, hs1, by exact H.tail.tail.tail.tail⟩
end
end Go.Proofs.Ytlchnabnhimlcaa
set_option linter.unusedSimpArgs false
set_option linter.unusedVariables false
namespace Go.Proofs.Ytlchnabnhimlcaa
open Go Go.RowKit Go.Own
section
variable {w : World} {s : Ro} {R : List Asn}
end
end Go.Proofs.Ytlchnabnhimlcaa

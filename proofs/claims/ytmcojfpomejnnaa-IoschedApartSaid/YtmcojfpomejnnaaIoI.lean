/- Layer 15: a schedule that is made, and acts on it. -/
import Derived.Test.YtmcojfpomejnnaaIoH
set_option linter.unusedSimpArgs false
set_option linter.unusedVariables false
namespace Go.Proofs.Ytmcojfpomejnnaa
open Go Go.RowKit Go.Own

theorem build_ints4 (x y z u : Int) (w : World) : (Instr.buildSlice 22 4 [(0, .int .i64 x), (1, .int .i64 y), (2, .int .i64 z), (3, .int .i64 u)].toArray).run Try.prog w = .ok (.slice (some ⟨w.heap.size, 0, none⟩) 4 4) (w.alloc (.cells [.int .i64 x, .int .i64 y, .int .i64 z, .int .i64 u].toArray 3)) := by kernel_rfl
theorem build_ext0 (w : World) : (Instr.build 33 ([] : List (Nat × Value)).toArray).run Try.prog w = .ok (.agg #[.int .i64 0, .int .i64 0]) w := by kernel_rfl
theorem build_exts3 (a b c d e f : Int) (w : World) : (Instr.buildSlice 34 3 [(0, .agg #[.int .i64 a, .int .i64 b]), (1, .agg #[.int .i64 c, .int .i64 d]), (2, .agg #[.int .i64 e, .int .i64 f])].toArray).run Try.prog w = .ok (.slice (some ⟨w.heap.size, 0, none⟩) 3 3) (w.alloc (.cells [.int .i64 a, .int .i64 b, .int .i64 c, .int .i64 d, .int .i64 e, .int .i64 f].toArray 33)) := by kernel_rfl
theorem build_shape (xa ra la : Option Addr) (a b c d e f : Nat) (w : World) : (Instr.build 58 [(0, .slice xa a b), (1, .slice ra c d), (2, .slice la e f)].toArray).run Try.prog w = .ok (.agg #[.slice xa a b, .slice ra c d, .slice la e f]) w := by kernel_rfl
section
variable {P : Program} {s : Ro} {w : World} {rs : List Asn} {e : Nat → Value}
theorem resTTV {fn : Func} {r ty k u v : Nat} [T : RowC P ty k] {b t : Nat} {cs : List Value} {f : List Value → List Asn} (H : Holds s w rs) (h : fn.results = #[.tmp u, .tmp v, .cell r ty]) (hr : e r = .pointer (some ⟨b, 0, none⟩) := by rfl) (V : PutV rs b t cs f := by infer_instance) (hn : cs.length = k := by rfl) : ResE P fn e w (.tuple #[e u, e v, .agg cs.toArray]) := by
  obtain ⟨i, hi, _⟩ := V.ix
  intro a ha
  have hr' : a.tmps.getD r undef = .pointer (some ⟨b, 0, none⟩) := by rw [← hr, ← ha]; rfl
  rw [Array.getD_eq_getD_getElem?] at hr'
  have := run_cell (P := P) (ty := ty) (off := 0) H hi hn
  subst ha
  simp [results, h, hr', asAddr, this, envOf]
end

section
variable {s : Ro} {w : World} {R : List Asn}
set_option maxRecDepth 100000 in
set_option maxHeartbeats 1000000 in
theorem made_s {x : Shp} {acts : List Act15} {va : Option Addr} {vc : Nat} (H : Holds s w R) (hx : x.Ok s) (ha : SlS s (.slice va acts.length vc) 8 acts.length (acts.flatMap Act15.cells)) (hok : ∀ a ∈ acts, a.Ok s) :
    Calls Try.prog 41 #[.agg x.cells.toArray, .slice va acts.length vc] w fun e w' => ∃ s' b bS, ∃ x' : Shp, e = .returned (.tuple #[.pointer (some ⟨bS, 0, none⟩), .pointer (some ⟨b, 0, none⟩), .agg x'.cells.toArray]) ∧ s.Le s' ∧ x'.Ok s' ∧ mayM 16 x'.xs x'.rooms x'.slots = 0 ∧ Sch s' w' b bS (play15 x' (acts.take 40)).1 (dsk b (play15 x' (acts.take 40)).2 :: R) := by
  have hf := hx.few
  obtain ⟨_, _, e1, h1, h1'⟩ := slS_shape hx.hx
  obtain ⟨_, _, e2, h2, h2'⟩ := slS_shape hx.hr
  obtain ⟨_, _, e3, h3, h3'⟩ := slS_shape hx.hl
  cases e1; cases e2; cases e3
  refine enter Try.func41 rfl Try.ntmps41 rfl ?_
  repeat' (first | refine Z H ?_ | (refine Zc ?_ ?_ <;> intro hc <;> first | (exfalso; omega) | skip) | (refine Y ?_; try change C _ _ _ _ _ _) | (refine Zs H ?_; clear H; (try clear w); intro w H) | (refine Zn H ?_; clear H; (try clear w); (first | ((fail_if_success (have := bl1)); intro bl1 w H) | ((fail_if_success (have := bl2)); intro bl2 w H) | intro _ w H)) | (refine Ze H ?_; clear H; (try clear w); intro gv w H))
  (refine X.call (few_s H h1 h2 h3 h1' h2' h3') ?_; (try clear H); rintro _ w ⟨rfl, H⟩; refine ⟨_, rfl, ?_⟩)
  repeat' (first | ((fail_if_success (with_reducible show C _ _ _ (Code.seq (Code.seq (Code.region 2 _ _) _) _) _ _)); refine Z H ?_) | (refine Zc ?_ ?_ <;> intro hc <;> first | (exfalso; omega) | skip) | (refine Y ?_; try change C _ _ _ _ _ _) | (refine Zs H ?_; clear H; (try clear w); intro w H) | (refine Zn H ?_; clear H; (try clear w); (first | ((fail_if_success (have := bl1)); intro bl1 w H) | ((fail_if_success (have := bl2)); intro bl2 w H) | intro _ w H)) | (refine Ze H ?_; clear H; (try clear w); intro gv w H))
  refine C.cut [14, 15, 16, 17, 18, 19, 20, 21, 22, 23, 24, 25, 26, 27, 28, 29] [] rfl (fun vs w => ∃ s', ∃ x' : Shp, s.Le s' ∧ x'.Ok s' ∧ mayM 16 x'.xs x'.rooms x'.slots = 0 ∧ Holds s' w (var bl1 58 x'.cells :: var bl2 58 [.slice none 0 0, .slice none 0 0, .slice none 0 0] :: R)) ?_ ?_
  · repeat' (first | refine Z H ?_ | (refine Zc ?_ ?_ <;> intro hc <;> first | (exfalso; omega) | skip) | (refine Y ?_; try change C _ _ _ _ _ _) | (refine Zs H ?_; clear H; (try clear w); intro w H) | (refine Zn H ?_; clear H; (try clear w); (first | ((fail_if_success (have := bl1)); intro bl1 w H) | ((fail_if_success (have := bl2)); intro bl2 w H) | intro _ w H)) | (refine Ze H ?_; clear H; (try clear w); intro gv w H))
    refine C.drawn5 [0, 1, 3, 4, 5, 6, 2, 7, 8] [0, 4, 0, 1, 0, 1, 2, 3, 0] [7, 1] [0, 1, 3, 0, 8, 0, 32, 127, 255] (by kernel_rfl) ?_; replace H := H.drew; simp only [Reg.pick, List.filterMap_cons, List.filterMap_nil, List.getElem?_toArray, List.getElem?_cons_zero, List.getElem?_cons_succ, segN, List.take_succ_cons, List.take_zero, List.drop_succ_cons, List.drop_zero]
    repeat' (first | refine Z H ?_ | (refine Zc ?_ ?_ <;> intro hc <;> first | (exfalso; omega) | skip) | (refine Y ?_; try change C _ _ _ _ _ _) | (refine Zs H ?_; clear H; (try clear w); intro w H) | (refine Zn H ?_; clear H; (try clear w); (first | ((fail_if_success (have := bl1)); intro bl1 w H) | ((fail_if_success (have := bl2)); intro bl2 w H) | intro _ w H)) | (refine Ze H ?_; clear H; (try clear w); intro gv w H))
    (refine X.call (pairs_e (xs := x.xs.take 10) H hf.hx (by rw [List.length_take]; omega)) ?_; (try clear H); rintro _ w ⟨aa, cc, rfl, ho, H⟩; refine ⟨_, rfl, ?_⟩); refine L.nil ?_; refine ⟨rfl, rfl, (by first | exact fun h => Bool.noConfusion (show false = true from h) | exact fun _ => ext_same | exact fun _ => ext_only (by assumption)), ?_⟩
    clear ho
    obtain ⟨s1, hs1, H, hp1⟩ := H.fixRow
    have hM := May_r (n := 16) H (by decide) hp1 hf.hxo (hf.hr.mono hs1) (hf.hl.mono hs1) (by show (x.xs.take 10).length ≤ _; rw [List.length_take]; omega) (by show (x.rooms.take 10).length ≤ _; rw [List.length_take]; omega) (by show (x.slots.take 34).length ≤ _; rw [List.length_take]; omega)
    (refine X.call (hM) ?_; (try clear H); rintro _ w ⟨rfl, H⟩; refine ⟨_, rfl, ?_⟩); refine L.nil ?_; refine ⟨rfl, rfl, (by first | exact fun h => Bool.noConfusion (show false = true from h) | exact fun _ => ext_same | exact fun _ => ext_only (by assumption)), ?_⟩
    clear hM
    repeat' (first | (refine K.build [(0, .int .i64 _), (1, .int .i64 _)] (.agg #[.int .i64 _, .int .i64 _]) (build_ext _ _) rfl rfl rfl ?_) | (refine K.build [] (.agg #[.int .i64 0, .int .i64 0]) build_ext0 rfl rfl rfl ?_) | refine Z H ?_ | (refine Zc ?_ ?_ <;> intro hc <;> first | (exfalso; omega) | skip) | (refine Y ?_; try change C _ _ _ _ _ _) | (refine Zs H ?_; clear H; (try clear w); intro w H) | (refine Zn H ?_; clear H; (try clear w); (first | ((fail_if_success (have := bl1)); intro bl1 w H) | ((fail_if_success (have := bl2)); intro bl2 w H) | intro _ w H)) | (refine Ze H ?_; clear H; (try clear w); intro gv w H))
    · refine K.lit [(0, .agg #[.int .i64 0, .int .i64 5]), (1, .agg #[.int .i64 5, .int .i64 5]), (2, .agg #[.int .i64 0, .int .i64 0])] 33 2 [.int .i64 0, .int .i64 5, .int .i64 5, .int .i64 5, .int .i64 0, .int .i64 0] H (build_exts3 _ _ _ _ _ _) rfl rfl rfl rfl (by decide) ?_
      clear H
      intro g1 w H
      obtain ⟨s2, hs2, H, hr1⟩ := H.fixRow
      refine K.lit [(0, .int .i64 3), (1, .int .i64 2), (2, .int .i64 1)] 3 1 [.int .i64 3, .int .i64 2, .int .i64 1] H (build_ints3 _ _ _) rfl rfl rfl rfl (by decide) ?_
      clear H
      intro g2 w H
      obtain ⟨s3, hs3, H, hr2⟩ := H.fixRow
      refine K.lit [(0, .int .i64 0), (1, .int .i64 1), (2, .int .i64 (-1)), (3, .int .i64 0)] 3 1 [.int .i64 0, .int .i64 1, .int .i64 (-1), .int .i64 0] H (build_ints4 _ _ _ _) rfl rfl rfl rfl (by decide) ?_
      clear H
      intro g3 w H
      obtain ⟨s4, hs4, H, hr3⟩ := H.fixRow
      refine K.build [(0, .slice (some ⟨g1, 0, none⟩) 3 3), (1, .slice (some ⟨g2, 0, none⟩) 3 3), (2, .slice (some ⟨g3, 0, none⟩) 4 4)] (.agg #[.slice (some ⟨g1, 0, none⟩) 3 3, .slice (some ⟨g2, 0, none⟩) 3 3, .slice (some ⟨g3, 0, none⟩) 4 4]) (build_shape _ _ _ _ _ _ _ _ _) rfl rfl rfl ?_
      repeat' (first | refine Z H ?_ | (refine Zc ?_ ?_ <;> intro hc <;> first | (exfalso; omega) | skip) | (refine Y ?_; try change C _ _ _ _ _ _) | (refine Zs H ?_; clear H; (try clear w); intro w H) | (refine Zn H ?_; clear H; (try clear w); (first | ((fail_if_success (have := bl1)); intro bl1 w H) | ((fail_if_success (have := bl2)); intro bl2 w H) | intro _ w H)) | (refine Ze H ?_; clear H; (try clear w); intro gv w H))
      have H' : Holds s4 w (var bl1 58 [.slice (some ⟨g1, 0, none⟩) 3 3, .slice (some ⟨g2, 0, none⟩) 3 3, .slice (some ⟨g3, 0, none⟩) 4 4] :: var bl2 58 [.slice none 0 0, .slice none 0 0, .slice none 0 0] :: R) := H.arr
      exact ⟨by (repeat (first | exact Agr.refl | exact Agr.hav | refine Agr.upd rfl ?_ | refine Agr.in rfl ?_)), s4, ⟨[(0, 5), (5, 5), (0, 0)], [3, 2, 1], [0, 1, -1, 0], some ⟨g1, 0, none⟩, some ⟨g2, 0, none⟩, some ⟨g3, 0, none⟩, 3, 3, 4⟩, hs1.trans (hs2.trans (hs3.trans hs4)), ⟨hr1.mono (hs3.trans hs4), by show ∀ e ∈ ([(0, 5), (5, 5), (0, 0)] : List Ext), I64 e.1 ∧ I64 e.2; decide, hr2.mono hs4, hr3⟩, by show mayM 16 [(0, 5), (5, 5), (0, 0)] [3, 2, 1] [0, 1, -1, 0] = 0; decide, H'⟩
    · rename_i hc
      have H' : Holds s1 w (var bl1 58 [.slice x.xa (x.xs.take 10).length x.xc, .slice x.ra (x.rooms.take 10).length x.rc, .slice x.la (x.slots.take 34).length x.lc] :: var bl2 58 [.slice none 0 0, .slice none 0 0, .slice none 0 0] :: R) := H.arr
      exact ⟨by (repeat (first | exact Agr.refl | exact Agr.hav | refine Agr.upd rfl ?_ | refine Agr.in rfl ?_)), s1, x.few, hs1, hf.mono hs1, hc, H'⟩
  clear H
  rintro vs hv w ⟨s1, x1, hs1, hx1, hm1, H⟩
  repeat' (first | refine Z H ?_ | (refine Zc ?_ ?_ <;> intro hc <;> first | (exfalso; omega) | skip) | (refine Y ?_; try change C _ _ _ _ _ _) | (refine Zs H ?_; clear H; (try clear w); intro w H) | (refine Zn H ?_; clear H; (try clear w); (first | ((fail_if_success (have := bl1)); intro bl1 w H) | ((fail_if_success (have := bl2)); intro bl2 w H) | intro _ w H)) | (refine Ze H ?_; clear H; (try clear w); intro gv w H))
  (refine X.call (New_s (n := 16) H (by decide) (by decide)) ?_; (try clear H); rintro _ w ⟨b, rfl, H⟩; refine ⟨_, rfl, ?_⟩)
  repeat' (first | refine Z H ?_ | (refine Zc ?_ ?_ <;> intro hc <;> first | (exfalso; omega) | skip) | (refine Y ?_; try change C _ _ _ _ _ _) | (refine Zs H ?_; clear H; (try clear w); intro w H) | (refine Zn H ?_; clear H; (try clear w); (first | ((fail_if_success (have := bl1)); intro bl1 w H) | ((fail_if_success (have := bl2)); intro bl2 w H) | intro _ w H)) | (refine Ze H ?_; clear H; (try clear w); intro gv w H))
  have bx : x1.xs.length ≤ 1000 ∧ x1.rooms.length ≤ 1000 ∧ x1.slots.length ≤ 1000 := by
    by_cases h : x1.rooms.length = x1.xs.length ∧ x1.xs.length ≤ 8 ∧ x1.slots.length ≤ 32
    · omega
    · rw [may_1 h] at hm1; cases hm1
  (refine X.call (New_q1 H hx1.hx hx1.hxo hx1.hr hx1.hl bx.1 bx.2.1 bx.2.2 hm1) ?_; (try clear H); rintro _ w ⟨s2, bS, rfl, hs2, hS⟩; refine ⟨_, rfl, ?_⟩)
  obtain ⟨va', cap, sa, sc, ps, hr, hsl, H⟩ := hS
  repeat' (first | refine Z H ?_ | (refine Zc ?_ ?_ <;> intro hc <;> first | (exfalso; omega) | skip) | (refine Y ?_; try change C _ _ _ _ _ _) | (refine Zs H ?_; clear H; (try clear w); intro w H) | (refine Zn H ?_; clear H; (try clear w); (first | ((fail_if_success (have := bl1)); intro bl1 w H) | ((fail_if_success (have := bl2)); intro bl2 w H) | intro _ w H)) | (refine Ze H ?_; clear H; (try clear w); intro gv w H))
  have hS := Sch.close (b := b) (bS := bS) (va := va') (sa := sa) (cap := cap) (sc := sc) (d := DM.new 16) hr hsl H
  have hn : (acts.take 40).length ≤ 40 ∧ (acts.take 40).length ≤ acts.length ∧ ((acts.take 40).length = 40 ∨ (acts.take 40).length = acts.length) := by rw [List.length_take]; omega
  clear hr hsl H
  refine C.loopS [11, 48, 49, 50, 51, 52, 53, 54, 55, 56, 57, 58, 59, 60, 61, 62, 63, 64, 65, 66, 67, 68, 69, 70, 71, 72, 73, 74, 75, 76, 77, 78, 79, 80, 81, 82, 83, 84, 85, 86, 87] [11] rfl (fun m vs w => ∃ i : Nat, ∃ s', m = (acts.take 40).length - i ∧ i ≤ (acts.take 40).length ∧ vs = [.int .i64 (i : Int)] ∧ s2.Le s' ∧ Sch s' w b bS (play15 x1 (acts.take i)).1 (dsk b (play15 x1 (acts.take i)).2 :: var bl1 58 x1.cells :: var bl2 58 [.slice none 0 0, .slice none 0 0, .slice none 0 0] :: R)) (acts.take 40).length ⟨0, s2, rfl, by omega, rfl, Ro.Le.refl _, hS⟩ ?_
  clear hS
  rintro m vs hv' w ⟨i, s3, rfl, hi, rfl, hs3, hS⟩
  by_cases hlt : i < (acts.take 40).length
  · have hia : i < acts.length := by omega
    have hsu := play15_succ x1 acts i hia
    have hbd := play15_bd x1 (acts.take i)
    have hbl : (acts.take i).length ≤ 40 := by rw [List.length_take]; omega
    replace hbd := hbd.le hbl
    obtain ⟨gl, ol, cl, hv2, _, _, hpin⟩ := elemS (ha.mono (hs1.trans (hs2.trans hs3))) (fun _ _ => rfl) (by decide) (by omega)
    cases hv2
    have hak := (hok _ (List.getElem_mem hia)).mono (hs1.trans (hs2.trans hs3))
    have hpA : ∀ j v, (acts[i].cells)[j]? = some v → Pin s3 gl (ol + i * 8 + j) v := hpin i hia
    clear hpin
    generalize acts[i] = a at *
    obtain ⟨ado, apart, akind, aat, adata, afill, aoff, akv, akeep⟩ := a
    have p0 : Pin s3 gl (ol + i * 8 + 0) (.int .i64 ado) := hpA 0 _ rfl
    have p1 : Pin s3 gl (ol + i * 8 + 1) (.int .i64 apart) := hpA 1 _ rfl
    have hpA' : ∀ j v, ([.int .i64 ado, .int .i64 apart, .int .i64 akind, .int .i64 aat, .bool adata, u8 afill, .int .i64 aoff, akv] : List Value)[j]? = some v → Pin s3 gl (ol + i * 8 + j) v := hpA
    clear hpA
    unfold act15 at hsu
    simp only at hsu
    generalize play15 x1 (acts.take i) = pm at *
    obtain ⟨m, d⟩ := pm
    simp only at *
    obtain ⟨va', cap, sa, sc, ps, hr, hsl, H⟩ := hS
    by_cases d5 : ado ≤ 5
    · rw [if_pos d5] at hsu
      repeat' (first | refine Z H ?_ | (refine Zc ?_ ?_ <;> intro hc <;> first | (exfalso; omega) | skip) | (refine Y ?_; try change C _ _ _ _ _ _) | (refine Zs H ?_; clear H; (try clear w); intro w H) | (refine Zn H ?_; clear H; (try clear w); (first | ((fail_if_success (have := bl1)); intro bl1 w H) | ((fail_if_success (have := bl2)); intro bl2 w H) | intro _ w H)) | (refine Ze H ?_; clear H; (try clear w); intro gv w H))
      refine C.drawn5 [0, 1, 2, 3, 4, 5, 6, 7, 8, 9, 10, 11] [0, 0, 0, 0, 0, 1, 0, 0, 0, 4, 2, 3] [11, 1] [0, 0, 0, 6, 14, 30, 0, 0, 192, 448, 960, 2047] (by kernel_rfl) ?_; replace H := H.drew; simp only [Reg.pick, List.filterMap_cons, List.filterMap_nil, List.getElem?_toArray, List.getElem?_cons_zero, List.getElem?_cons_succ, segN, List.take_succ_cons, List.take_zero, List.drop_succ_cons, List.drop_zero]
      repeat' (first | refine Z H ?_ | (refine Zc ?_ ?_ <;> intro hc <;> first | (exfalso; omega) | skip) | (refine Y ?_; try change C _ _ _ _ _ _) | (refine Zs H ?_; clear H; (try clear w); intro w H) | (refine Zn H ?_; clear H; (try clear w); (first | ((fail_if_success (have := bl1)); intro bl1 w H) | ((fail_if_success (have := bl2)); intro bl2 w H) | intro _ w H)) | (refine Ze H ?_; clear H; (try clear w); intro gv w H))
      obtain ⟨ka, kc, hkv, _, _⟩ := slS_shape hak.keep
      (refine X.call (Request_e (a := ⟨ado, apart, akind, aat, adata, afill, aoff, akv, akeep⟩) H hkv) ?_; (try clear H); rintro _ w ⟨t1, a1, c1, rfl, ho, H⟩; refine ⟨_, rfl, ?_⟩); refine L.nil ?_; refine ⟨rfl, rfl, (by first | exact fun h => Bool.noConfusion (show false = true from h) | exact fun _ => ext_same | exact fun _ => ext_only (by assumption)), ?_⟩
      clear ho
      repeat' (first | refine Z H ?_ | (refine Zc ?_ ?_ <;> intro hc <;> first | (exfalso; omega) | skip) | (refine Y ?_; try change C _ _ _ _ _ _) | (refine Zs H ?_; clear H; (try clear w); intro w H) | (refine Zn H ?_; clear H; (try clear w); (first | ((fail_if_success (have := bl1)); intro bl1 w H) | ((fail_if_success (have := bl2)); intro bl2 w H) | intro _ w H)) | (refine Ze H ?_; clear H; (try clear w); intro gv w H))
      have hrl := req_len ⟨ado, apart, akind, aat, adata, afill, aoff, akv, akeep⟩
      generalize Act15.req ⟨ado, apart, akind, aat, adata, afill, aoff, akv, akeep⟩ = l at *
      have hS := Sch.close (b := b) (bS := bS) (va := va') (sa := sa) (cap := cap) (sc := sc) (d := d) hr hsl H
      have hA := Ask_s (i := apart) (k := akind) (a := aat) (l := l) hS (.own 1 _ rfl) hak.hp hak.ha (by omega) (fun p hp => by have := hbd.last p hp; omega)
      (refine X.call (hA) ?_; (try clear H); rintro _ w ⟨s4, rfl, hs4, hS⟩; refine ⟨_, rfl, ?_⟩); refine L.nil ?_; refine ⟨rfl, rfl, (by first | exact fun h => Bool.noConfusion (show false = true from h) | exact fun _ => ext_same | exact fun _ => ext_only (by assumption)), ?_⟩
      clear hA hr hsl
      obtain ⟨va', cap, sa, sc, ps, hr, hsl, H⟩ := hS
      repeat' (first | refine Z H ?_ | (refine Zc ?_ ?_ <;> intro hc <;> first | (exfalso; omega) | skip) | (refine Y ?_; try change C _ _ _ _ _ _) | (refine Zs H ?_; clear H; (try clear w); intro w H) | (refine Zn H ?_; clear H; (try clear w); (first | ((fail_if_success (have := bl1)); intro bl1 w H) | ((fail_if_success (have := bl2)); intro bl2 w H) | intro _ w H)) | (refine Ze H ?_; clear H; (try clear w); intro gv w H))
      have hS := Sch.close (b := b) (bS := bS) (va := va') (sa := sa) (cap := cap) (sc := sc) (d := d) hr hsl H
      exact ⟨by (repeat (first | exact Agr.refl | exact Agr.hav | refine Agr.upd rfl ?_ | refine Agr.in rfl ?_)), (acts.take 40).length - (i + 1), by omega, i + 1, s4, rfl, by omega, rfl, hs3.trans hs4, by rw [hsu]; exact hS.arr⟩
    · rw [if_neg d5] at hsu
      by_cases d7 : 7 < ado
      · rw [if_pos d7] at hsu
        repeat' (first | refine Z H ?_ | (refine Zc ?_ ?_ <;> intro hc <;> first | (exfalso; omega) | skip) | (refine Y ?_; try change C _ _ _ _ _ _) | (refine Zs H ?_; clear H; (try clear w); intro w H) | (refine Zn H ?_; clear H; (try clear w); (first | ((fail_if_success (have := bl1)); intro bl1 w H) | ((fail_if_success (have := bl2)); intro bl2 w H) | intro _ w H)) | (refine Ze H ?_; clear H; (try clear w); intro gv w H))
        have hS := Sch.close (b := b) (bS := bS) (va := va') (sa := sa) (cap := cap) (sc := sc) (d := d) hr hsl H
        have hT := Slot_s hS (by have := hbd.ep.pl; omega) (fun p hp => by have := hbd.served p hp; omega)
        (refine X.call (hT) ?_; (try clear H); rintro _ w ⟨t2, a2, c2, rfl, hS⟩; refine ⟨_, rfl, ?_⟩)
        clear hT hr hsl
        obtain ⟨va', cap, sa, sc, ps, hr, hsl, H⟩ := hS
        repeat' (first | refine Z H ?_ | (refine Zc ?_ ?_ <;> intro hc <;> first | (exfalso; omega) | skip) | (refine Y ?_; try change C _ _ _ _ _ _) | (refine Zs H ?_; clear H; (try clear w); intro w H) | (refine Zn H ?_; clear H; (try clear w); (first | ((fail_if_success (have := bl1)); intro bl1 w H) | ((fail_if_success (have := bl2)); intro bl2 w H) | intro _ w H)) | (refine Ze H ?_; clear H; (try clear w); intro gv w H))
        have hS := Sch.close (b := b) (bS := bS) (va := va') (sa := sa) (cap := cap) (sc := sc) (d := (m.slot d).2.1) hr hsl H
        exact ⟨by (repeat (first | exact Agr.refl | exact Agr.hav | refine Agr.upd rfl ?_ | refine Agr.in rfl ?_)), (acts.take 40).length - (i + 1), by omega, i + 1, s3, rfl, by omega, rfl, hs3, by rw [hsu]; exact hS.arr⟩
      · rw [if_neg d7] at hsu
        repeat' (first | refine Z H ?_ | (refine Zc ?_ ?_ <;> intro hc <;> first | (exfalso; omega) | skip) | (refine Y ?_; try change C _ _ _ _ _ _) | (refine Zs H ?_; clear H; (try clear w); intro w H) | (refine Zn H ?_; clear H; (try clear w); (first | ((fail_if_success (have := bl1)); intro bl1 w H) | ((fail_if_success (have := bl2)); intro bl2 w H) | intro _ w H)) | (refine Ze H ?_; clear H; (try clear w); intro gv w H))
        have hS := Sch.close (b := b) (bS := bS) (va := va') (sa := sa) (cap := cap) (sc := sc) (d := d) hr hsl H
        exact ⟨by (repeat (first | exact Agr.refl | exact Agr.hav | refine Agr.upd rfl ?_ | refine Agr.in rfl ?_)), (acts.take 40).length - (i + 1), by omega, i + 1, s3, rfl, by omega, rfl, hs3, by rw [hsu]; exact hS.arr⟩
  · have hie : i = (acts.take 40).length := by omega
    subst hie
    rw [take_self] at hS
    obtain ⟨va', cap, sa, sc, ps, hr, hsl, H⟩ := hS
    repeat' (first | refine Z H ?_ | (refine Zc ?_ ?_ <;> intro hc <;> first | (exfalso; omega) | skip) | (refine Y ?_; try change C _ _ _ _ _ _) | (refine Zs H ?_; clear H; (try clear w); intro w H) | (refine Zn H ?_; clear H; (try clear w); (first | ((fail_if_success (have := bl1)); intro bl1 w H) | ((fail_if_success (have := bl2)); intro bl2 w H) | intro _ w H)) | (refine Ze H ?_; clear H; (try clear w); intro gv w H))
    all_goals
      refine C.drawn1 [0, 0, 1, 0, 0, 3] [0, 0, 0, 1, 11, 31] (by kernel_rfl) ?_; replace H := H.drew
      repeat' (first | refine Z H ?_ | (refine Zc ?_ ?_ <;> intro hc <;> first | (exfalso; omega) | skip) | (refine Y ?_; try change C _ _ _ _ _ _) | (refine Zs H ?_; clear H; (try clear w); intro w H) | (refine Zn H ?_; clear H; (try clear w); (first | ((fail_if_success (have := bl1)); intro bl1 w H) | ((fail_if_success (have := bl2)); intro bl2 w H) | intro _ w H)) | (refine Ze H ?_; clear H; (try clear w); intro gv w H))
      have hS := Sch.close (b := b) (bS := bS) (va := va') (sa := sa) (cap := cap) (sc := sc) (d := (play15 x1 (acts.take 40)).2) hr hsl H
      exact ⟨_, resTTV H rfl, s3, b, bS, x1, rfl, hs1.trans (hs2.trans hs3), hx1.mono (hs2.trans hs3), hm1, hS.arr⟩
end
end Go.Proofs.Ytmcojfpomejnnaa

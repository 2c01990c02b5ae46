/- IoschedApart, walked. -/
import Derived.Test.YtmcojfpomejnnaaIoR
set_option linter.unusedSimpArgs false
set_option linter.unusedVariables false
namespace Go.Proofs.Ytmcojfpomejnnaa
open Go Go.RowKit Go.Own

section
variable {s : Ro} {w : World} {R : List Asn}
set_option maxRecDepth 100000 in
set_option maxHeartbeats 1000000 in
theorem apart_walk {x : Shp} {pt : Int} {own one two : List Act15} {oa na ta : Option Addr} {oc nc tc : Nat} (H : Holds s w []) (hx : x.Ok s) (hpt : I64 pt) (ho : SlS s (.slice oa own.length oc) 8 own.length (own.flatMap Act15.cells)) (hok : ∀ a ∈ own, a.Ok s) (hn : SlS s (.slice na one.length nc) 8 one.length (one.flatMap Act15.cells)) (hnk : ∀ a ∈ one, a.Ok s) (ht : SlS s (.slice ta two.length tc) 8 two.length (two.flatMap Act15.cells)) (htk : ∀ a ∈ two, a.Ok s) :
    Calls Try.prog 5 #[.agg [.slice x.xa x.xs.length x.xc, .slice x.ra x.rooms.length x.rc, .slice x.la x.slots.length x.lc, .int .i64 pt, .slice oa own.length oc, .slice na one.length nc, .slice ta two.length tc].toArray] w fun e w' => e = .returned (.bool true) ∧ Fin s w' := by
  have hf := hx.few
  obtain ⟨_, _, e1, h1, h1'⟩ := slS_shape hx.hx
  obtain ⟨_, _, e2, h2, h2'⟩ := slS_shape hx.hr
  obtain ⟨_, _, e3, h3, h3'⟩ := slS_shape hx.hl
  cases e1; cases e2; cases e3
  refine enter Try.func5 rfl Try.ntmps5 rfl ?_
  repeat' (first | (refine K.loadPart 0 [.slice x.xa x.xs.length x.xc, .slice x.ra x.rooms.length x.rc, .slice x.la x.slots.length x.lc] H rfl rfl rfl rfl rfl rfl ?_) | refine Z H ?_ | (refine Zc ?_ ?_ <;> intro hc <;> first | (exfalso; omega) | skip) | (refine Y ?_; try change C _ _ _ _ _ _) | (refine Zs H ?_; clear H; (try clear w); intro w H) | (refine Zn H ?_; clear H; (try clear w); (first | ((fail_if_success (have := bl1)); intro bl1 w H) | ((fail_if_success (have := bl2)); intro bl2 w H) | intro _ w H)) | (refine Ze H ?_; clear H; (try clear w); intro gv w H))
  (refine X.call (few_s H h1 h2 h3 h1' h2' h3') ?_; (try clear H); rintro _ w ⟨rfl, H⟩; refine ⟨_, rfl, ?_⟩)
  repeat' (first | ((fail_if_success (with_reducible show C _ _ _ (Code.seq (Code.seq (Code.region 2 _ _) _) _) _ _)); refine Z H ?_) | (refine Zc ?_ ?_ <;> intro hc <;> first | (exfalso; omega) | skip) | (refine Y ?_; try change C _ _ _ _ _ _) | (refine Zs H ?_; clear H; (try clear w); intro w H) | (refine Zn H ?_; clear H; (try clear w); (first | ((fail_if_success (have := bl1)); intro bl1 w H) | ((fail_if_success (have := bl2)); intro bl2 w H) | intro _ w H)) | (refine Ze H ?_; clear H; (try clear w); intro gv w H))
  refine C.cut [10, 11, 12, 13, 14, 15, 16, 17, 18, 19, 20, 21, 22, 23, 24, 25] [] rfl (fun vs w => ∃ s', ∃ x' : Shp, s.Le s' ∧ x'.Ok s' ∧ mayM 16 x'.xs x'.rooms x'.slots = 0 ∧ Holds s' w (var bl2 58 [.slice x'.xa x'.xs.length x'.xc, .slice x'.ra x'.rooms.length x'.rc, .slice x'.la x'.slots.length x'.lc] :: var bl1 93 [.slice x.xa x.xs.length x.xc, .slice x.ra x.rooms.length x.rc, .slice x.la x.slots.length x.lc, .int .i64 pt, .slice oa own.length oc, .slice na one.length nc, .slice ta two.length tc] :: [])) ?_ ?_
  · repeat' (first | refine Z H ?_ | (refine Zc ?_ ?_ <;> intro hc <;> first | (exfalso; omega) | skip) | (refine Y ?_; try change C _ _ _ _ _ _) | (refine Zs H ?_; clear H; (try clear w); intro w H) | (refine Zn H ?_; clear H; (try clear w); (first | ((fail_if_success (have := bl1)); intro bl1 w H) | ((fail_if_success (have := bl2)); intro bl2 w H) | intro _ w H)) | (refine Ze H ?_; clear H; (try clear w); intro gv w H))
    refine C.drawn5 [0, 1, 3, 4, 5, 6, 2, 7, 8] [0, 4, 0, 1, 0, 1, 2, 3, 0] [7, 1] [0, 1, 3, 0, 8, 0, 32, 127, 255] (by kernel_rfl) ?_; replace H := H.drew; simp only [Reg.pick, List.filterMap_cons, List.filterMap_nil, List.getElem?_toArray, List.getElem?_cons_zero, List.getElem?_cons_succ, segN, List.take_succ_cons, List.take_zero, List.drop_succ_cons, List.drop_zero]
    repeat' (first | refine Z H ?_ | (refine Zc ?_ ?_ <;> intro hc <;> first | (exfalso; omega) | skip) | (refine Y ?_; try change C _ _ _ _ _ _) | (refine Zs H ?_; clear H; (try clear w); intro w H) | (refine Zn H ?_; clear H; (try clear w); (first | ((fail_if_success (have := bl1)); intro bl1 w H) | ((fail_if_success (have := bl2)); intro bl2 w H) | intro _ w H)) | (refine Ze H ?_; clear H; (try clear w); intro gv w H))
    (refine X.call (pairs_e (xs := x.xs.take 10) H hf.hx (by rw [List.length_take]; omega)) ?_; (try clear H); rintro _ w ⟨aa, cc, rfl, ho, H⟩; refine ⟨_, rfl, ?_⟩); refine L.nil ?_; refine ⟨rfl, rfl, (by first | exact fun h => Bool.noConfusion (show false = true from h) | exact fun _ => ext_same | exact fun _ => ext_only (by assumption)), ?_⟩
    clear ho
    obtain ⟨s1, hs1, H, hp1⟩ := H.fixRow
    have hM := May_r (n := 16) H (by decide) hp1 hf.hxo (hf.hr.mono hs1) (hf.hl.mono hs1) (by show (x.xs.take 10).length ≤ _; rw [List.length_take]; omega) (by show (x.rooms.take 10).length ≤ _; rw [List.length_take]; omega) (by show (x.slots.take 34).length ≤ _; rw [List.length_take]; omega)
    (refine X.call (hM) ?_; (try clear H); rintro _ w ⟨rfl, H⟩; refine ⟨_, rfl, ?_⟩); refine L.nil ?_; refine ⟨rfl, rfl, (by first | exact fun h => Bool.noConfusion (show false = true from h) | exact fun _ => ext_same | exact fun _ => ext_only (by assumption)), ?_⟩
    clear hM
    repeat' (first | (refine K.build [(0, .int .i64 _), (1, .int .i64 _)] (.agg #[.int .i64 _, .int .i64 _]) (build_ext _ _) rfl rfl rfl ?_) | (refine K.build [] (.agg #[.int .i64 0, .int .i64 0]) build_ext0 rfl rfl rfl ?_) | refine Z H ?_ | (refine Zc ?_ ?_ <;> intro hc <;> first | (exfalso; omega) | skip) | (refine Y ?_; try change C _ _ _ _ _ _) | (refine Zs H ?_; clear H; (try clear w); intro w H) | (refine Zn H ?_; clear H; (try clear w); (first | ((fail_if_success (have := bl1)); intro bl1 w H) | ((fail_if_success (have := bl2)); intro bl2 w H) | intro _ w H)) | (refine Ze H ?_; clear H; (try clear w); intro gv w H))
    · refine K.lit [(0, .agg #[.int .i64 0, .int .i64 5]), (1, .agg #[.int .i64 5, .int .i64 5]), (2, .agg #[.int .i64 0, .int .i64 0])] 33 2 [.int .i64 0, .int .i64 5, .int .i64 5, .int .i64 5, .int .i64 0, .int .i64 0] H (build_exts3 _ _ _ _ _ _) rfl rfl rfl rfl (by decide) ?_
      clear H
      intro g1 w H
      obtain ⟨s2, hs2, H, hr1⟩ := H.fixRow
      refine K.lit [(0, .int .i64 3), (1, .int .i64 2), (2, .int .i64 1)] 3 1 [.int .i64 3, .int .i64 2, .int .i64 1] H (build_ints3 _ _ _) rfl rfl rfl rfl (by decide) ?_
      clear H
      intro g2 w H
      obtain ⟨s3, hs3, H, hr2⟩ := H.fixRow
      refine K.lit [(0, .int .i64 0), (1, .int .i64 1), (2, .int .i64 (-1)), (3, .int .i64 0)] 3 1 [.int .i64 0, .int .i64 1, .int .i64 (-1), .int .i64 0] H (build_ints4 _ _ _ _) rfl rfl rfl rfl (by decide) ?_
      clear H
      intro g3 w H
      obtain ⟨s4, hs4, H, hr3⟩ := H.fixRow
      refine K.build [(0, .slice (some ⟨g1, 0, none⟩) 3 3), (1, .slice (some ⟨g2, 0, none⟩) 3 3), (2, .slice (some ⟨g3, 0, none⟩) 4 4)] (.agg #[.slice (some ⟨g1, 0, none⟩) 3 3, .slice (some ⟨g2, 0, none⟩) 3 3, .slice (some ⟨g3, 0, none⟩) 4 4]) (build_shape _ _ _ _ _ _ _ _ _) rfl rfl rfl ?_
      repeat' (first | refine Z H ?_ | (refine Zc ?_ ?_ <;> intro hc <;> first | (exfalso; omega) | skip) | (refine Y ?_; try change C _ _ _ _ _ _) | (refine Zs H ?_; clear H; (try clear w); intro w H) | (refine Zn H ?_; clear H; (try clear w); (first | ((fail_if_success (have := bl1)); intro bl1 w H) | ((fail_if_success (have := bl2)); intro bl2 w H) | intro _ w H)) | (refine Ze H ?_; clear H; (try clear w); intro gv w H))
      exact ⟨by (repeat (first | exact Agr.refl | exact Agr.hav | refine Agr.upd rfl ?_ | refine Agr.in rfl ?_)), s4, ⟨[(0, 5), (5, 5), (0, 0)], [3, 2, 1], [0, 1, -1, 0], some ⟨g1, 0, none⟩, some ⟨g2, 0, none⟩, some ⟨g3, 0, none⟩, 3, 3, 4⟩, hs1.trans (hs2.trans (hs3.trans hs4)), ⟨hr1.mono (hs3.trans hs4), by show ∀ e ∈ ([(0, 5), (5, 5), (0, 0)] : List Ext), I64 e.1 ∧ I64 e.2; decide, hr2.mono hs4, hr3⟩, by show mayM 16 [(0, 5), (5, 5), (0, 0)] [3, 2, 1] [0, 1, -1, 0] = 0; decide, H⟩
    · rename_i hc
      exact ⟨by (repeat (first | exact Agr.refl | exact Agr.hav | refine Agr.upd rfl ?_ | refine Agr.in rfl ?_)), s1, x.few, hs1, hf.mono hs1, hc, H⟩
  clear H
  rintro vs hv w ⟨s1, x1, hs1, hx1, hm1, H⟩
  have hap := (run_ap (apX_of hm1) pt own one two 30).2
  have hl1 := run_len x1 pt own one 30
  repeat' (first | refine Z H ?_ | (refine Zc ?_ ?_ <;> intro hc <;> first | (exfalso; omega) | skip) | (refine Y ?_; try change C _ _ _ _ _ _) | (refine Zs H ?_; clear H; (try clear w); intro w H) | (refine Zn H ?_; clear H; (try clear w); (first | ((fail_if_success (have := bl1)); intro bl1 w H) | ((fail_if_success (have := bl2)); intro bl2 w H) | intro _ w H)) | (refine Ze H ?_; clear H; (try clear w); intro gv w H))
  refine C.drawn2 [bl1, bl2] [4, 0, 4, 0, 4, 0, 4, 2, 1, 0, 1, 0, 1, 0, 1, 2, 0, 0] [8, 8] [0, 0, 2, 0, 8, 0, 32, 127, 0, 0, 512, 0, 2048, 0, 8192, 32767, 65535, 131071] (by kernel_rfl) ?_; replace H := H.drew; simp only [segL, List.take_succ_cons, List.take_zero, List.drop_succ_cons, List.drop_zero]; have H0 := H
  repeat' (first | refine Z H ?_ | (refine Zc ?_ ?_ <;> intro hc <;> first | (exfalso; omega) | skip) | (refine Y ?_; try change C _ _ _ _ _ _) | (refine Zs H ?_; clear H; (try clear w); intro w H) | (refine Zn H ?_; clear H; (try clear w); (first | ((fail_if_success (have := bl1)); intro bl1 w H) | ((fail_if_success (have := bl2)); intro bl2 w H) | intro _ w H)) | (refine Ze H ?_; clear H; (try clear w); intro gv w H))
  have hR := run_s H hx1 hm1 hpt (ho.mono hs1) (fun a h => (hok a h).mono hs1) (hn.mono hs1) (fun a h => (hnk a h).mono hs1)
  (refine X.call (hR) ?_; (try clear H); rintro _ w ⟨s2, va, aa, ca, rfl, hs2, hva, hka, H⟩; refine ⟨_, rfl, ?_⟩); refine L.nil ?_; refine ⟨rfl, rfl, (by repeat (first | exact subN_nil | refine subN_cons (by simp) ?_)), (by first | exact keep_same | (repeat (first | exact keepV H0 H | exact keepP H0 H | exact keep_nil | refine keep_cons ?_ ?_))), ?_⟩; clear H0; have H0 := H
  clear hR
  repeat' (first | refine Z H ?_ | (refine Zc ?_ ?_ <;> intro hc <;> first | (exfalso; omega) | skip) | (refine Y ?_; try change C _ _ _ _ _ _) | (refine Zs H ?_; clear H; (try clear w); intro w H) | (refine Zn H ?_; clear H; (try clear w); (first | ((fail_if_success (have := bl1)); intro bl1 w H) | ((fail_if_success (have := bl2)); intro bl2 w H) | intro _ w H)) | (refine Ze H ?_; clear H; (try clear w); intro gv w H))
  have hR := run_s H (hx1.mono hs2) hm1 hpt (ho.mono (hs1.trans hs2)) (fun a h => (hok a h).mono (hs1.trans hs2)) (ht.mono (hs1.trans hs2)) (fun a h => (htk a h).mono (hs1.trans hs2))
  (refine X.call (hR) ?_; (try clear H); rintro _ w ⟨s3, vb, ab, cb, rfl, hs3, hvb, hkb, H⟩; refine ⟨_, rfl, ?_⟩); refine L.nil ?_; refine ⟨rfl, rfl, (by repeat (first | exact subN_nil | refine subN_cons (by simp) ?_)), (by first | exact keep_same | (repeat (first | exact keepV H0 H | exact keepP H0 H | exact keep_nil | refine keep_cons ?_ ?_))), ?_⟩; clear H0; have H0 := H
  clear hR
  repeat' (first | refine Z H ?_ | (refine Zc ?_ ?_ <;> intro hc <;> first | (exfalso; omega) | skip) | (refine Y ?_; try change C _ _ _ _ _ _) | (refine Zs H ?_; clear H; (try clear w); intro w H) | (refine Zn H ?_; clear H; (try clear w); (first | ((fail_if_success (have := bl1)); intro bl1 w H) | ((fail_if_success (have := bl2)); intro bl2 w H) | intro _ w H)) | (refine Ze H ?_; clear H; (try clear w); intro gv w H))
  refine ⟨rfl, rfl, (by repeat (first | exact subN_nil | refine subN_cons (by simp) ?_)), (by first | exact keep_same | (repeat (first | exact keepV H0 H | exact keepP H0 H | exact keep_nil | refine keep_cons ?_ ?_))), ?_⟩; clear H0; have H0 := H
  clear H0
  rw [← hva, ← hvb] at hap
  rw [← hva, List.length_map] at hl1
  have hll : va.length = vb.length := by have := congrArg List.length hap; simpa using this
  repeat' (first | refine Z H ?_ | (refine Zc ?_ ?_ <;> intro hc <;> first | (exfalso; omega) | skip) | (refine Y ?_; try change C _ _ _ _ _ _) | (refine Zs H ?_; clear H; (try clear w); intro w H) | (refine Zn H ?_; clear H; (try clear w); (first | ((fail_if_success (have := bl1)); intro bl1 w H) | ((fail_if_success (have := bl2)); intro bl2 w H) | intro _ w H)) | (refine Ze H ?_; clear H; (try clear w); intro gv w H))
  obtain ⟨s4, hs4, H', hr1⟩ := H.fixRow
  clear H
  obtain ⟨s5, hs5, H, hr2⟩ := H'.fixRow
  clear H'
  have H' : Holds s5 w [] := H.arr
  clear H
  refine C.loopS [2, 6, 52, 53, 54, 55, 56, 57, 58, 59, 60, 61, 62, 63, 64, 65, 66, 67, 68, 69, 70, 71, 72, 73, 74, 75, 76, 77, 78, 79, 80, 81, 82, 83, 84, 85, 86, 87, 88, 89, 90, 91, 92, 93, 94, 95, 96, 97, 98, 99, 100, 101, 102, 103, 104, 105, 106, 107, 108, 109] [6] rfl (fun k vs w => ∃ i : Nat, k = va.length - i ∧ i ≤ va.length ∧ vs = [.int .i64 (i : Int)] ∧ Holds s5 w []) va.length ⟨0, rfl, by omega, rfl, H'⟩ ?_
  clear H'
  rintro k vs hv w ⟨i, rfl, hi, rfl, H⟩
  by_cases hlt : i < va.length
  · obtain ⟨g1, o1, c1, e1, _, _, hp1⟩ := elemS hr2 (fun _ _ => rfl) (by decide) (by omega)
    obtain ⟨g2, o2, c2, e2, _, _, hp2⟩ := elemS (hr1.mono hs5) (fun _ _ => rfl) (by decide) (by omega)
    cases e1
    cases e2
    have hlt2 : i < vb.length := by omega
    have q1 : ∀ j x, (va[i].cells)[j]? = some x → Pin s5 g1 (o1 + i * 4 + j) x := hp1 i hlt
    have q2 : ∀ j x, (vb[i].cells)[j]? = some x → Pin s5 g2 (o2 + i * 4 + j) x := hp2 i hlt2
    have hdn : va[i].dn = vb[i].dn := by
      have := congrArg (fun l => l[i]?) hap
      simpa [List.getElem?_map, hlt, hlt2] using this
    have k1 : SlS s5 (.slice va[i].da va[i].dn.data.length va[i].dc) 1 va[i].dn.data.length (u8s va[i].dn.data) := SlS.mono (hka _ (List.getElem_mem hlt)) (hs3.trans (hs4.trans hs5))
    have k2 : SlS s5 (.slice vb[i].da vb[i].dn.data.length vb[i].dc) 1 vb[i].dn.data.length (u8s vb[i].dn.data) := SlS.mono (hkb _ (List.getElem_mem hlt2)) (hs4.trans hs5)
    clear hp1 hp2
    generalize va[i] = y at *
    generalize vb[i] = z at *
    obtain ⟨dn, da, dc⟩ := y
    obtain ⟨dn', db, dd⟩ := z
    dsimp only at hdn k1 k2
    subst hdn
    have u0 : Pin s5 g1 (o1 + i * 4 + 0) (.int .i64 dn.part) := q1 0 _ rfl
    have u1 : Pin s5 g1 (o1 + i * 4 + 1) (.int .u64 (dn.n : Int)) := q1 1 _ rfl
    have u2 : Pin s5 g1 (o1 + i * 4 + 2) (.slice da dn.data.length dc) := q1 2 _ rfl
    have u3 : Pin s5 g1 (o1 + i * 4 + 3) (.int .i64 dn.code) := q1 3 _ rfl
    have v0 : Pin s5 g2 (o2 + i * 4 + 0) (.int .i64 dn.part) := q2 0 _ rfl
    have v1 : Pin s5 g2 (o2 + i * 4 + 1) (.int .u64 (dn.n : Int)) := q2 1 _ rfl
    have v2 : Pin s5 g2 (o2 + i * 4 + 2) (.slice db dn.data.length dd) := q2 2 _ rfl
    have v3 : Pin s5 g2 (o2 + i * 4 + 3) (.int .i64 dn.code) := q2 3 _ rfl
    clear q1 q2
    repeat' (first | refine Z H ?_ | (refine Zc ?_ ?_ <;> intro hc <;> first | (exfalso; omega) | skip) | (refine Y ?_; try change C _ _ _ _ _ _) | (refine Zs H ?_; clear H; (try clear w); intro w H) | (refine Zn H ?_; clear H; (try clear w); (first | ((fail_if_success (have := bl1)); intro bl1 w H) | ((fail_if_success (have := bl2)); intro bl2 w H) | intro _ w H)) | (refine Ze H ?_; clear H; (try clear w); intro gv w H))
    refine C.drawn1 [0, 0, 0, 0, 1, 0, 0, 0, 0, 1, 0, 0, 0, 0, 0, 0, 1, 0, 0, 0, 0, 1, 0, 0, 0, 0, 0, 0, 0, 1, 0, 0, 0, 0, 1, 0, 0, 0, 0, 0, 0, 0, 1, 1, 0, 0, 0, 0, 1, 1, 0, 0] [0, 0, 3, 7, 15, 0, 0, 96, 224, 480, 1023, 2047, 4095, 4095, 16383, 32767, 65535, 4095, 4095, 397311, 921599, 1970175, 4194303, 8388607, 16777215, 33554431, 33554431, 134217727, 268435455, 536870911, 33554431, 33554431, 3254779903, 7549747199, 16139681791, 34359738367, 68719476735, 137438953471, 274877906943, 274877906943, 1099511627775, 2199023255551, 4398046511103, 8796093022207, 274877906943, 274877906943, 53051436040191, 123420180217855, 264157668573183, 545632645283839, 1125899906842623, 2251799813685247] (by kernel_rfl) ?_; replace H := H.drew
    repeat' (first | refine Z H ?_ | (refine Zc ?_ ?_ <;> intro hc <;> first | (exfalso; omega) | skip) | (refine Y ?_; try change C _ _ _ _ _ _) | (refine Zs H ?_; clear H; (try clear w); intro w H) | (refine Zn H ?_; clear H; (try clear w); (first | ((fail_if_success (have := bl1)); intro bl1 w H) | ((fail_if_success (have := bl2)); intro bl2 w H) | intro _ w H)) | (refine Ze H ?_; clear H; (try clear w); intro gv w H))
    exact ⟨by (repeat (first | exact Agr.refl | exact Agr.hav | refine Agr.upd rfl ?_ | refine Agr.in rfl ?_)), va.length - (i + 1), by omega, i + 1, rfl, by omega, rfl, H.arr⟩
  · repeat' (first | refine Z H ?_ | (refine Zc ?_ ?_ <;> intro hc <;> first | (exfalso; omega) | skip) | (refine Y ?_; try change C _ _ _ _ _ _) | (refine Zs H ?_; clear H; (try clear w); intro w H) | (refine Zn H ?_; clear H; (try clear w); (first | ((fail_if_success (have := bl1)); intro bl1 w H) | ((fail_if_success (have := bl2)); intro bl2 w H) | intro _ w H)) | (refine Ze H ?_; clear H; (try clear w); intro gv w H))
    (refine X.call (awake15 H) ?_; (try clear H); rintro _ w ⟨rfl, H⟩; refine ⟨_, rfl, ?_⟩)
    repeat' (first | refine Z H ?_ | (refine Zc ?_ ?_ <;> intro hc <;> first | (exfalso; omega) | skip) | (refine Y ?_; try change C _ _ _ _ _ _) | (refine Zs H ?_; clear H; (try clear w); intro w H) | (refine Zn H ?_; clear H; (try clear w); (first | ((fail_if_success (have := bl1)); intro bl1 w H) | ((fail_if_success (have := bl2)); intro bl2 w H) | intro _ w H)) | (refine Ze H ?_; clear H; (try clear w); intro gv w H))
    exact ⟨_, resT rfl, rfl, H.done (hs1.trans (hs2.trans (hs3.trans (hs4.trans hs5))))⟩
end

theorem apart_rdg {w : World} {cs : List Value} (hx : cs.length = Try.prog.cellsOf 93) (g : Rdg Try.prog w 93 cs) : Calls Try.prog 5 #[.agg cs.toArray] w fun e w' => e = .returned (.bool true) ∧ Only [] w w' := by
  have hl7 : cs.length = 7 := hx.trans (by kernel_rfl)
  match cs, hl7 with
  | [c0, c1, c2, c3, c4, c5, c6], _ =>
    have f0 : Rdg Try.prog w 58 [c0, c1, c2] := rdg_field Try.underlying93 g 0 58 0 3 rfl (by kernel_rfl)
    have f1 : Rdg Try.prog w 3 [c3] := rdg_field Try.underlying93 g 1 3 3 1 rfl (by kernel_rfl)
    have f2 : Rdg Try.prog w 23 [c4] := rdg_field Try.underlying93 g 2 23 4 1 rfl (by kernel_rfl)
    have f3 : Rdg Try.prog w 23 [c5] := rdg_field Try.underlying93 g 3 23 5 1 rfl (by kernel_rfl)
    have f4 : Rdg Try.prog w 23 [c6] := rdg_field Try.underlying93 g 4 23 6 1 rfl (by kernel_rfl)
    obtain ⟨x, ex, ox⟩ := shp_of _ (by kernel_rfl) f0
    cases ex
    obtain ⟨n, e, hw⟩ := rdg_int Try.underlying3 f1
    cases e
    obtain ⟨l, h1, h2⟩ := acts15_of f2
    obtain ⟨a, c, rfl, _⟩ := slS_shape h1
    obtain ⟨l', h1', h2'⟩ := acts15_of f3
    obtain ⟨a', c', rfl, _⟩ := slS_shape h1'
    obtain ⟨l'', h1'', h2''⟩ := acts15_of f4
    obtain ⟨a'', c'', rfl, _⟩ := slS_shape h1''
    exact (apart_walk (Holds.start w) ox (wf_i64 hw) h1 h2 h1' h2' h1'' h2'').mono fun e w' h => ⟨h.1, h.2.only⟩
end Go.Proofs.Ytmcojfpomejnnaa

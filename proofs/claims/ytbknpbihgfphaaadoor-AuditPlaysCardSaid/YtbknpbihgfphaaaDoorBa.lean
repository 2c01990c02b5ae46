/- AuditConfined, walked. -/
import Derived.Test.YtbknpbihgfphaaaDoorAz
import Derived.Test.YtbknpbihgfphaaaDoorAr
set_option linter.unusedSimpArgs false
set_option linter.unusedVariables false
namespace Go.Proofs.YtbknpbihgfphaaaDoor
open Go Go.RowKit Go.Own
open Go.ChangeShapes Go.WideShapes Go.ChangeAt

theorem noughtR_eq : (⟨(List.replicate 64 (0 : UInt8)).toArray⟩ : ByteArray) = zs 64 := by decide
section
variable {s : Ro} {w : World} {R : List Asn}
set_option maxRecDepth 100000 in
set_option maxHeartbeats 1000000 in
theorem aconf_walk {l : List En} {va : Option Addr} {vc : Nat} (hN : Nib s) (H : Holds s w []) (hl : SlS s (.slice va l.length vc) 4 l.length (l.flatMap En.cells)) (hok : ∀ e ∈ l, e.Ok) :
    Calls Tryd.prog 3 #[.slice va l.length vc] w fun e w' => e = .returned (.bool true) ∧ Fin s w' := by
  have hL0 : Lg 12 2 4 (DM.new 12) ⟨[], false⟩ := Lg.new
  have hs0 := hL0.scan (by decide) (by decide) (by simp) 4 0 rfl (by simp)
  rw [List.drop_zero] at hs0
  dsimp only at hs0
  refine enter Tryd.func3 rfl Tryd.ntmps3 rfl ?_
  repeat' (first | refine Z H ?_ | (refine Zc ?_ ?_ <;> intro hc <;> first | (exfalso; omega) | skip) | (refine Y ?_; try change C _ _ _ _ _ _) | (refine Zs H ?_; clear H; (try clear w); intro w H) | (refine Zn H ?_; clear H; (try clear w); intro _ w H) | (refine Ze H ?_; clear H; (try clear w); intro gv w H))
  (refine X.call (part20_s (cnt := 4) H (by decide) (by decide)) ?_; (try clear H); rintro _ w ⟨s1, b, bp, rfl, hle1, hp, H⟩; refine ⟨_, rfl, ?_⟩)
  repeat' (first | refine Z H ?_ | (refine Zc ?_ ?_ <;> intro hc <;> first | (exfalso; omega) | skip) | (refine Y ?_; try change C _ _ _ _ _ _) | (refine Zs H ?_; clear H; (try clear w); intro w H) | (refine Zn H ?_; clear H; (try clear w); intro _ w H) | (refine Ze H ?_; clear H; (try clear w); intro gv w H))
  (refine X.call (OpenA_ok (cnt := 4) (hN.mono hle1) H hp rfl (by decide) hs0) ?_; (try clear H); rintro _ w ⟨s2, bL, aa, cc, rfl, hle2, H⟩; refine ⟨_, rfl, ?_⟩)
  repeat' (first | refine Z H ?_ | (refine Zc ?_ ?_ <;> intro hc <;> first | (exfalso; omega) | skip) | (refine Y ?_; try change C _ _ _ _ _ _) | (refine Zs H ?_; clear H; (try clear w); intro w H) | (refine Zn H ?_; clear H; (try clear w); intro _ w H) | (refine Ze H ?_; clear H; (try clear w); intro gv w H))
  refine C.loopS [2, 8, 9, 10, 28, 29, 30, 31, 32, 33, 34, 35, 36, 37, 38, 39, 40, 41, 42, 43, 44, 45, 46, 47, 48, 49, 50, 51, 52, 53, 54, 55, 56, 57, 58, 59, 60, 61, 62, 63, 64, 65, 66, 67, 68, 69, 70, 71, 72, 73, 74] [8, 9] rfl (fun k vs w => ∃ i : Nat, ∃ d m aa cc, k = l.length - i ∧ i ≤ l.length ∧ i ≤ 30 ∧ vs = [.int .i64 (m.ents.length : Int), .int .i64 (i : Int)] ∧ Lg 12 2 4 d m ∧ Holds s2 w (logP bL bp aa cc m (dsk b d :: []))) l.length ⟨0, _, _, aa, cc, rfl, Nat.zero_le _, Nat.zero_le _, rfl, hL0, H⟩ ?_
  clear H hL0 hs0
  rintro k vs hv w ⟨i, d, m, aa, cc, rfl, hi, hi30, rfl, hL, H⟩
  by_cases hlt : i < l.length ∧ i < 30
  · obtain ⟨hlt, hlt30⟩ := hlt
    obtain ⟨g1, o1, c1, e1, _, _, hp1⟩ := elemS (hl.mono (hle1.trans hle2)) (fun _ _ => rfl) (by decide) (by omega)
    cases e1
    have q1 : ∀ j v, ([.int .i64 l[i].kind, .int .i64 l[i].part, .int .u32 (l[i].ver : Int), .int .i64 l[i].code] : List Value)[j]? = some v → Pin s2 g1 (o1 + i * 4 + j) v := hp1 i hlt
    have hyo := hok _ (List.getElem_mem hlt)
    generalize l[i] = y at *
    have hlen := hL.len
    obtain ⟨hL', hA⟩ := hL.add (by decide) (by decide) y
    have hAd := Add_a (y := y) (m := m) (hN.mono (hle1.trans hle2)) H (hp.mono hle2) hyo (by omega) (by rw [hL.pd]; decide)
    generalize addA d (((2 : Nat) : Int), ((4 : Nat) : Int)) m y = r at *
    obtain ⟨d', m', c'⟩ := r
    dsimp only at hL' hA hAd
    have hlen' := hL'.len
    dsimp only [logP] at H
    repeat' (first | refine Z H ?_ | (refine Zc ?_ ?_ <;> intro hc <;> first | (exfalso; omega) | skip) | (refine Y ?_; try change C _ _ _ _ _ _) | (refine Zs H ?_; clear H; (try clear w); intro w H) | (refine Zn H ?_; clear H; (try clear w); intro _ w H) | (refine Ze H ?_; clear H; (try clear w); intro gv w H))
    (refine X.call (hAd) ?_; (try clear H); rintro _ w ⟨a2, c2, rfl, H⟩; refine ⟨_, rfl, ?_⟩)
    clear hAd
    rcases hA with ⟨rfl, hva, hm⟩ | ⟨rfl, hva, h4, hm⟩ | ⟨rfl, hva, h4, hm⟩
    · have hn : m'.ents.length = m.ents.length := by rw [hm]
      repeat' (first | refine Z H ?_ | (refine Zc ?_ ?_ <;> intro hc <;> first | (exfalso; omega) | skip) | (refine Y ?_; try change C _ _ _ _ _ _) | (refine Zs H ?_; clear H; (try clear w); intro w H) | (refine Zn H ?_; clear H; (try clear w); intro _ w H) | (refine Ze H ?_; clear H; (try clear w); intro gv w H))
      (refine X.call (May20_s (x := y) H) ?_; (try clear H); rintro _ w ⟨rfl, H⟩; refine ⟨_, rfl, ?_⟩)
      rw [hva]
      repeat' (first | (refine K.cmpB rfl rfl rfl rfl rfl ?_) | refine Z H ?_ | (refine Zc ?_ ?_ <;> intro hc <;> first | (exfalso; omega) | skip) | (refine Y ?_; try change C _ _ _ _ _ _) | (refine Zs H ?_; clear H; (try clear w); intro w H) | (refine Zn H ?_; clear H; (try clear w); intro _ w H) | (refine Ze H ?_; clear H; (try clear w); intro gv w H))
      have hE := Entries_s (m := m') H (by omega)
      (refine X.call (hE) ?_; (try clear H); rintro _ w ⟨a3, c3, rfl, H⟩; refine ⟨_, rfl, ?_⟩)
      clear hE
      repeat' (first | refine Z H ?_ | (refine Zc ?_ ?_ <;> intro hc <;> first | (exfalso; omega) | skip) | (refine Y ?_; try change C _ _ _ _ _ _) | (refine Zs H ?_; clear H; (try clear w); intro w H) | (refine Zn H ?_; clear H; (try clear w); intro _ w H) | (refine Ze H ?_; clear H; (try clear w); intro gv w H))
      exact ⟨by (repeat (first | exact Agr.refl | exact Agr.hav | refine Agr.upd rfl ?_ | refine Agr.in rfl ?_)), l.length - (i + 1), by omega, i + 1, d', m', a2, c2, rfl, by omega, by omega, by rw [hn]; rfl, hL', H.tail⟩
    · have hn : m'.ents.length = m.ents.length := by rw [hm]
      repeat' (first | refine Z H ?_ | (refine Zc ?_ ?_ <;> intro hc <;> first | (exfalso; omega) | skip) | (refine Y ?_; try change C _ _ _ _ _ _) | (refine Zs H ?_; clear H; (try clear w); intro w H) | (refine Zn H ?_; clear H; (try clear w); intro _ w H) | (refine Ze H ?_; clear H; (try clear w); intro gv w H))
      (refine X.call (May20_s (x := y) H) ?_; (try clear H); rintro _ w ⟨rfl, H⟩; refine ⟨_, rfl, ?_⟩)
      rw [hva]
      repeat' (first | (refine K.cmpB rfl rfl rfl rfl rfl ?_) | refine Z H ?_ | (refine Zc ?_ ?_ <;> intro hc <;> first | (exfalso; omega) | skip) | (refine Y ?_; try change C _ _ _ _ _ _) | (refine Zs H ?_; clear H; (try clear w); intro w H) | (refine Zn H ?_; clear H; (try clear w); intro _ w H) | (refine Ze H ?_; clear H; (try clear w); intro gv w H))
      have hE := Entries_s (m := m') H (by omega)
      (refine X.call (hE) ?_; (try clear H); rintro _ w ⟨a3, c3, rfl, H⟩; refine ⟨_, rfl, ?_⟩)
      clear hE
      repeat' (first | refine Z H ?_ | (refine Zc ?_ ?_ <;> intro hc <;> first | (exfalso; omega) | skip) | (refine Y ?_; try change C _ _ _ _ _ _) | (refine Zs H ?_; clear H; (try clear w); intro w H) | (refine Zn H ?_; clear H; (try clear w); intro _ w H) | (refine Ze H ?_; clear H; (try clear w); intro gv w H))
      exact ⟨by (repeat (first | exact Agr.refl | exact Agr.hav | refine Agr.upd rfl ?_ | refine Agr.in rfl ?_)), l.length - (i + 1), by omega, i + 1, d', m', a2, c2, rfl, by omega, by omega, by rw [hn]; rfl, hL', H.tail⟩
    · have hn : m'.ents.length = m.ents.length + 1 := by rw [hm]; simp
      repeat' (first | refine Z H ?_ | (refine Zc ?_ ?_ <;> intro hc <;> first | (exfalso; omega) | skip) | (refine Y ?_; try change C _ _ _ _ _ _) | (refine Zs H ?_; clear H; (try clear w); intro w H) | (refine Zn H ?_; clear H; (try clear w); intro _ w H) | (refine Ze H ?_; clear H; (try clear w); intro gv w H))
      (refine X.call (May20_s (x := y) H) ?_; (try clear H); rintro _ w ⟨rfl, H⟩; refine ⟨_, rfl, ?_⟩)
      rw [hva]
      repeat' (first | (refine K.cmpB rfl rfl rfl rfl rfl ?_) | refine Z H ?_ | (refine Zc ?_ ?_ <;> intro hc <;> first | (exfalso; omega) | skip) | (refine Y ?_; try change C _ _ _ _ _ _) | (refine Zs H ?_; clear H; (try clear w); intro w H) | (refine Zn H ?_; clear H; (try clear w); intro _ w H) | (refine Ze H ?_; clear H; (try clear w); intro gv w H))
      have hE := Entries_s (m := m') H (by omega)
      (refine X.call (hE) ?_; (try clear H); rintro _ w ⟨a3, c3, rfl, H⟩; refine ⟨_, rfl, ?_⟩)
      clear hE
      repeat' (first | refine Z H ?_ | (refine Zc ?_ ?_ <;> intro hc <;> first | (exfalso; omega) | skip) | (refine Y ?_; try change C _ _ _ _ _ _) | (refine Zs H ?_; clear H; (try clear w); intro w H) | (refine Zn H ?_; clear H; (try clear w); intro _ w H) | (refine Ze H ?_; clear H; (try clear w); intro gv w H))
      exact ⟨by (repeat (first | exact Agr.refl | exact Agr.hav | refine Agr.upd rfl ?_ | refine Agr.in rfl ?_)), l.length - (i + 1), by omega, i + 1, d', m', a2, c2, rfl, by omega, by omega, by rw [hn]; rfl, hL', H.tail⟩
  · have hlen := hL.len
    dsimp only [logP] at H
    repeat' (first | refine Z H ?_ | (refine Zc ?_ ?_ <;> intro hc <;> first | (exfalso; omega) | skip) | (refine Y ?_; try change C _ _ _ _ _ _) | (refine Zs H ?_; clear H; (try clear w); intro w H) | (refine Zn H ?_; clear H; (try clear w); intro _ w H) | (refine Ze H ?_; clear H; (try clear w); intro gv w H))
    all_goals
      first | (have hT : Holds _ _ (dsk b _ :: _) := H; clear hT) | (replace H := H.up 1 rfl; (try simp only [List.set_cons_zero, List.set_cons_succ, List.eraseIdx_cons_zero, List.eraseIdx_cons_succ] at H); have hT : Holds _ _ (dsk b _ :: _) := H; clear hT) | (replace H := H.up 2 rfl; (try simp only [List.set_cons_zero, List.set_cons_succ, List.eraseIdx_cons_zero, List.eraseIdx_cons_succ] at H); have hT : Holds _ _ (dsk b _ :: _) := H; clear hT) | (replace H := H.up 3 rfl; (try simp only [List.set_cons_zero, List.set_cons_succ, List.eraseIdx_cons_zero, List.eraseIdx_cons_succ] at H); have hT : Holds _ _ (dsk b _ :: _) := H; clear hT) | (replace H := H.up 4 rfl; (try simp only [List.set_cons_zero, List.set_cons_succ, List.eraseIdx_cons_zero, List.eraseIdx_cons_succ] at H); have hT : Holds _ _ (dsk b _ :: _) := H; clear hT) | (replace H := H.up 5 rfl; (try simp only [List.set_cons_zero, List.set_cons_succ, List.eraseIdx_cons_zero, List.eraseIdx_cons_succ] at H); have hT : Holds _ _ (dsk b _ :: _) := H; clear hT) | (replace H := H.up 6 rfl; (try simp only [List.set_cons_zero, List.set_cons_succ, List.eraseIdx_cons_zero, List.eraseIdx_cons_succ] at H); have hT : Holds _ _ (dsk b _ :: _) := H; clear hT)
      have H' : Holds s2 w (dsk b d :: []) := H.arr
      clear H
      refine C.loopS [2, 11, 12, 13, 75, 76, 77, 78, 79, 80, 81, 82, 83, 84, 85, 86, 87, 88, 89, 90, 91, 92, 93, 94, 95, 96, 97, 98, 99, 100, 101, 102] [11] rfl (fun k vs w => ∃ i : Nat, ∃ s', k = 12 - i ∧ i ≤ 12 ∧ vs = [.int .i64 (i : Int)] ∧ s2.Le s' ∧ Holds s' w (dsk b d :: [])) 12 ⟨0, s2, rfl, Nat.zero_le _, rfl, Ro.Le.refl _, H'⟩ ?_
      clear H'
      rintro k vs hv w ⟨j, s3, rfl, hj, rfl, hle3, H⟩
      by_cases hj12 : j < 12
      · have hrd : d.read (j : Int) = (d.cur j, 0) := read_free hL.fr.off (by rw [hL.fr.len]; exact hj12)
        have hcl : (d.cur j).length = 64 := by rw [cur_curTo]; exact curTo_len (Holds.wf H) (by rw [hL.fr.len]; exact hj12) _
        repeat' (first | refine Z H ?_ | (refine Zc ?_ ?_ <;> intro hc <;> first | (exfalso; omega) | skip) | (refine Y ?_; try change C _ _ _ _ _ _) | (refine Zs H ?_; clear H; (try clear w); intro w H) | (refine Zn H ?_; clear H; (try clear w); intro _ w H) | (refine Ze H ?_; clear H; (try clear w); intro gv w H))
        have hR := Read_s (n := (j : Int)) H
        rw [hrd] at hR
        dsimp only at hR
        (refine X.call (hR) ?_; (try clear H); rintro _ w ⟨t1, a1, c1, rfl, H⟩; refine ⟨_, rfl, ?_⟩)
        clear hR
        obtain ⟨s4, gb, rfl, hle4, H1, hsl, y, hpy⟩ := H.fixB (by omega)
        clear H
        have H := H1
        clear H1
        by_cases hj2 : j < 2
        · have hz := hL.out j hj12 (.inl hj2)
          rw [hz] at hsl ⊢
          repeat' (first | refine Z H ?_ | (refine Zc ?_ ?_ <;> intro hc <;> first | (exfalso; omega) | skip) | (refine Y ?_; try change C _ _ _ _ _ _) | (refine Zs H ?_; clear H; (try clear w); intro w H) | (refine Zn H ?_; clear H; (try clear w); intro _ w H) | (refine Ze H ?_; clear H; (try clear w); intro gv w H))
          refine C.drawn2 [gb] [0, 0, 0, 0, 0, 0, 0, 0, 0, 0, 0, 0, 0, 1, 2, 0, 0, 0] [15] [0, 1, 3, 7, 15, 31, 63, 63, 191, 511, 1023, 2047, 4095, 8191, 4095, 32767, 65535, 131071] (by kernel_rfl) ?_; replace H := H.drew; simp only [segL, List.take_succ_cons, List.take_zero, List.drop_succ_cons, List.drop_zero]; have H0 := H
          repeat' (first | refine Z H ?_ | (refine Zc ?_ ?_ <;> intro hc <;> first | (exfalso; omega) | skip) | (refine Y ?_; try change C _ _ _ _ _ _) | (refine Zs H ?_; clear H; (try clear w); intro w H) | (refine Zn H ?_; clear H; (try clear w); intro _ w H) | (refine Ze H ?_; clear H; (try clear w); intro gv w H))
          (refine X.call (Noughts_s H) ?_; (try clear H); rintro _ w ⟨rfl, H⟩; refine ⟨_, rfl, ?_⟩); refine L.nil ?_; refine ⟨rfl, rfl, (by repeat (first | exact subN_nil | refine subN_cons (by simp) ?_)), (by first | exact keep_same | (repeat (first | exact keepV H0 H | exact keepP H0 H | exact keep_nil | refine keep_cons ?_ ?_))), ?_⟩; clear H0; have H0 := H
          repeat' (first | (refine J.neS (fun hc => absurd noughtR_eq hc) (fun _ => ?_)) | refine Z H ?_ | (refine Zc ?_ ?_ <;> intro hc <;> first | (exfalso; omega) | skip) | (refine Y ?_; try change C _ _ _ _ _ _) | (refine Zs H ?_; clear H; (try clear w); intro w H) | (refine Zn H ?_; clear H; (try clear w); intro _ w H) | (refine Ze H ?_; clear H; (try clear w); intro gv w H))
          refine ⟨rfl, rfl, (by repeat (first | exact subN_nil | refine subN_cons (by simp) ?_)), (by first | exact keep_same | (repeat (first | exact keepV H0 H | exact keepP H0 H | exact keep_nil | refine keep_cons ?_ ?_))), ?_⟩; clear H0; have H0 := H
          repeat' (first | refine Z H ?_ | (refine Zc ?_ ?_ <;> intro hc <;> first | (exfalso; omega) | skip) | (refine Y ?_; try change C _ _ _ _ _ _) | (refine Zs H ?_; clear H; (try clear w); intro w H) | (refine Zn H ?_; clear H; (try clear w); intro _ w H) | (refine Ze H ?_; clear H; (try clear w); intro gv w H))
          exact ⟨by (repeat (first | exact Agr.refl | exact Agr.hav | refine Agr.upd rfl ?_ | refine Agr.in rfl ?_)), 12 - (j + 1), by omega, j + 1, s4, rfl, by omega, rfl, hle3.trans hle4, H.arr⟩
        · by_cases hj3 : 2 + m.ents.length ≤ j
          · have hz := hL.out j hj12 (.inr hj3)
            rw [hz] at hsl ⊢
            repeat' (first | refine Z H ?_ | (refine Zc ?_ ?_ <;> intro hc <;> first | (exfalso; omega) | skip) | (refine Y ?_; try change C _ _ _ _ _ _) | (refine Zs H ?_; clear H; (try clear w); intro w H) | (refine Zn H ?_; clear H; (try clear w); intro _ w H) | (refine Ze H ?_; clear H; (try clear w); intro gv w H))
            refine C.drawn2 [gb] [0, 0, 0, 0, 0, 0, 0, 0, 0, 0, 0, 0, 0, 1, 2, 0, 0, 0] [15] [0, 1, 3, 7, 15, 31, 63, 63, 191, 511, 1023, 2047, 4095, 8191, 4095, 32767, 65535, 131071] (by kernel_rfl) ?_; replace H := H.drew; simp only [segL, List.take_succ_cons, List.take_zero, List.drop_succ_cons, List.drop_zero]; have H0 := H
            repeat' (first | refine Z H ?_ | (refine Zc ?_ ?_ <;> intro hc <;> first | (exfalso; omega) | skip) | (refine Y ?_; try change C _ _ _ _ _ _) | (refine Zs H ?_; clear H; (try clear w); intro w H) | (refine Zn H ?_; clear H; (try clear w); intro _ w H) | (refine Ze H ?_; clear H; (try clear w); intro gv w H))
            (refine X.call (Noughts_s H) ?_; (try clear H); rintro _ w ⟨rfl, H⟩; refine ⟨_, rfl, ?_⟩); refine L.nil ?_; refine ⟨rfl, rfl, (by repeat (first | exact subN_nil | refine subN_cons (by simp) ?_)), (by first | exact keep_same | (repeat (first | exact keepV H0 H | exact keepP H0 H | exact keep_nil | refine keep_cons ?_ ?_))), ?_⟩; clear H0; have H0 := H
            repeat' (first | (refine J.neS (fun hc => absurd noughtR_eq hc) (fun _ => ?_)) | refine Z H ?_ | (refine Zc ?_ ?_ <;> intro hc <;> first | (exfalso; omega) | skip) | (refine Y ?_; try change C _ _ _ _ _ _) | (refine Zs H ?_; clear H; (try clear w); intro w H) | (refine Zn H ?_; clear H; (try clear w); intro _ w H) | (refine Ze H ?_; clear H; (try clear w); intro gv w H))
            refine ⟨rfl, rfl, (by repeat (first | exact subN_nil | refine subN_cons (by simp) ?_)), (by first | exact keep_same | (repeat (first | exact keepV H0 H | exact keepP H0 H | exact keep_nil | refine keep_cons ?_ ?_))), ?_⟩; clear H0; have H0 := H
            repeat' (first | refine Z H ?_ | (refine Zc ?_ ?_ <;> intro hc <;> first | (exfalso; omega) | skip) | (refine Y ?_; try change C _ _ _ _ _ _) | (refine Zs H ?_; clear H; (try clear w); intro w H) | (refine Zn H ?_; clear H; (try clear w); intro _ w H) | (refine Ze H ?_; clear H; (try clear w); intro gv w H))
            exact ⟨by (repeat (first | exact Agr.refl | exact Agr.hav | refine Agr.upd rfl ?_ | refine Agr.in rfl ?_)), 12 - (j + 1), by omega, j + 1, s4, rfl, by omega, rfl, hle3.trans hle4, H.arr⟩
          · repeat' (first | refine Z H ?_ | (refine Zc ?_ ?_ <;> intro hc <;> first | (exfalso; omega) | skip) | (refine Y ?_; try change C _ _ _ _ _ _) | (refine Zs H ?_; clear H; (try clear w); intro w H) | (refine Zn H ?_; clear H; (try clear w); intro _ w H) | (refine Ze H ?_; clear H; (try clear w); intro gv w H))
            refine C.drawn2 [gb] [0, 0, 0, 0, 0, 0, 0, 0, 0, 0, 0, 0, 0, 1, 2, 0, 0, 0] [15] [0, 1, 3, 7, 15, 31, 63, 63, 191, 511, 1023, 2047, 4095, 8191, 4095, 32767, 65535, 131071] (by kernel_rfl) ?_; replace H := H.drew; simp only [segL, List.take_succ_cons, List.take_zero, List.drop_succ_cons, List.drop_zero]; have H0 := H
            repeat' (first | refine Z H ?_ | (refine Zc ?_ ?_ <;> intro hc <;> first | (exfalso; omega) | skip) | (refine Y ?_; try change C _ _ _ _ _ _) | (refine Zs H ?_; clear H; (try clear w); intro w H) | (refine Zn H ?_; clear H; (try clear w); intro _ w H) | (refine Ze H ?_; clear H; (try clear w); intro gv w H))
            refine ⟨rfl, rfl, (by repeat (first | exact subN_nil | refine subN_cons (by simp) ?_)), (by first | exact keep_same | (repeat (first | exact keepV H0 H | exact keepP H0 H | exact keep_nil | refine keep_cons ?_ ?_))), ?_⟩; clear H0; have H0 := H
            repeat' (first | refine Z H ?_ | (refine Zc ?_ ?_ <;> intro hc <;> first | (exfalso; omega) | skip) | (refine Y ?_; try change C _ _ _ _ _ _) | (refine Zs H ?_; clear H; (try clear w); intro w H) | (refine Zn H ?_; clear H; (try clear w); intro _ w H) | (refine Ze H ?_; clear H; (try clear w); intro gv w H))
            refine ⟨rfl, rfl, (by repeat (first | exact subN_nil | refine subN_cons (by simp) ?_)), (by first | exact keep_same | (repeat (first | exact keepV H0 H | exact keepP H0 H | exact keep_nil | refine keep_cons ?_ ?_))), ?_⟩; clear H0; have H0 := H
            repeat' (first | refine Z H ?_ | (refine Zc ?_ ?_ <;> intro hc <;> first | (exfalso; omega) | skip) | (refine Y ?_; try change C _ _ _ _ _ _) | (refine Zs H ?_; clear H; (try clear w); intro w H) | (refine Zn H ?_; clear H; (try clear w); intro _ w H) | (refine Ze H ?_; clear H; (try clear w); intro gv w H))
            exact ⟨by (repeat (first | exact Agr.refl | exact Agr.hav | refine Agr.upd rfl ?_ | refine Agr.in rfl ?_)), 12 - (j + 1), by omega, j + 1, s4, rfl, by omega, rfl, hle3.trans hle4, H.arr⟩
      · repeat' (first | refine Z H ?_ | (refine Zc ?_ ?_ <;> intro hc <;> first | (exfalso; omega) | skip) | (refine Y ?_; try change C _ _ _ _ _ _) | (refine Zs H ?_; clear H; (try clear w); intro w H) | (refine Zn H ?_; clear H; (try clear w); intro _ w H) | (refine Ze H ?_; clear H; (try clear w); intro gv w H))
        (refine X.call (awake20 (hN.mono (hle1.trans (hle2.trans hle3))) H) ?_; (try clear H); rintro _ w ⟨s5, rfl, hle5, H⟩; refine ⟨_, rfl, ?_⟩)
        repeat' (first | refine Z H ?_ | (refine Zc ?_ ?_ <;> intro hc <;> first | (exfalso; omega) | skip) | (refine Y ?_; try change C _ _ _ _ _ _) | (refine Zs H ?_; clear H; (try clear w); intro w H) | (refine Zn H ?_; clear H; (try clear w); intro _ w H) | (refine Ze H ?_; clear H; (try clear w); intro gv w H))
        exact ⟨_, resT rfl, rfl, H.done (hle1.trans (hle2.trans (hle3.trans hle5)))⟩
theorem wf_u32 {n : Int} (h : (Lit.int .u32 n).wf = true) : ∃ x : Nat, n = x ∧ x < 2 ^ 32 := by
  have : 0 ≤ n ∧ n ≤ 4294967295 := bounds_u32 h
  exact ⟨n.toNat, by omega, by omega⟩
theorem en_of {w : World} (cs : List Value) (hl : cs.length = Tryd.prog.cellsOf 34) (h : Rdg Tryd.prog w 34 cs) : ∃ x : En, x.cells = cs ∧ x.Ok := by
  have hl4 : cs.length = 4 := hl.trans (by kernel_rfl)
  match cs, hl4 with
  | [c0, c1, c2, c3], _ =>
    have f0 : Rdg Tryd.prog w 3 [c0] := rdg_field Tryd.underlying34 h 0 3 0 1 rfl (by kernel_rfl)
    have f1 : Rdg Tryd.prog w 3 [c1] := rdg_field Tryd.underlying34 h 1 3 1 1 rfl (by kernel_rfl)
    have f2 : Rdg Tryd.prog w 32 [c2] := rdg_field Tryd.underlying34 h 2 32 2 1 rfl (by kernel_rfl)
    have f3 : Rdg Tryd.prog w 3 [c3] := rdg_field Tryd.underlying34 h 3 3 3 1 rfl (by kernel_rfl)
    obtain ⟨n0, e0, w0⟩ := rdg_int Tryd.underlying3 f0
    obtain ⟨n1, e1, w1⟩ := rdg_int Tryd.underlying3 f1
    obtain ⟨n2, e2, w2⟩ := rdg_int Tryd.underlying32 f2
    obtain ⟨n3, e3, w3⟩ := rdg_int Tryd.underlying3 f3
    obtain ⟨x2, rfl, hx2⟩ := wf_u32 w2
    cases e0; cases e1; cases e2; cases e3
    exact ⟨⟨n0, n1, x2, n3⟩, rfl, wf_i64 w0, wf_i64 w1, hx2, wf_i64 w3⟩
theorem ens_of {w : World} {v : Value} (h : Rdg Tryd.prog w 22 [v]) : ∃ l : List En, SlS (startRo w) v 4 l.length (l.flatMap En.cells) ∧ ∀ e ∈ l, e.Ok := by
  obtain ⟨acts, ha1, ha2, _⟩ := rdg_list En.cells En.Ok Tryd.underlying22 (by rw [show Tryd.prog.cellsOf 34 = 4 by kernel_rfl]; decide) (fun cs' hl h => en_of cs' hl h) h
  rw [show Tryd.prog.cellsOf 34 = 4 by kernel_rfl] at ha1
  exact ⟨acts, SlS.start ha1, fun a h => (ha2 a h).1⟩
theorem aconf_rdg {w : World} {a : Option Addr} {n c : Nat} (hN : Nib (startRo w)) (g : Rdg Tryd.prog w 22 [.slice a n c]) : Calls Tryd.prog 3 #[.slice a n c] w fun e w' => e = .returned (.bool true) ∧ Only [] w w' := by
  obtain ⟨l, h1, h2⟩ := ens_of g
  obtain ⟨va, vc, hv, _⟩ := formS h1
  cases hv
  exact (aconf_walk hN (Holds.start w) h1 h2).mono fun e w' h => ⟨h.1, h.2.only⟩
end
end Go.Proofs.YtbknpbihgfphaaaDoor

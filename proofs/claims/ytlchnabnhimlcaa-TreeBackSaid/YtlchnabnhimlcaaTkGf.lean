/- TreeBack, walked. -/
import Derived.Test.YtlchnabnhimlcaaTkGb
import Derived.Test.YtlchnabnhimlcaaTkTk
set_option linter.unusedSimpArgs false
set_option linter.unusedVariables false
namespace Go.Proofs.Ytlchnabnhimlcaa
open Go Go.RowKit Go.Own
theorem pagesM_len {t : TR} (ht : t.Ok) (hc : checkM t = true) : (pagesM t).length = 16 := by
  unfold pagesM
  rw [if_neg (by simp [hc]), List.length_append, List.length_map, ht.n8, ht.b8]
theorem pagesM_40 {t : TR} (ht : t.Ok) : ∀ p ∈ pagesM t, p.length = 40 := by
  intro p hp
  unfold pagesM at hp
  split at hp
  · cases hp
  · rcases List.mem_append.1 hp with h | h
    · obtain ⟨x, _, rfl⟩ := List.mem_map.1 h
      simp [pageM, padTo]
      omega
    · exact ht.b40 p h
section
variable {w : World} {s : Ro} {R : List Asn}
set_option maxRecDepth 100000 in
set_option maxHeartbeats 1000000 in
theorem back_walk {l : List OpM} {od : TR} {va : Option Addr} {vc : Nat} (H : Holds s w []) (hl : SlS s (.slice va l.length vc) 6 l.length (l.flatMap OpM.cells)) (hok : ∀ a ∈ l, OpOk s a) (ho : od.Ok) : Calls Try.prog 6 #[.slice va l.length vc, .agg od.cells.toArray] w fun e w' => e = .returned (.bool true) ∧ Fin s w' := by
  have hz := TR.ok_zero
  have hz8 : (List.replicate 8 RN.zero).length = 8 := rfl
  refine enter Try.func6 rfl Try.ntmps6 rfl ?_
  repeat' (first | (refine X.lenL ?_) | (refine X.lv H ?_) | (refine X.lp H ?_) | (refine X.ldT H ?_) | (refine X.stT H ?_; clear H; (try clear w); intro w H) | (refine X.ldM H ?_) | (refine X.stR H ?_; clear H; (try clear w); intro w H) | (refine X.eqL ?_ ?_ <;> intro hc <;> first | (exfalso; first | exact absurd hc (by assumption) | exact absurd (by assumption) hc | exact absurd rfl hc) | skip) | refine Z H ?_ | (refine Zc ?_ ?_ <;> intro hc <;> first | (exfalso; omega) | skip) | (refine Y ?_; try change C _ _ _ _ _ _) | (refine Zs H ?_; clear H; (try clear w); intro w H) | (refine Zn H ?_; clear H; (try clear w); intro _ w H) | (refine Ze H ?_; clear H; (try clear w); intro gv w H))
  (refine X.call (Played_w H hl hok) ?_; (try clear H); rintro _ w ⟨s1, t, m, b, rfl, hs1, ht, hct, hm, H⟩; refine ⟨_, rfl, ?_⟩)
  have hm8 := hm.l8
  repeat' (first | (refine X.lenL ?_) | (refine X.lv H ?_) | (refine X.lp H ?_) | (refine X.ldT H ?_) | (refine X.stT H ?_; clear H; (try clear w); intro w H) | (refine X.ldM H ?_) | (refine X.stR H ?_; clear H; (try clear w); intro w H) | (refine X.eqL ?_ ?_ <;> intro hc <;> first | (exfalso; first | exact absurd hc (by assumption) | exact absurd (by assumption) hc | exact absurd rfl hc) | skip) | refine Z H ?_ | (refine Zc ?_ ?_ <;> intro hc <;> first | (exfalso; omega) | skip) | (refine Y ?_; try change C _ _ _ _ _ _) | (refine Zs H ?_; clear H; (try clear w); intro w H) | (refine Zn H ?_; clear H; (try clear w); intro _ w H) | (refine Ze H ?_; clear H; (try clear w); intro gv w H))
  (refine X.call (Pages_t H ht) ?_; (try clear H); rintro _ w ⟨s2, a1, k1, vl, rfl, hs2, hv1, H⟩; refine ⟨_, rfl, ?_⟩)
  obtain ⟨s3, hs3, H', hS1⟩ := H.fixRow
  clear H
  have H := H'
  clear H'
  have hP := parse_t H hS1 (hv1.mono hs3) (by rw [pagesM_len ht hct]; decide) (fun p hp => by rw [pagesM_40 ht p hp]; decide)
  rw [parse_pages ht hct] at hP
  (refine X.call (hP) ?_; (try clear H); rintro _ w ⟨s4, rfl, hs4, H⟩; refine ⟨_, rfl, ?_⟩)
  clear hP
  repeat' (first | (refine X.neA (eq_tree 9995 ht ht) guard_tree ?_; rw [decide_eq_true rfl]) | (refine X.lenL ?_) | (refine X.lv H ?_) | (refine X.lp H ?_) | (refine X.ldT H ?_) | (refine X.stT H ?_; clear H; (try clear w); intro w H) | (refine X.ldM H ?_) | (refine X.stR H ?_; clear H; (try clear w); intro w H) | (refine X.eqL ?_ ?_ <;> intro hc <;> first | (exfalso; first | exact absurd hc (by assumption) | exact absurd (by assumption) hc | exact absurd rfl hc) | skip) | refine Z H ?_ | (refine Zc ?_ ?_ <;> intro hc <;> first | (exfalso; omega) | skip) | (refine Y ?_; try change C _ _ _ _ _ _) | (refine Zs H ?_; clear H; (try clear w); intro w H) | (refine Zn H ?_; clear H; (try clear w); intro _ w H) | (refine Ze H ?_; clear H; (try clear w); intro gv w H))
  have hC := Check_s H ht
  rw [hct] at hC
  (refine X.call (hC) ?_; (try clear H); rintro _ w ⟨rfl, H⟩; refine ⟨_, rfl, ?_⟩)
  clear hC
  repeat' (first | (refine X.lenL ?_) | (refine X.lv H ?_) | (refine X.lp H ?_) | (refine X.ldT H ?_) | (refine X.stT H ?_; clear H; (try clear w); intro w H) | (refine X.ldM H ?_) | (refine X.stR H ?_; clear H; (try clear w); intro w H) | (refine X.eqL ?_ ?_ <;> intro hc <;> first | (exfalso; first | exact absurd hc (by assumption) | exact absurd (by assumption) hc | exact absurd rfl hc) | skip) | refine Z H ?_ | (refine Zc ?_ ?_ <;> intro hc <;> first | (exfalso; omega) | skip) | (refine Y ?_; try change C _ _ _ _ _ _) | (refine Zs H ?_; clear H; (try clear w); intro w H) | (refine Zn H ?_; clear H; (try clear w); intro _ w H) | (refine Ze H ?_; clear H; (try clear w); intro gv w H))
  (refine X.call (Pages_t H ho) ?_; (try clear H); rintro _ w ⟨s5, a2, k2, vl2, rfl, hs5, hv2, H⟩; refine ⟨_, rfl, ?_⟩)
  obtain ⟨s6, hs6, H', hS2⟩ := H.fixRow
  clear H
  have H := H'
  clear H'
  repeat' (first | (refine X.lenL ?_) | (refine X.lv H ?_) | (refine X.lp H ?_) | (refine X.ldT H ?_) | (refine X.stT H ?_; clear H; (try clear w); intro w H) | (refine X.ldM H ?_) | (refine X.stR H ?_; clear H; (try clear w); intro w H) | (refine X.eqL ?_ ?_ <;> intro hc <;> first | (exfalso; first | exact absurd hc (by assumption) | exact absurd (by assumption) hc | exact absurd rfl hc) | skip) | refine Z H ?_ | (refine Zc ?_ ?_ <;> intro hc <;> first | (exfalso; omega) | skip) | (refine Y ?_; try change C _ _ _ _ _ _) | (refine Zs H ?_; clear H; (try clear w); intro w H) | (refine Zn H ?_; clear H; (try clear w); intro _ w H) | (refine Ze H ?_; clear H; (try clear w); intro gv w H))
  have hC := Check_s H ho
  by_cases hco : checkM od = true
  · rw [hco] at hC
    (refine X.call (hC) ?_; (try clear H); rintro _ w ⟨rfl, H⟩; refine ⟨_, rfl, ?_⟩)
    clear hC
    repeat' (first | (refine X.lenL ?_) | (refine X.lv H ?_) | (refine X.lp H ?_) | (refine X.ldT H ?_) | (refine X.stT H ?_; clear H; (try clear w); intro w H) | (refine X.ldM H ?_) | (refine X.stR H ?_; clear H; (try clear w); intro w H) | (refine X.eqL ?_ ?_ <;> intro hc <;> first | (exfalso; first | exact absurd hc (by assumption) | exact absurd (by assumption) hc | exact absurd rfl hc) | skip) | refine Z H ?_ | (refine Zc ?_ ?_ <;> intro hc <;> first | (exfalso; omega) | skip) | (refine Y ?_; try change C _ _ _ _ _ _) | (refine Zs H ?_; clear H; (try clear w); intro w H) | (refine Zn H ?_; clear H; (try clear w); intro _ w H) | (refine Ze H ?_; clear H; (try clear w); intro gv w H))
    have hP := parse_t H hS2 (hv2.mono hs6) (by rw [pagesM_len ho hco]; decide) (fun p hp => by rw [pagesM_40 ho p hp]; decide)
    rw [parse_pages ho hco] at hP
    (refine X.call (hP) ?_; (try clear H); rintro _ w ⟨s7, rfl, hs7, H⟩; refine ⟨_, rfl, ?_⟩)
    clear hP
    repeat' (first | (refine X.eqA (eq_tree 9995 ho ho) guard_tree ?_; rw [decide_eq_true rfl]) | (refine X.lenL ?_) | (refine X.lv H ?_) | (refine X.lp H ?_) | (refine X.ldT H ?_) | (refine X.stT H ?_; clear H; (try clear w); intro w H) | (refine X.ldM H ?_) | (refine X.stR H ?_; clear H; (try clear w); intro w H) | (refine X.eqL ?_ ?_ <;> intro hc <;> first | (exfalso; first | exact absurd hc (by assumption) | exact absurd (by assumption) hc | exact absurd rfl hc) | skip) | refine Z H ?_ | (refine Zc ?_ ?_ <;> intro hc <;> first | (exfalso; omega) | skip) | (refine Y ?_; try change C _ _ _ _ _ _) | (refine Zs H ?_; clear H; (try clear w); intro w H) | (refine Zn H ?_; clear H; (try clear w); intro _ w H) | (refine Ze H ?_; clear H; (try clear w); intro gv w H))
    (refine X.call (awake17 H) ?_; (try clear H); rintro _ w ⟨s8, rfl, hs8, H⟩; refine ⟨_, rfl, ?_⟩)
    repeat' (first | (refine X.lenL ?_) | (refine X.lv H ?_) | (refine X.lp H ?_) | (refine X.ldT H ?_) | (refine X.stT H ?_; clear H; (try clear w); intro w H) | (refine X.ldM H ?_) | (refine X.stR H ?_; clear H; (try clear w); intro w H) | (refine X.eqL ?_ ?_ <;> intro hc <;> first | (exfalso; first | exact absurd hc (by assumption) | exact absurd (by assumption) hc | exact absurd rfl hc) | skip) | refine Z H ?_ | (refine Zc ?_ ?_ <;> intro hc <;> first | (exfalso; omega) | skip) | (refine Y ?_; try change C _ _ _ _ _ _) | (refine Zs H ?_; clear H; (try clear w); intro w H) | (refine Zn H ?_; clear H; (try clear w); intro _ w H) | (refine Ze H ?_; clear H; (try clear w); intro gv w H))
    exact ⟨_, resT rfl, rfl, H.done (((((((hs1.trans hs2).trans hs3).trans hs4).trans hs5).trans hs6).trans hs7).trans hs8)⟩
  have hco' : checkM od = false := by simpa using hco
  have hpl : (pagesM od).length = 0 := by rw [pagesM, if_pos hco']; rfl
  rw [hco'] at hC
  (refine X.call (hC) ?_; (try clear H); rintro _ w ⟨rfl, H⟩; refine ⟨_, rfl, ?_⟩)
  clear hC
  repeat' (first | (refine X.lenL ?_) | (refine X.lv H ?_) | (refine X.lp H ?_) | (refine X.ldT H ?_) | (refine X.stT H ?_; clear H; (try clear w); intro w H) | (refine X.ldM H ?_) | (refine X.stR H ?_; clear H; (try clear w); intro w H) | (refine X.eqL ?_ ?_ <;> intro hc <;> first | (exfalso; first | exact absurd hc (by assumption) | exact absurd (by assumption) hc | exact absurd rfl hc) | skip) | refine Z H ?_ | (refine Zc ?_ ?_ <;> intro hc <;> first | (exfalso; omega) | skip) | (refine Y ?_; try change C _ _ _ _ _ _) | (refine Zs H ?_; clear H; (try clear w); intro w H) | (refine Zn H ?_; clear H; (try clear w); intro _ w H) | (refine Ze H ?_; clear H; (try clear w); intro gv w H))
  have hF := Find_s (p := [47]) H ho
  rw [show findTM od [47] = (0, 3) by rw [findTM, if_pos hco']] at hF
  (refine X.call (hF) ?_; (try clear H); rintro _ w ⟨rfl, H⟩; refine ⟨_, rfl, ?_⟩)
  clear hF
  repeat' (first | (refine X.lenL ?_) | (refine X.lv H ?_) | (refine X.lp H ?_) | (refine X.ldT H ?_) | (refine X.stT H ?_; clear H; (try clear w); intro w H) | (refine X.ldM H ?_) | (refine X.stR H ?_; clear H; (try clear w); intro w H) | (refine X.eqL ?_ ?_ <;> intro hc <;> first | (exfalso; first | exact absurd hc (by assumption) | exact absurd (by assumption) hc | exact absurd rfl hc) | skip) | refine Z H ?_ | (refine Zc ?_ ?_ <;> intro hc <;> first | (exfalso; omega) | skip) | (refine Y ?_; try change C _ _ _ _ _ _) | (refine Zs H ?_; clear H; (try clear w); intro w H) | (refine Zn H ?_; clear H; (try clear w); intro _ w H) | (refine Ze H ?_; clear H; (try clear w); intro gv w H))
  have hM := make_t (p := [47, 97]) (k := 2) H ho
  rw [show makeM od [47, 97] 2 = (TR.zero, 3) by rw [makeM, if_pos hco']] at hM
  (refine X.call (hM) ?_; (try clear H); rintro _ w ⟨rfl, H⟩; refine ⟨_, rfl, ?_⟩)
  clear hM
  repeat' (first | (refine X.lenL ?_) | (refine X.lv H ?_) | (refine X.lp H ?_) | (refine X.ldT H ?_) | (refine X.stT H ?_; clear H; (try clear w); intro w H) | (refine X.ldM H ?_) | (refine X.stR H ?_; clear H; (try clear w); intro w H) | (refine X.eqL ?_ ?_ <;> intro hc <;> first | (exfalso; first | exact absurd hc (by assumption) | exact absurd (by assumption) hc | exact absurd rfl hc) | skip) | refine Z H ?_ | (refine Zc ?_ ?_ <;> intro hc <;> first | (exfalso; omega) | skip) | (refine Y ?_; try change C _ _ _ _ _ _) | (refine Zs H ?_; clear H; (try clear w); intro w H) | (refine Zn H ?_; clear H; (try clear w); intro _ w H) | (refine Ze H ?_; clear H; (try clear w); intro gv w H))
  have hU := Used_s H ho
  rw [show usedM od = 0 by rw [usedM, if_pos hco']] at hU
  (refine X.call (hU) ?_; (try clear H); rintro _ w ⟨rfl, H⟩; refine ⟨_, rfl, ?_⟩)
  clear hU
  repeat' (first | (refine X.lenL ?_) | (refine X.lv H ?_) | (refine X.lp H ?_) | (refine X.ldT H ?_) | (refine X.stT H ?_; clear H; (try clear w); intro w H) | (refine X.ldM H ?_) | (refine X.stR H ?_; clear H; (try clear w); intro w H) | (refine X.eqL ?_ ?_ <;> intro hc <;> first | (exfalso; first | exact absurd hc (by assumption) | exact absurd (by assumption) hc | exact absurd rfl hc) | skip) | refine Z H ?_ | (refine Zc ?_ ?_ <;> intro hc <;> first | (exfalso; omega) | skip) | (refine Y ?_; try change C _ _ _ _ _ _) | (refine Zs H ?_; clear H; (try clear w); intro w H) | (refine Zn H ?_; clear H; (try clear w); intro _ w H) | (refine Ze H ?_; clear H; (try clear w); intro gv w H))
  (refine X.call (awake17 H) ?_; (try clear H); rintro _ w ⟨s8, rfl, hs8, H⟩; refine ⟨_, rfl, ?_⟩)
  repeat' (first | (refine X.lenL ?_) | (refine X.lv H ?_) | (refine X.lp H ?_) | (refine X.ldT H ?_) | (refine X.stT H ?_; clear H; (try clear w); intro w H) | (refine X.ldM H ?_) | (refine X.stR H ?_; clear H; (try clear w); intro w H) | (refine X.eqL ?_ ?_ <;> intro hc <;> first | (exfalso; first | exact absurd hc (by assumption) | exact absurd (by assumption) hc | exact absurd rfl hc) | skip) | refine Z H ?_ | (refine Zc ?_ ?_ <;> intro hc <;> first | (exfalso; omega) | skip) | (refine Y ?_; try change C _ _ _ _ _ _) | (refine Zs H ?_; clear H; (try clear w); intro w H) | (refine Zn H ?_; clear H; (try clear w); intro _ w H) | (refine Ze H ?_; clear H; (try clear w); intro gv w H))
  exact ⟨_, resT rfl, rfl, H.done ((((((hs1.trans hs2).trans hs3).trans hs4).trans hs5).trans hs6).trans hs8)⟩
theorem back_rdg {w : World} {a : Option Addr} {n c : Nat} {cs : List Value} (g : Rdg Try.prog w 23 [.slice a n c]) (hsz : cs.length = Try.prog.cellsOf 34) (g1 : Rdg Try.prog w 34 cs) : Calls Try.prog 6 #[.slice a n c, .agg cs.toArray] w fun e w' => e = .returned (.bool true) ∧ Only [] w w' := by
  obtain ⟨l, h1, h2⟩ := ops_of g
  obtain ⟨va, vc, hv, _⟩ := formS h1
  cases hv
  obtain ⟨o, rfl, ho⟩ := tree_of cs (hsz.trans (by kernel_rfl)) g1
  exact (back_walk (Holds.start w) h1 h2 ho).mono fun e w' h => ⟨h.1, h.2.only⟩
end
end Go.Proofs.Ytlchnabnhimlcaa

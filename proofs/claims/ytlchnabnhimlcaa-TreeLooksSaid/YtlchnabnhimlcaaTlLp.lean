/- TreeLooks, walked. -/
import Derived.Test.YtlchnabnhimlcaaTlLo
import Derived.Test.YtlchnabnhimlcaaTlTn
import Derived.Test.YtlchnabnhimlcaaTlGb
set_option linter.unusedSimpArgs false
set_option linter.unusedVariables false
namespace Go.Proofs.Ytlchnabnhimlcaa
open Go Go.RowKit Go.Own
theorem path_out {t : TR} {n : Int} (hc : checkM t = true) (h : n < 0 ∨ 8 ≤ n) : pathM t n = ([], 4) := by
  unfold pathM
  rw [if_neg (by rw [hc]; decide), if_pos h]
theorem path_free {t : TR} {i : Nat} (hc : checkM t = true) (h : i < 8) (hk : (t.n i).kind = 0) : pathM t (i : Int) = ([], 4) := by
  unfold pathM
  rw [if_neg (by rw [hc]; decide), if_neg (by omega), Int.toNat_natCast, if_pos hk]
theorem path_full {t : TR} {i : Nat} (hc : checkM t = true) (h : i < 8) (hk : (t.n i).kind ≠ 0) : pathM t (i : Int) = (full t i, 0) := by
  unfold pathM
  rw [if_neg (by rw [hc]; decide), if_neg (by omega), Int.toNat_natCast, if_neg hk]
  unfold full sp
  by_cases h0 : i = 0
  · rw [if_pos (by omega), if_pos h0]
  · rw [if_neg (by omega), if_neg h0]
theorem names_8 {t : TR} {p : Str} : (namesL t p).1.length ≤ 8 := by
  unfold namesL
  split
  · exact Nat.zero_le _
  · show (sortB _).length ≤ 8
    rw [len_sortB]
    exact len_pickN 8
theorem name_short {t : TR} (h : WF t) {i : Nat} (hi : i < 8) : (t.n i).name.length ≤ 1000000 := by
  by_cases hk : (t.n i).kind = 0
  · rw [(kind_of_good h hi hk).2]; decide
  · by_cases h0 : i = 0
    · subst h0; rw [h.root]; decide
    · have := (isName_ne (h.name hi h0 hk)).2
      omega
section
variable {w : World} {s : Ro} {R : List Asn} {t : TR} {m : List RN}
theorem Used_e (H : Holds s w R) (ht : t.Ok) : Calls Try.prog 15 #[.agg t.cells.toArray] w fun e w' => e = .returned (.int .i64 (usedM t : Int)) ∧ Only [] w w' ∧ Holds s w' R :=
  (Used_s H.full ht).mono fun e w' ⟨he, H'⟩ => ⟨he, H.pure0 H'⟩
theorem UsedX_e (H : Holds s w R) (hD : Doc s m t) (ht : t.Ok) : Calls Try.prog 25 #[.agg (rcells m).toArray] w fun e w' => e = .returned (.int .i64 (usedN t : Nat)) ∧ Only [] w w' ∧ Holds s w' R :=
  (Used_x H.full hD.l8 (hD.mono H.le_full).blk ht).mono fun e w' ⟨he, H'⟩ => ⟨he, H.pure0 H'⟩
set_option maxRecDepth 100000 in
set_option maxHeartbeats 1000000 in
theorem looks_walk {l : List OpM} {p : Str} {at_ n : Int} {va : Option Addr} {vc : Nat} (H : Holds s w []) (hl : SlS s (.slice va l.length vc) 6 l.length (l.flatMap OpM.cells)) (hok : ∀ a ∈ l, OpOk s a) (hp : p.length ≤ 140737488355328) : Calls Try.prog 7 #[.agg ([.slice va l.length vc, .string ⟨p.toArray⟩, .int .i64 at_, .int .i64 n] : List Value).toArray] w fun e w' => e = .returned (.bool true) ∧ Fin s w' := by
  have hz := TR.ok_zero
  have hz8 : (List.replicate 8 RN.zero).length = 8 := rfl
  refine enter Try.func7 rfl Try.ntmps7 rfl ?_
  repeat' (first | (refine X.lenL ?_) | (refine X.lv H ?_) | (refine X.lp H ?_) | (refine X.ldT H ?_) | (refine X.stT H ?_; clear H; (try clear w); intro w H) | (refine X.ldM H ?_) | (refine X.stR H ?_; clear H; (try clear w); intro w H) | (refine X.str H ?_) | (refine X.eqL ?_ ?_ <;> intro hc <;> first | (exfalso; first | exact absurd hc (by assumption) | exact absurd (by assumption) hc | exact absurd rfl hc) | skip) | (refine X.neL ?_ ?_ <;> intro hc <;> first | (exfalso; first | exact absurd hc (by assumption) | exact absurd (by assumption) hc | exact absurd rfl hc) | skip) | refine Z H ?_ | (refine Zc ?_ ?_ <;> intro hc <;> first | (exfalso; omega) | skip) | (refine Y ?_; try change C _ _ _ _ _ _) | (refine Zs H ?_; clear H; (try clear w); intro w H) | (refine Zn H ?_; clear H; (try clear w); intro _ w H) | (refine Ze H ?_; clear H; (try clear w); intro gv w H))
  refine C.drawn1 [0, 1, 0, 1, 0, 1, 0, 1, 0, 0, 0, 0] [0, 1, 0, 4, 0, 16, 0, 64, 3, 271, 831, 2047] (by kernel_rfl) ?_; replace H := H.drew
  repeat' (first | (refine X.lenL ?_) | (refine X.lv H ?_) | (refine X.lp H ?_) | (refine X.ldT H ?_) | (refine X.stT H ?_; clear H; (try clear w); intro w H) | (refine X.ldM H ?_) | (refine X.stR H ?_; clear H; (try clear w); intro w H) | (refine X.str H ?_) | (refine X.eqL ?_ ?_ <;> intro hc <;> first | (exfalso; first | exact absurd hc (by assumption) | exact absurd (by assumption) hc | exact absurd rfl hc) | skip) | (refine X.neL ?_ ?_ <;> intro hc <;> first | (exfalso; first | exact absurd hc (by assumption) | exact absurd (by assumption) hc | exact absurd rfl hc) | skip) | refine Z H ?_ | (refine Zc ?_ ?_ <;> intro hc <;> first | (exfalso; omega) | skip) | (refine Y ?_; try change C _ _ _ _ _ _) | (refine Zs H ?_; clear H; (try clear w); intro w H) | (refine Zn H ?_; clear H; (try clear w); intro _ w H) | (refine Ze H ?_; clear H; (try clear w); intro gv w H))
  (refine X.call (Played_x H hl hok) ?_; (try clear H); rintro _ w ⟨s1, t, m, b, rfl, rfl, hs1, ht, hct, hD, H⟩; refine ⟨_, rfl, ?_⟩)
  have hm8 := hD.l8
  have hW := (check_wf ht).1 hct
  have hft : findTM t p = findM t p := by
    unfold findTM
    rw [if_neg (by rw [hct]; decide)]
  have hus : usedM t = usedN t := by
    unfold usedM
    rw [if_neg (by rw [hct]; decide)]
  repeat' (first | (refine X.lenL ?_) | (refine X.lv H ?_) | (refine X.lp H ?_) | (refine X.ldT H ?_) | (refine X.stT H ?_; clear H; (try clear w); intro w H) | (refine X.ldM H ?_) | (refine X.stR H ?_; clear H; (try clear w); intro w H) | (refine X.str H ?_) | (refine X.eqL ?_ ?_ <;> intro hc <;> first | (exfalso; first | exact absurd hc (by assumption) | exact absurd (by assumption) hc | exact absurd rfl hc) | skip) | (refine X.neL ?_ ?_ <;> intro hc <;> first | (exfalso; first | exact absurd hc (by assumption) | exact absurd (by assumption) hc | exact absurd rfl hc) | skip) | refine Z H ?_ | (refine Zc ?_ ?_ <;> intro hc <;> first | (exfalso; omega) | skip) | (refine Y ?_; try change C _ _ _ _ _ _) | (refine Zs H ?_; clear H; (try clear w); intro w H) | (refine Zn H ?_; clear H; (try clear w); intro _ w H) | (refine Ze H ?_; clear H; (try clear w); intro gv w H))
  have hF := Find_s (p := p) H ht
  rw [hft] at hF
  (refine X.call (hF) ?_; (try clear H); rintro _ w ⟨rfl, H⟩; refine ⟨_, rfl, ?_⟩)
  clear hF
  repeat' (first | (refine X.lenL ?_) | (refine X.lv H ?_) | (refine X.lp H ?_) | (refine X.ldT H ?_) | (refine X.stT H ?_; clear H; (try clear w); intro w H) | (refine X.ldM H ?_) | (refine X.stR H ?_; clear H; (try clear w); intro w H) | (refine X.str H ?_) | (refine X.eqL ?_ ?_ <;> intro hc <;> first | (exfalso; first | exact absurd hc (by assumption) | exact absurd (by assumption) hc | exact absurd rfl hc) | skip) | (refine X.neL ?_ ?_ <;> intro hc <;> first | (exfalso; first | exact absurd hc (by assumption) | exact absurd (by assumption) hc | exact absurd rfl hc) | skip) | refine Z H ?_ | (refine Zc ?_ ?_ <;> intro hc <;> first | (exfalso; omega) | skip) | (refine Y ?_; try change C _ _ _ _ _ _) | (refine Zs H ?_; clear H; (try clear w); intro w H) | (refine Zn H ?_; clear H; (try clear w); intro _ w H) | (refine Ze H ?_; clear H; (try clear w); intro gv w H))
  (refine X.call (Find_x (p := p) H hD hW hp) ?_; (try clear H); rintro _ w ⟨rfl, H⟩; refine ⟨_, rfl, ?_⟩)
  repeat' (first | (refine X.lenL ?_) | (refine X.lv H ?_) | (refine X.lp H ?_) | (refine X.ldT H ?_) | (refine X.stT H ?_; clear H; (try clear w); intro w H) | (refine X.ldM H ?_) | (refine X.stR H ?_; clear H; (try clear w); intro w H) | (refine X.str H ?_) | (refine X.eqL ?_ ?_ <;> intro hc <;> first | (exfalso; first | exact absurd hc (by assumption) | exact absurd (by assumption) hc | exact absurd rfl hc) | skip) | (refine X.neL ?_ ?_ <;> intro hc <;> first | (exfalso; first | exact absurd hc (by assumption) | exact absurd (by assumption) hc | exact absurd rfl hc) | skip) | refine Z H ?_ | (refine Zc ?_ ?_ <;> intro hc <;> first | (exfalso; omega) | skip) | (refine Y ?_; try change C _ _ _ _ _ _) | (refine Zs H ?_; clear H; (try clear w); intro w H) | (refine Zn H ?_; clear H; (try clear w); intro _ w H) | (refine Ze H ?_; clear H; (try clear w); intro gv w H))
  (refine X.call (Names_s (p := p) H ht hct hW) ?_; (try clear H); rintro _ w ⟨a1, k1, rfl, H⟩; refine ⟨_, rfl, ?_⟩)
  repeat' (first | (refine X.lenL ?_) | (refine X.lv H ?_) | (refine X.lp H ?_) | (refine X.ldT H ?_) | (refine X.stT H ?_; clear H; (try clear w); intro w H) | (refine X.ldM H ?_) | (refine X.stR H ?_; clear H; (try clear w); intro w H) | (refine X.str H ?_) | (refine X.eqL ?_ ?_ <;> intro hc <;> first | (exfalso; first | exact absurd hc (by assumption) | exact absurd (by assumption) hc | exact absurd rfl hc) | skip) | (refine X.neL ?_ ?_ <;> intro hc <;> first | (exfalso; first | exact absurd hc (by assumption) | exact absurd (by assumption) hc | exact absurd rfl hc) | skip) | refine Z H ?_ | (refine Zc ?_ ?_ <;> intro hc <;> first | (exfalso; omega) | skip) | (refine Y ?_; try change C _ _ _ _ _ _) | (refine Zs H ?_; clear H; (try clear w); intro w H) | (refine Zn H ?_; clear H; (try clear w); intro _ w H) | (refine Ze H ?_; clear H; (try clear w); intro gv w H))
  (refine X.call (Names_x (p := p) H hD hW hp) ?_; (try clear H); rintro _ w ⟨s2, a2, k2, hs2, rfl, hS2, H⟩; refine ⟨_, rfl, ?_⟩)
  obtain ⟨s3, hs3, H', hS1⟩ := H.fixRow
  clear H
  have H := H'
  clear H'
  replace hS2 := hS2.mono hs3
  have hn8 := names_8 (t := t) (p := p)
  replace hD := hD.mono (hs2.trans hs3)
  repeat' (first | (refine X.lenL ?_) | (refine X.lv H ?_) | (refine X.lp H ?_) | (refine X.ldT H ?_) | (refine X.stT H ?_; clear H; (try clear w); intro w H) | (refine X.ldM H ?_) | (refine X.stR H ?_; clear H; (try clear w); intro w H) | (refine X.str H ?_) | (refine X.eqL ?_ ?_ <;> intro hc <;> first | (exfalso; first | exact absurd hc (by assumption) | exact absurd (by assumption) hc | exact absurd rfl hc) | skip) | (refine X.neL ?_ ?_ <;> intro hc <;> first | (exfalso; first | exact absurd hc (by assumption) | exact absurd (by assumption) hc | exact absurd rfl hc) | skip) | refine Z H ?_ | (refine Zc ?_ ?_ <;> intro hc <;> first | (exfalso; omega) | skip) | (refine Y ?_; try change C _ _ _ _ _ _) | (refine Zs H ?_; clear H; (try clear w); intro w H) | (refine Zn H ?_; clear H; (try clear w); intro _ w H) | (refine Ze H ?_; clear H; (try clear w); intro gv w H))
  refine C.loopH H [2, 18, 87, 88, 89, 90, 91, 92, 93, 94, 95, 96, 97, 98, 99, 100, 101] [18] rfl (fun f vs => ∃ i : Nat, f = (namesL t p).1.length - i ∧ i ≤ (namesL t p).1.length ∧ vs = [.int .i64 (i : Int)]) (namesL t p).1.length ⟨0, rfl, Nat.zero_le _, rfl⟩ ?_
  clear H
  rintro f vs hv w ⟨i, rfl, hi, rfl⟩ H
  by_cases hlt : i < (namesL t p).1.length
  · have hgi : (strL (namesL t p).1)[i]? = some (.string ⟨((namesL t p).1[i]).toArray⟩) := by
      unfold strL
      rw [List.getElem?_map, List.getElem?_eq_getElem hlt]
      rfl
    obtain ⟨g1, o1, _, e1, _, _, hp1⟩ := posS hS1 (by omega) (by decide)
    obtain ⟨g2, o2, _, e2, _, _, hp2⟩ := posS hS2 (by omega) (by decide)
    have q1 : Pin s3 g1 (o1 + i * 1) (.string ⟨((namesL t p).1[i]).toArray⟩) := by rw [Nat.mul_one]; exact hp1 i _ hgi
    have q2 : Pin s3 g2 (o2 + i * 1) (.string ⟨((namesL t p).1[i]).toArray⟩) := by rw [Nat.mul_one]; exact hp2 i _ hgi
    have ea1 : a1 = some ⟨g1, o1, none⟩ := by injection e1
    have ea2 : a2 = some ⟨g2, o2, none⟩ := by injection e2
    subst ea1 ea2
    generalize (namesL t p).1[i] = x at q1 q2
    repeat' (first | (refine X.lenL ?_) | (refine X.lv H ?_) | (refine X.lp H ?_) | (refine X.ldT H ?_) | (refine X.stT H ?_; clear H; (try clear w); intro w H) | (refine X.ldM H ?_) | (refine X.stR H ?_; clear H; (try clear w); intro w H) | (refine X.str H ?_) | (refine X.eqL ?_ ?_ <;> intro hc <;> first | (exfalso; first | exact absurd hc (by assumption) | exact absurd (by assumption) hc | exact absurd rfl hc) | skip) | (refine X.neL ?_ ?_ <;> intro hc <;> first | (exfalso; first | exact absurd hc (by assumption) | exact absurd (by assumption) hc | exact absurd rfl hc) | skip) | refine Z H ?_ | (refine Zc ?_ ?_ <;> intro hc <;> first | (exfalso; omega) | skip) | (refine Y ?_; try change C _ _ _ _ _ _) | (refine Zs H ?_; clear H; (try clear w); intro w H) | (refine Zn H ?_; clear H; (try clear w); intro _ w H) | (refine Ze H ?_; clear H; (try clear w); intro gv w H))
    refine C.drawn1 [0, 0, 0, 1, 0, 0, 0, 1, 0] [0, 0, 3, 7, 0, 0, 48, 112, 255] (by kernel_rfl) ?_; replace H := H.drew
    repeat' (first | (refine X.lenL ?_) | (refine X.lv H ?_) | (refine X.lp H ?_) | (refine X.ldT H ?_) | (refine X.stT H ?_; clear H; (try clear w); intro w H) | (refine X.ldM H ?_) | (refine X.stR H ?_; clear H; (try clear w); intro w H) | (refine X.str H ?_) | (refine X.eqL ?_ ?_ <;> intro hc <;> first | (exfalso; first | exact absurd hc (by assumption) | exact absurd (by assumption) hc | exact absurd rfl hc) | skip) | (refine X.neL ?_ ?_ <;> intro hc <;> first | (exfalso; first | exact absurd hc (by assumption) | exact absurd (by assumption) hc | exact absurd rfl hc) | skip) | refine Z H ?_ | (refine Zc ?_ ?_ <;> intro hc <;> first | (exfalso; omega) | skip) | (refine Y ?_; try change C _ _ _ _ _ _) | (refine Zs H ?_; clear H; (try clear w); intro w H) | (refine Zn H ?_; clear H; (try clear w); intro _ w H) | (refine Ze H ?_; clear H; (try clear w); intro gv w H))
    exact ⟨by (repeat (first | exact Agr.refl | exact Agr.hav | refine Agr.upd rfl ?_ | refine Agr.in rfl ?_)), (namesL t p).1.length - (i + 1), by omega, ⟨i + 1, rfl, by omega, rfl⟩, H⟩
  clear hS1 hS2
  repeat' (first | (refine X.lenL ?_) | (refine X.lv H ?_) | (refine X.lp H ?_) | (refine X.ldT H ?_) | (refine X.stT H ?_; clear H; (try clear w); intro w H) | (refine X.ldM H ?_) | (refine X.stR H ?_; clear H; (try clear w); intro w H) | (refine X.str H ?_) | (refine X.eqL ?_ ?_ <;> intro hc <;> first | (exfalso; first | exact absurd hc (by assumption) | exact absurd (by assumption) hc | exact absurd rfl hc) | skip) | (refine X.neL ?_ ?_ <;> intro hc <;> first | (exfalso; first | exact absurd hc (by assumption) | exact absurd (by assumption) hc | exact absurd rfl hc) | skip) | refine Z H ?_ | (refine Zc ?_ ?_ <;> intro hc <;> first | (exfalso; omega) | skip) | (refine Y ?_; try change C _ _ _ _ _ _) | (refine Zs H ?_; clear H; (try clear w); intro w H) | (refine Zn H ?_; clear H; (try clear w); intro _ w H) | (refine Ze H ?_; clear H; (try clear w); intro gv w H))
  (refine X.call (read_t (p := p) (at_ := at_) (n := n) H ht) ?_; (try clear H); rintro _ w ⟨a3, k3, rfl, H⟩; refine ⟨_, rfl, ?_⟩)
  repeat' (first | (refine X.lenL ?_) | (refine X.lv H ?_) | (refine X.lp H ?_) | (refine X.ldT H ?_) | (refine X.stT H ?_; clear H; (try clear w); intro w H) | (refine X.ldM H ?_) | (refine X.stR H ?_; clear H; (try clear w); intro w H) | (refine X.str H ?_) | (refine X.eqL ?_ ?_ <;> intro hc <;> first | (exfalso; first | exact absurd hc (by assumption) | exact absurd (by assumption) hc | exact absurd rfl hc) | skip) | (refine X.neL ?_ ?_ <;> intro hc <;> first | (exfalso; first | exact absurd hc (by assumption) | exact absurd (by assumption) hc | exact absurd rfl hc) | skip) | refine Z H ?_ | (refine Zc ?_ ?_ <;> intro hc <;> first | (exfalso; omega) | skip) | (refine Y ?_; try change C _ _ _ _ _ _) | (refine Zs H ?_; clear H; (try clear w); intro w H) | (refine Zn H ?_; clear H; (try clear w); intro _ w H) | (refine Ze H ?_; clear H; (try clear w); intro gv w H))
  (refine X.call (Read_x (p := p) (at_ := at_) (n := n) H hD hW hct hp) ?_; (try clear H); rintro _ w ⟨rfl, H⟩; refine ⟨_, rfl, ?_⟩)
  obtain ⟨s4, hs4, H', hS3⟩ := H.fixRow
  clear H
  have H := H'
  clear H'
  replace hD := hD.mono hs4
  repeat' (first | (refine X.lenL ?_) | (refine X.lv H ?_) | (refine X.lp H ?_) | (refine X.ldT H ?_) | (refine X.stT H ?_; clear H; (try clear w); intro w H) | (refine X.ldM H ?_) | (refine X.stR H ?_; clear H; (try clear w); intro w H) | (refine X.str H ?_) | (refine X.eqL ?_ ?_ <;> intro hc <;> first | (exfalso; first | exact absurd hc (by assumption) | exact absurd (by assumption) hc | exact absurd rfl hc) | skip) | (refine X.neL ?_ ?_ <;> intro hc <;> first | (exfalso; first | exact absurd hc (by assumption) | exact absurd (by assumption) hc | exact absurd rfl hc) | skip) | refine Z H ?_ | (refine Zc ?_ ?_ <;> intro hc <;> first | (exfalso; omega) | skip) | (refine Y ?_; try change C _ _ _ _ _ _) | (refine Zs H ?_; clear H; (try clear w); intro w H) | (refine Zn H ?_; clear H; (try clear w); intro _ w H) | (refine Ze H ?_; clear H; (try clear w); intro gv w H))
  (refine X.call (Path_s (nd := n) H ht (fun i hi => name_short hW hi)) ?_; (try clear H); rintro _ w ⟨rfl, H⟩; refine ⟨_, rfl, ?_⟩)
  repeat' (first | (refine X.lenL ?_) | (refine X.lv H ?_) | (refine X.lp H ?_) | (refine X.ldT H ?_) | (refine X.stT H ?_; clear H; (try clear w); intro w H) | (refine X.ldM H ?_) | (refine X.stR H ?_; clear H; (try clear w); intro w H) | (refine X.str H ?_) | (refine X.eqL ?_ ?_ <;> intro hc <;> first | (exfalso; first | exact absurd hc (by assumption) | exact absurd (by assumption) hc | exact absurd rfl hc) | skip) | (refine X.neL ?_ ?_ <;> intro hc <;> first | (exfalso; first | exact absurd hc (by assumption) | exact absurd (by assumption) hc | exact absurd rfl hc) | skip) | ((fail_if_success (with_reducible show C _ _ _ (Code.seq (Code.region 19 _ _) _) _ _)); refine Z H ?_) | (refine Zc ?_ ?_ <;> intro hc <;> first | (exfalso; omega) | skip) | (refine Y ?_; try change C _ _ _ _ _ _) | (refine Zs H ?_; clear H; (try clear w); intro w H) | (refine Zn H ?_; clear H; (try clear w); intro _ w H) | (refine Ze H ?_; clear H; (try clear w); intro gv w H))
  refine C.cutH H [25, 124, 125, 126, 127, 128, 129, 130, 131, 132, 133, 134, 135, 136] [25] rfl (fun vs => ∃ b : Bool, vs = [.bool b] ∧ ((b = true ∧ pathM t n = ([], 4)) ∨ (b = false ∧ ∃ i : Nat, n = i ∧ i < 8 ∧ (t.n i).kind ≠ 0 ∧ pathM t n = (full t i, 0)))) ?_ ?_
  · by_cases h1 : n < 0
    · repeat' (first | (refine X.lenL ?_) | (refine X.lv H ?_) | (refine X.lp H ?_) | (refine X.ldT H ?_) | (refine X.stT H ?_; clear H; (try clear w); intro w H) | (refine X.ldM H ?_) | (refine X.stR H ?_; clear H; (try clear w); intro w H) | (refine X.str H ?_) | (refine X.eqL ?_ ?_ <;> intro hc <;> first | (exfalso; first | exact absurd hc (by assumption) | exact absurd (by assumption) hc | exact absurd rfl hc) | skip) | (refine X.neL ?_ ?_ <;> intro hc <;> first | (exfalso; first | exact absurd hc (by assumption) | exact absurd (by assumption) hc | exact absurd rfl hc) | skip) | refine Z H ?_ | (refine Zc ?_ ?_ <;> intro hc <;> first | (exfalso; omega) | skip) | (refine Y ?_; try change C _ _ _ _ _ _) | (refine Zs H ?_; clear H; (try clear w); intro w H) | (refine Zn H ?_; clear H; (try clear w); intro _ w H) | (refine Ze H ?_; clear H; (try clear w); intro gv w H))
      exact ⟨by (repeat (first | exact Agr.refl | exact Agr.hav | refine Agr.upd rfl ?_ | refine Agr.in rfl ?_)), ⟨true, rfl, .inl ⟨rfl, path_out hct (.inl h1)⟩⟩, H⟩
    by_cases h2 : 7 < n
    · repeat' (first | (refine X.lenL ?_) | (refine X.lv H ?_) | (refine X.lp H ?_) | (refine X.ldT H ?_) | (refine X.stT H ?_; clear H; (try clear w); intro w H) | (refine X.ldM H ?_) | (refine X.stR H ?_; clear H; (try clear w); intro w H) | (refine X.str H ?_) | (refine X.eqL ?_ ?_ <;> intro hc <;> first | (exfalso; first | exact absurd hc (by assumption) | exact absurd (by assumption) hc | exact absurd rfl hc) | skip) | (refine X.neL ?_ ?_ <;> intro hc <;> first | (exfalso; first | exact absurd hc (by assumption) | exact absurd (by assumption) hc | exact absurd rfl hc) | skip) | refine Z H ?_ | (refine Zc ?_ ?_ <;> intro hc <;> first | (exfalso; omega) | skip) | (refine Y ?_; try change C _ _ _ _ _ _) | (refine Zs H ?_; clear H; (try clear w); intro w H) | (refine Zn H ?_; clear H; (try clear w); intro _ w H) | (refine Ze H ?_; clear H; (try clear w); intro gv w H))
      exact ⟨by (repeat (first | exact Agr.refl | exact Agr.hav | refine Agr.upd rfl ?_ | refine Agr.in rfl ?_)), ⟨true, rfl, .inl ⟨rfl, path_out hct (.inr (by omega))⟩⟩, H⟩
    obtain ⟨i, rfl⟩ : ∃ i : Nat, n = i := ⟨n.toNat, by omega⟩
    have hi8 : i < 8 := by omega
    have c0 := rcell hm8 hi8 0 _ rfl
    have hki := hD.kind hi8
    by_cases h3 : (rn m i).kind = 0
    · repeat' (first | (refine K.iaA (i := i) rfl rfl rfl rfl rfl hi8 ?_) | (refine X.lenL ?_) | (refine X.lv H ?_) | (refine X.lp H ?_) | (refine X.ldT H ?_) | (refine X.stT H ?_; clear H; (try clear w); intro w H) | (refine X.ldM H ?_) | (refine X.stR H ?_; clear H; (try clear w); intro w H) | (refine X.str H ?_) | (refine X.eqL ?_ ?_ <;> intro hc <;> first | (exfalso; first | exact absurd hc (by assumption) | exact absurd (by assumption) hc | exact absurd rfl hc) | skip) | (refine X.neL ?_ ?_ <;> intro hc <;> first | (exfalso; first | exact absurd hc (by assumption) | exact absurd (by assumption) hc | exact absurd rfl hc) | skip) | refine Z H ?_ | (refine Zc ?_ ?_ <;> intro hc <;> first | (exfalso; omega) | skip) | (refine Y ?_; try change C _ _ _ _ _ _) | (refine Zs H ?_; clear H; (try clear w); intro w H) | (refine Zn H ?_; clear H; (try clear w); intro _ w H) | (refine Ze H ?_; clear H; (try clear w); intro gv w H))
      exact ⟨by (repeat (first | exact Agr.refl | exact Agr.hav | refine Agr.upd rfl ?_ | refine Agr.in rfl ?_)), ⟨true, rfl, .inl ⟨rfl, path_free hct hi8 (by omega)⟩⟩, H⟩
    · repeat' (first | (refine K.iaA (i := i) rfl rfl rfl rfl rfl hi8 ?_) | (refine X.lenL ?_) | (refine X.lv H ?_) | (refine X.lp H ?_) | (refine X.ldT H ?_) | (refine X.stT H ?_; clear H; (try clear w); intro w H) | (refine X.ldM H ?_) | (refine X.stR H ?_; clear H; (try clear w); intro w H) | (refine X.str H ?_) | (refine X.eqL ?_ ?_ <;> intro hc <;> first | (exfalso; first | exact absurd hc (by assumption) | exact absurd (by assumption) hc | exact absurd rfl hc) | skip) | (refine X.neL ?_ ?_ <;> intro hc <;> first | (exfalso; first | exact absurd hc (by assumption) | exact absurd (by assumption) hc | exact absurd rfl hc) | skip) | refine Z H ?_ | (refine Zc ?_ ?_ <;> intro hc <;> first | (exfalso; omega) | skip) | (refine Y ?_; try change C _ _ _ _ _ _) | (refine Zs H ?_; clear H; (try clear w); intro w H) | (refine Zn H ?_; clear H; (try clear w); intro _ w H) | (refine Ze H ?_; clear H; (try clear w); intro gv w H))
      exact ⟨by (repeat (first | exact Agr.refl | exact Agr.hav | refine Agr.upd rfl ?_ | refine Agr.in rfl ?_)), ⟨false, rfl, .inr ⟨rfl, i, rfl, hi8, by omega, path_full hct hi8 (by omega)⟩⟩, H⟩
  clear H
  rintro vs hv3 w ⟨b, rfl, hb⟩ H
  repeat' (first | (refine X.lenL ?_) | (refine X.lv H ?_) | (refine X.lp H ?_) | (refine X.ldT H ?_) | (refine X.stT H ?_; clear H; (try clear w); intro w H) | (refine X.ldM H ?_) | (refine X.stR H ?_; clear H; (try clear w); intro w H) | (refine X.str H ?_) | (refine X.eqL ?_ ?_ <;> intro hc <;> first | (exfalso; first | exact absurd hc (by assumption) | exact absurd (by assumption) hc | exact absurd rfl hc) | skip) | (refine X.neL ?_ ?_ <;> intro hc <;> first | (exfalso; first | exact absurd hc (by assumption) | exact absurd (by assumption) hc | exact absurd rfl hc) | skip) | ((fail_if_success (with_reducible show C _ _ _ (Code.seq (Code.region 20 _ _) _) _ _)); refine Z H ?_) | (refine Zc ?_ ?_ <;> intro hc <;> first | (exfalso; omega) | skip) | (refine Y ?_; try change C _ _ _ _ _ _) | (refine Zs H ?_; clear H; (try clear w); intro w H) | (refine Zn H ?_; clear H; (try clear w); intro _ w H) | (refine Ze H ?_; clear H; (try clear w); intro gv w H))
  refine C.cutH H [26, 137, 138, 139, 140, 141, 142, 143, 144, 145, 146, 147, 148, 149, 150, 151, 152, 153, 154, 155, 156, 157, 158, 159, 160, 161] [26] rfl (fun vs => vs = [.bool true]) ?_ ?_
  · rcases hb with ⟨rfl, hpm⟩ | ⟨rfl, i, rfl, hi8, hk, hpm⟩
    · rw [hpm]
      repeat' (first | (refine X.lenL ?_) | (refine X.lv H ?_) | (refine X.lp H ?_) | (refine X.ldT H ?_) | (refine X.stT H ?_; clear H; (try clear w); intro w H) | (refine X.ldM H ?_) | (refine X.stR H ?_; clear H; (try clear w); intro w H) | (refine X.str H ?_) | (refine X.eqL ?_ ?_ <;> intro hc <;> first | (exfalso; first | exact absurd hc (by assumption) | exact absurd (by assumption) hc | exact absurd rfl hc) | skip) | (refine X.neL ?_ ?_ <;> intro hc <;> first | (exfalso; first | exact absurd hc (by assumption) | exact absurd (by assumption) hc | exact absurd rfl hc) | skip) | refine Z H ?_ | (refine Zc ?_ ?_ <;> intro hc <;> first | (exfalso; omega) | skip) | (refine Y ?_; try change C _ _ _ _ _ _) | (refine Zs H ?_; clear H; (try clear w); intro w H) | (refine Zn H ?_; clear H; (try clear w); intro _ w H) | (refine Ze H ?_; clear H; (try clear w); intro gv w H))
      exact ⟨by (repeat (first | exact Agr.refl | exact Agr.hav | refine Agr.upd rfl ?_ | refine Agr.in rfl ?_)), rfl, H⟩
    · rw [hpm]
      have c1 := rcell hm8 hi8 1 _ rfl
      rw [hD.path hi8 hk] at c1
      repeat' (first | (refine K.iaA (i := i) rfl rfl rfl rfl rfl hi8 ?_) | (refine X.lenL ?_) | (refine X.lv H ?_) | (refine X.lp H ?_) | (refine X.ldT H ?_) | (refine X.stT H ?_; clear H; (try clear w); intro w H) | (refine X.ldM H ?_) | (refine X.stR H ?_; clear H; (try clear w); intro w H) | (refine X.str H ?_) | (refine X.eqL ?_ ?_ <;> intro hc <;> first | (exfalso; first | exact absurd hc (by assumption) | exact absurd (by assumption) hc | exact absurd rfl hc) | skip) | (refine X.neL ?_ ?_ <;> intro hc <;> first | (exfalso; first | exact absurd hc (by assumption) | exact absurd (by assumption) hc | exact absurd rfl hc) | skip) | refine Z H ?_ | (refine Zc ?_ ?_ <;> intro hc <;> first | (exfalso; omega) | skip) | (refine Y ?_; try change C _ _ _ _ _ _) | (refine Zs H ?_; clear H; (try clear w); intro w H) | (refine Zn H ?_; clear H; (try clear w); intro _ w H) | (refine Ze H ?_; clear H; (try clear w); intro gv w H))
      exact ⟨by (repeat (first | exact Agr.refl | exact Agr.hav | refine Agr.upd rfl ?_ | refine Agr.in rfl ?_)), rfl, H⟩
  clear H hb
  rintro vs hv4 w rfl H
  repeat' (first | (refine X.lenL ?_) | (refine X.lv H ?_) | (refine X.lp H ?_) | (refine X.ldT H ?_) | (refine X.stT H ?_; clear H; (try clear w); intro w H) | (refine X.ldM H ?_) | (refine X.stR H ?_; clear H; (try clear w); intro w H) | (refine X.str H ?_) | (refine X.eqL ?_ ?_ <;> intro hc <;> first | (exfalso; first | exact absurd hc (by assumption) | exact absurd (by assumption) hc | exact absurd rfl hc) | skip) | (refine X.neL ?_ ?_ <;> intro hc <;> first | (exfalso; first | exact absurd hc (by assumption) | exact absurd (by assumption) hc | exact absurd rfl hc) | skip) | refine Z H ?_ | (refine Zc ?_ ?_ <;> intro hc <;> first | (exfalso; omega) | skip) | (refine Y ?_; try change C _ _ _ _ _ _) | (refine Zs H ?_; clear H; (try clear w); intro w H) | (refine Zn H ?_; clear H; (try clear w); intro _ w H) | (refine Ze H ?_; clear H; (try clear w); intro gv w H))
  refine C.drawn5 [0, 1, 2, 3, 4, 5, 6, 7, 8, 9, 10, 11, 12, 13, 15, 14, 16, 17, 18, 19, 20, 21, 22] [0, 4, 0, 0, 0, 0, 0, 0, 0, 0, 0, 0, 0, 4, 1, 2, 3, 0, 0, 0, 3, 0, 0] [16, 1, 4] [0, 1, 0, 7, 15, 31, 31, 127, 255, 511, 1023, 2047, 4095, 8191, 16383, 8191, 65535, 131071, 262143, 524287, 1048575, 2097151, 4194303] (by kernel_rfl) ?_; replace H := H.drew; simp only [Reg.pick, List.filterMap_cons, List.filterMap_nil, List.getElem?_toArray, List.getElem?_cons_zero, List.getElem?_cons_succ, segN, List.take_succ_cons, List.take_zero, List.drop_succ_cons, List.drop_zero]
  repeat' (first | (refine X.lenL ?_) | (refine X.lv H ?_) | (refine X.lp H ?_) | (refine X.ldT H ?_) | (refine X.stT H ?_; clear H; (try clear w); intro w H) | (refine X.ldM H ?_) | (refine X.stR H ?_; clear H; (try clear w); intro w H) | (refine X.str H ?_) | (refine X.eqL ?_ ?_ <;> intro hc <;> first | (exfalso; first | exact absurd hc (by assumption) | exact absurd (by assumption) hc | exact absurd rfl hc) | skip) | (refine X.neL ?_ ?_ <;> intro hc <;> first | (exfalso; first | exact absurd hc (by assumption) | exact absurd (by assumption) hc | exact absurd rfl hc) | skip) | refine Z H ?_ | (refine Zc ?_ ?_ <;> intro hc <;> first | (exfalso; omega) | skip) | (refine Y ?_; try change C _ _ _ _ _ _) | (refine Zs H ?_; clear H; (try clear w); intro w H) | (refine Zn H ?_; clear H; (try clear w); intro _ w H) | (refine Ze H ?_; clear H; (try clear w); intro gv w H))
  have hU := Used_e H ht
  rw [hus] at hU
  (refine X.call (hU) ?_; (try clear H); rintro _ w ⟨rfl, ho, H⟩; refine ⟨_, rfl, ?_⟩); refine L.nil ?_; refine ⟨rfl, rfl, (by first | exact fun h => Bool.noConfusion (show false = true from h) | exact fun _ => ext_same | exact fun _ => ext_only (by assumption)), ?_⟩
  clear ho hU
  repeat' (first | (refine X.lenL ?_) | (refine X.lv H ?_) | (refine X.lp H ?_) | (refine X.ldT H ?_) | (refine X.stT H ?_; clear H; (try clear w); intro w H) | (refine X.ldM H ?_) | (refine X.stR H ?_; clear H; (try clear w); intro w H) | (refine X.str H ?_) | (refine X.eqL ?_ ?_ <;> intro hc <;> first | (exfalso; first | exact absurd hc (by assumption) | exact absurd (by assumption) hc | exact absurd rfl hc) | skip) | (refine X.neL ?_ ?_ <;> intro hc <;> first | (exfalso; first | exact absurd hc (by assumption) | exact absurd (by assumption) hc | exact absurd rfl hc) | skip) | refine Z H ?_ | (refine Zc ?_ ?_ <;> intro hc <;> first | (exfalso; omega) | skip) | (refine Y ?_; try change C _ _ _ _ _ _) | (refine Zs H ?_; clear H; (try clear w); intro w H) | (refine Zn H ?_; clear H; (try clear w); intro _ w H) | (refine Ze H ?_; clear H; (try clear w); intro gv w H))
  (refine X.call (UsedX_e H hD ht) ?_; (try clear H); rintro _ w ⟨rfl, ho, H⟩; refine ⟨_, rfl, ?_⟩); refine L.nil ?_; refine ⟨rfl, rfl, (by first | exact fun h => Bool.noConfusion (show false = true from h) | exact fun _ => ext_same | exact fun _ => ext_only (by assumption)), ?_⟩
  clear ho
  repeat' (first | (refine X.lenL ?_) | (refine X.lv H ?_) | (refine X.lp H ?_) | (refine X.ldT H ?_) | (refine X.stT H ?_; clear H; (try clear w); intro w H) | (refine X.ldM H ?_) | (refine X.stR H ?_; clear H; (try clear w); intro w H) | (refine X.str H ?_) | (refine X.eqL ?_ ?_ <;> intro hc <;> first | (exfalso; first | exact absurd hc (by assumption) | exact absurd (by assumption) hc | exact absurd rfl hc) | skip) | (refine X.neL ?_ ?_ <;> intro hc <;> first | (exfalso; first | exact absurd hc (by assumption) | exact absurd (by assumption) hc | exact absurd rfl hc) | skip) | refine Z H ?_ | (refine Zc ?_ ?_ <;> intro hc <;> first | (exfalso; omega) | skip) | (refine Y ?_; try change C _ _ _ _ _ _) | (refine Zs H ?_; clear H; (try clear w); intro w H) | (refine Zn H ?_; clear H; (try clear w); intro _ w H) | (refine Ze H ?_; clear H; (try clear w); intro gv w H))
  (refine X.call (awake17 H) ?_; (try clear H); rintro _ w ⟨s5, rfl, hs5, H⟩; refine ⟨_, rfl, ?_⟩); refine L.nil ?_; refine ⟨rfl, rfl, (by first | exact fun h => Bool.noConfusion (show false = true from h) | exact fun _ => ext_same | exact fun _ => ext_only (by assumption)), ?_⟩
  repeat' (first | (refine X.lenL ?_) | (refine X.lv H ?_) | (refine X.lp H ?_) | (refine X.ldT H ?_) | (refine X.stT H ?_; clear H; (try clear w); intro w H) | (refine X.ldM H ?_) | (refine X.stR H ?_; clear H; (try clear w); intro w H) | (refine X.str H ?_) | (refine X.eqL ?_ ?_ <;> intro hc <;> first | (exfalso; first | exact absurd hc (by assumption) | exact absurd (by assumption) hc | exact absurd rfl hc) | skip) | (refine X.neL ?_ ?_ <;> intro hc <;> first | (exfalso; first | exact absurd hc (by assumption) | exact absurd (by assumption) hc | exact absurd rfl hc) | skip) | refine Z H ?_ | (refine Zc ?_ ?_ <;> intro hc <;> first | (exfalso; omega) | skip) | (refine Y ?_; try change C _ _ _ _ _ _) | (refine Zs H ?_; clear H; (try clear w); intro w H) | (refine Zn H ?_; clear H; (try clear w); intro _ w H) | (refine Ze H ?_; clear H; (try clear w); intro gv w H))
  exact ⟨_, resT rfl, rfl, H.done ((((hs1.trans hs2).trans hs3).trans hs4).trans hs5)⟩
end
open Go.ChangeShapes Go.WideShapes Go.ChangeAt
set_option maxRecDepth 100000 in
theorem look_of {w : World} (cs : List Value) (hl : cs.length = Try.prog.cellsOf 61) (h : Rdg Try.prog w 61 cs) : ∃ (l : List OpM) (p : Str) (a n : Int) (va : Option Addr) (vc : Nat), cs = [.slice va l.length vc, .string ⟨p.toArray⟩, .int .i64 a, .int .i64 n] ∧ SlS (startRo w) (.slice va l.length vc) 6 l.length (l.flatMap OpM.cells) ∧ (∀ a ∈ l, OpOk (startRo w) a) ∧ p.length ≤ 140737488355328 := by
  have hl4 : cs.length = 4 := hl.trans (by kernel_rfl)
  match cs, hl4 with
  | [c0, c1, c2, c3], _ =>
    have f0 : Rdg Try.prog w 23 [c0] := rdg_field Try.underlying61 h 0 23 0 1 rfl (by kernel_rfl)
    have f1 : Rdg Try.prog w 9 [c1] := rdg_field Try.underlying61 h 1 9 1 1 rfl (by kernel_rfl)
    have f2 : Rdg Try.prog w 3 [c2] := rdg_field Try.underlying61 h 2 3 2 1 rfl (by kernel_rfl)
    have f3 : Rdg Try.prog w 3 [c3] := rdg_field Try.underlying61 h 3 3 3 1 rfl (by kernel_rfl)
    obtain ⟨l, h1, h2⟩ := ops_of f0
    obtain ⟨va, vc, hv, _⟩ := formS h1
    obtain ⟨s1, e1, w1⟩ := rdg_str Try.underlying9 f1
    obtain ⟨n2, e2, _⟩ := rdg_int Try.underlying3 f2
    obtain ⟨n3, e3, _⟩ := rdg_int Try.underlying3 f3
    cases e1; cases e2; cases e3
    subst hv
    exact ⟨l, s1, n2, n3, va, vc, rfl, h1, h2, Nat.le_trans w1 reach_le2⟩
theorem looks_rdg {w : World} {cs : List Value} (hsz : cs.length = Try.prog.cellsOf 61) (g : Rdg Try.prog w 61 cs) : Calls Try.prog 7 #[.agg cs.toArray] w fun e w' => e = .returned (.bool true) ∧ Only [] w w' := by
  obtain ⟨l, p, a, n, va, vc, rfl, h1, h2, h3⟩ := look_of cs hsz g
  exact (looks_walk (Holds.start w) h1 h2 h3).mono fun e w' h => ⟨h.1, h.2.only⟩
end Go.Proofs.Ytlchnabnhimlcaa

/- nacelleref17, walked exactly: Make, Remove, Cut. nacelleref17, walked weakly: Move. -/
import Derived.Test.YtlchnabnhimlcaaTlLf
set_option linter.unusedSimpArgs false
set_option linter.unusedVariables false
namespace Go.Proofs.Ytlchnabnhimlcaa
open Go Go.RowKit Go.Own
theorem rn_set {m : List RN} (hm : m.length = 8) {i : Nat} (hi : i < 8) (x : RN) (j : Nat) : rn (m.set i x) j = if i = j then x else rn m j := by
  unfold rn
  rw [List.getElem?_set]
  split
  · rw [if_pos (by omega)]; rfl
  · rfl
theorem Doc.set {s : Ro} {m : List RN} {t t' : TR} (h : Doc s m t) {i : Nat} (hi : i < 8) {x : RN} {v : VN} (hv : ∀ j, j < 8 → nodeV t' j = if i = j then v else nodeV t j) (hx : RX s x v) : Doc s (m.set i x) t' := ⟨by rw [List.length_set, h.l8], fun j hj => by
  rw [rn_set h.l8 hi, hv j hj]
  split
  · exact hx
  · exact h.nd j hj⟩
theorem RX.nil {s : Ro} {k : Int} {q : Str} : RX s ⟨k, q, [], none, 0, 0⟩ ⟨k, q, [], []⟩ := ⟨rfl, rfl, rfl, rfl, SlS.nil s 1⟩
theorem make_doc {s : Ro} {m : List RN} {t : TR} (hD : Doc s m t) (hW : WF t) {p : Str} {k : Int} {i d : Nat} (hin : isInnerM p = true) (hk : k = 1 ∨ k = 2) (hd : findM t (splitM p).1 = ((d : Int), 0)) (hkd : (t.n d).kind = 1) (hch : childM t (d : Int) (splitM p).2 < 0) (hi1 : 1 ≤ i) (hi : i < 8) (hz : (t.n i).kind = 0) : Doc s (m.set i ⟨k, p, [], none, 0, 0⟩) (t.set i ⟨k, (d : Int), (splitM p).2, 0, 0, 0⟩) := by
  have hd8 := (find_lt hW hd).1
  have h' := wf_make hW hi1 hi (kind_of_good hW hi hz).2 hk hd8 hkd (split_names hin).2.1 hch
  exact hD.set hi (make_V hW hi1 hi hz (by omega) hd8 (by omega) (inner_join hW hin hd) h') RX.nil
theorem not_inner {p : Str} (h : isPathM p = false) : isInnerM p = false := by unfold isInnerM; rw [h, Bool.and_false]
theorem not_inner_root {p : Str} (h : p = [47]) : isInnerM p = false := by rw [h]; rfl
section
variable {w : World} {s : Ro} {R : List Asn} {p q : Str} {m : List RN} {t : TR}
set_option maxRecDepth 100000 in
set_option maxHeartbeats 1000000 in
theorem Make_x {k : Int} (H : Holds s w R) (hD : Doc s m t) (hW : WF t) (hc : checkM t = true) (hl : p.length ≤ 140737488355328) : Calls Try.prog 31 #[.agg (rcells m).toArray, .string ⟨p.toArray⟩, .int .i64 k] w fun e w' => ∃ m' : List RN, e = .returned (.tuple #[.agg (rcells m').toArray, .int .i64 (makeM t p k).2]) ∧ m'.length = 8 ∧ ((makeM t p k).2 = 0 → Doc s m' (makeM t p k).1) ∧ Holds s w' R := by
  have hm8 := hD.l8
  have hm32 := rcells_len hm8
  have hz8 : (List.replicate 8 RN.zero).length = 8 := rfl
  have hm0 : makeM t p k = makeM t p k := rfl
  conv at hm0 => rhs; unfold makeM
  rw [if_neg (by rw [hc]; decide)] at hm0
  refine enter Try.func31 rfl Try.ntmps31 rfl ?_
  repeat' (first | (refine X.lenL ?_) | (refine X.lv H ?_) | (refine X.lw H ?_) | (refine X.lp H ?_) | (refine X.stR H ?_; clear H; (try clear w); intro w H) | (refine X.eqL ?_ ?_ <;> intro hc <;> first | (exfalso; first | exact absurd hc (by assumption) | exact absurd (by assumption) hc) | skip) | ((fail_if_success (with_reducible show C _ _ _ (Code.seq (Code.seq (Code.region 1 _ _) _) _) _ _)); refine Z H ?_) | (refine Zc ?_ ?_ <;> intro hc <;> first | (exfalso; omega) | skip) | (refine Y ?_; try change C _ _ _ _ _ _) | (refine Zs H ?_; clear H; (try clear w); intro w H) | (refine Zn H ?_; clear H; (try clear w); intro _ w H) | (refine Ze H ?_; clear H; (try clear w); intro gv w H))
  refine C.cutH H [7, 11, 12, 13, 14, 15, 16, 17, 18, 19, 20, 21, 22, 23, 24, 25, 26] [] rfl (fun vs => isInnerM p = true ∧ 1 ≤ k ∧ k ≤ 2) ?_ ?_
  · repeat' (first | (refine X.lenL ?_) | (refine X.lv H ?_) | (refine X.lw H ?_) | (refine X.lp H ?_) | (refine X.stR H ?_; clear H; (try clear w); intro w H) | (refine X.eqL ?_ ?_ <;> intro hc <;> first | (exfalso; first | exact absurd hc (by assumption) | exact absurd (by assumption) hc) | skip) | refine Z H ?_ | (refine Zc ?_ ?_ <;> intro hc <;> first | (exfalso; omega) | skip) | (refine Y ?_; try change C _ _ _ _ _ _) | (refine Zs H ?_; clear H; (try clear w); intro w H) | (refine Zn H ?_; clear H; (try clear w); intro _ w H) | (refine Ze H ?_; clear H; (try clear w); intro gv w H))
    (refine X.call (IsPath_x (p := p) H hl) ?_; (try clear H); rintro _ w ⟨rfl, H⟩; refine ⟨_, rfl, ?_⟩)
    cases hb : isPathM p
    · rw [if_pos (.inr (not_inner hb))] at hm0
      repeat' (first | (refine X.lenL ?_) | (refine X.lv H ?_) | (refine X.lw H ?_) | (refine X.lp H ?_) | (refine X.stR H ?_; clear H; (try clear w); intro w H) | (refine X.eqL ?_ ?_ <;> intro hc <;> first | (exfalso; first | exact absurd hc (by assumption) | exact absurd (by assumption) hc) | skip) | refine Z H ?_ | (refine Zc ?_ ?_ <;> intro hc <;> first | (exfalso; omega) | skip) | (refine Y ?_; try change C _ _ _ _ _ _) | (refine Zs H ?_; clear H; (try clear w); intro w H) | (refine Zn H ?_; clear H; (try clear w); intro _ w H) | (refine Ze H ?_; clear H; (try clear w); intro gv w H))
      exact ⟨_, resVT (cs := rcells m) H rfl rfl inferInstance hm32, m, by rw [hm0]; rfl, hm8, (fun h => by rw [hm0] at h; cases h), H.tail.tail⟩
    · by_cases hroot : p = [47]
      · rw [if_pos (.inr (not_inner_root hroot))] at hm0
        repeat' (first | (refine X.eqL (a := p) (b := [47]) ?_ ?_ <;> intro hc <;> first | (exfalso; exact absurd hroot hc) | skip) | (refine X.lenL ?_) | (refine X.lv H ?_) | (refine X.lw H ?_) | (refine X.lp H ?_) | (refine X.stR H ?_; clear H; (try clear w); intro w H) | (refine X.eqL ?_ ?_ <;> intro hc <;> first | (exfalso; first | exact absurd hc (by assumption) | exact absurd (by assumption) hc) | skip) | refine Z H ?_ | (refine Zc ?_ ?_ <;> intro hc <;> first | (exfalso; omega) | skip) | (refine Y ?_; try change C _ _ _ _ _ _) | (refine Zs H ?_; clear H; (try clear w); intro w H) | (refine Zn H ?_; clear H; (try clear w); intro _ w H) | (refine Ze H ?_; clear H; (try clear w); intro gv w H))
        exact ⟨_, resVT (cs := rcells m) H rfl rfl inferInstance hm32, m, by rw [hm0]; rfl, hm8, (fun h => by rw [hm0] at h; cases h), H.tail.tail⟩
      · by_cases hk1 : k < 1
        · rw [if_pos (.inl (by omega))] at hm0
          repeat' (first | (refine X.eqL (a := p) (b := [47]) ?_ ?_ <;> intro hc <;> first | (exfalso; exact absurd hc hroot) | skip) | (refine X.lenL ?_) | (refine X.lv H ?_) | (refine X.lw H ?_) | (refine X.lp H ?_) | (refine X.stR H ?_; clear H; (try clear w); intro w H) | (refine X.eqL ?_ ?_ <;> intro hc <;> first | (exfalso; first | exact absurd hc (by assumption) | exact absurd (by assumption) hc) | skip) | refine Z H ?_ | (refine Zc ?_ ?_ <;> intro hc <;> first | (exfalso; omega) | skip) | (refine Y ?_; try change C _ _ _ _ _ _) | (refine Zs H ?_; clear H; (try clear w); intro w H) | (refine Zn H ?_; clear H; (try clear w); intro _ w H) | (refine Ze H ?_; clear H; (try clear w); intro gv w H))
          exact ⟨_, resVT (cs := rcells m) H rfl rfl inferInstance hm32, m, by rw [hm0]; rfl, hm8, (fun h => by rw [hm0] at h; cases h), H.tail.tail⟩
        · by_cases hk2 : 2 < k
          · rw [if_pos (.inl (by omega))] at hm0
            repeat' (first | (refine X.eqL (a := p) (b := [47]) ?_ ?_ <;> intro hc <;> first | (exfalso; exact absurd hc hroot) | skip) | (refine X.lenL ?_) | (refine X.lv H ?_) | (refine X.lw H ?_) | (refine X.lp H ?_) | (refine X.stR H ?_; clear H; (try clear w); intro w H) | (refine X.eqL ?_ ?_ <;> intro hc <;> first | (exfalso; first | exact absurd hc (by assumption) | exact absurd (by assumption) hc) | skip) | refine Z H ?_ | (refine Zc ?_ ?_ <;> intro hc <;> first | (exfalso; omega) | skip) | (refine Y ?_; try change C _ _ _ _ _ _) | (refine Zs H ?_; clear H; (try clear w); intro w H) | (refine Zn H ?_; clear H; (try clear w); intro _ w H) | (refine Ze H ?_; clear H; (try clear w); intro gv w H))
            exact ⟨_, resVT (cs := rcells m) H rfl rfl inferInstance hm32, m, by rw [hm0]; rfl, hm8, (fun h => by rw [hm0] at h; cases h), H.tail.tail⟩
          · repeat' (first | (refine X.eqL (a := p) (b := [47]) ?_ ?_ <;> intro hc <;> first | (exfalso; exact absurd hc hroot) | skip) | (refine X.lenL ?_) | (refine X.lv H ?_) | (refine X.lw H ?_) | (refine X.lp H ?_) | (refine X.stR H ?_; clear H; (try clear w); intro w H) | (refine X.eqL ?_ ?_ <;> intro hc <;> first | (exfalso; first | exact absurd hc (by assumption) | exact absurd (by assumption) hc) | skip) | refine Z H ?_ | (refine Zc ?_ ?_ <;> intro hc <;> first | (exfalso; omega) | skip) | (refine Y ?_; try change C _ _ _ _ _ _) | (refine Zs H ?_; clear H; (try clear w); intro w H) | (refine Zn H ?_; clear H; (try clear w); intro _ w H) | (refine Ze H ?_; clear H; (try clear w); intro gv w H))
            exact ⟨by (repeat (first | exact Agr.refl | exact Agr.hav | refine Agr.upd rfl ?_ | refine Agr.in rfl ?_)), ⟨inner_of hb hroot, by omega, by omega⟩, H⟩
  clear H
  rintro vs hv w ⟨hin, hk1, hk2⟩ H
  rw [if_neg (fun h => h.elim (fun h => by omega) (fun h => by rw [hin] at h; cases h))] at hm0
  repeat' (first | (refine X.lenL ?_) | (refine X.lv H ?_) | (refine X.lw H ?_) | (refine X.lp H ?_) | (refine X.stR H ?_; clear H; (try clear w); intro w H) | (refine X.eqL ?_ ?_ <;> intro hc <;> first | (exfalso; first | exact absurd hc (by assumption) | exact absurd (by assumption) hc) | skip) | refine Z H ?_ | (refine Zc ?_ ?_ <;> intro hc <;> first | (exfalso; omega) | skip) | (refine Y ?_; try change C _ _ _ _ _ _) | (refine Zs H ?_; clear H; (try clear w); intro w H) | (refine Zn H ?_; clear H; (try clear w); intro _ w H) | (refine Ze H ?_; clear H; (try clear w); intro gv w H))
  (refine X.call (dir_x (p := p) H hD hW hl hin) ?_; (try clear H); rintro _ w ⟨rfl, H⟩; refine ⟨_, rfl, ?_⟩)
  by_cases her : (kindOfM t (splitM p).1 1).2 = 0
  rotate_left
  · rw [if_pos her] at hm0
    repeat' (first | (refine X.lenL ?_) | (refine X.lv H ?_) | (refine X.lw H ?_) | (refine X.lp H ?_) | (refine X.stR H ?_; clear H; (try clear w); intro w H) | (refine X.eqL ?_ ?_ <;> intro hc <;> first | (exfalso; first | exact absurd hc (by assumption) | exact absurd (by assumption) hc) | skip) | refine Z H ?_ | (refine Zc ?_ ?_ <;> intro hc <;> first | (exfalso; omega) | skip) | (refine Y ?_; try change C _ _ _ _ _ _) | (refine Zs H ?_; clear H; (try clear w); intro w H) | (refine Zn H ?_; clear H; (try clear w); intro _ w H) | (refine Ze H ?_; clear H; (try clear w); intro gv w H))
    exact ⟨_, resVT (cs := rcells m) H rfl rfl inferInstance hm32, m, by rw [hm0]; rfl, hm8, (fun h => by rw [hm0] at h; exact absurd h her), H.tail.tail⟩
  rw [if_neg (by simpa using her)] at hm0
  obtain ⟨d, hd8, hkd, hdk, hfd⟩ := kindOf_err (by simpa using her)
  have hat := (hD.at p).trans (at_child hW hin hfd)
  rw [hkd] at hm0 her ⊢
  repeat' (first | (refine X.lenL ?_) | (refine X.lv H ?_) | (refine X.lw H ?_) | (refine X.lp H ?_) | (refine X.stR H ?_; clear H; (try clear w); intro w H) | (refine X.eqL ?_ ?_ <;> intro hc <;> first | (exfalso; first | exact absurd hc (by assumption) | exact absurd (by assumption) hc) | skip) | refine Z H ?_ | (refine Zc ?_ ?_ <;> intro hc <;> first | (exfalso; omega) | skip) | (refine Y ?_; try change C _ _ _ _ _ _) | (refine Zs H ?_; clear H; (try clear w); intro w H) | (refine Zn H ?_; clear H; (try clear w); intro _ w H) | (refine Ze H ?_; clear H; (try clear w); intro gv w H))
  (refine X.call (at_w (p := p) H hm8) ?_; (try clear H); rintro _ w ⟨rfl, H⟩; refine ⟨_, rfl, ?_⟩)
  by_cases hge : 0 ≤ atM m p
  · rw [if_pos (by rw [← hat]; exact hge)] at hm0
    repeat' (first | (refine X.lenL ?_) | (refine X.lv H ?_) | (refine X.lw H ?_) | (refine X.lp H ?_) | (refine X.stR H ?_; clear H; (try clear w); intro w H) | (refine X.eqL ?_ ?_ <;> intro hc <;> first | (exfalso; first | exact absurd hc (by assumption) | exact absurd (by assumption) hc) | skip) | refine Z H ?_ | (refine Zc ?_ ?_ <;> intro hc <;> first | (exfalso; omega) | skip) | (refine Y ?_; try change C _ _ _ _ _ _) | (refine Zs H ?_; clear H; (try clear w); intro w H) | (refine Zn H ?_; clear H; (try clear w); intro _ w H) | (refine Ze H ?_; clear H; (try clear w); intro gv w H))
    exact ⟨_, resVT (cs := rcells m) H rfl rfl inferInstance hm32, m, by rw [hm0]; rfl, hm8, (fun h => by rw [hm0] at h; cases h), H.tail.tail⟩
  rw [if_neg (by rw [← hat]; exact hge)] at hm0
  repeat' (first | (refine X.lenL ?_) | (refine X.lv H ?_) | (refine X.lw H ?_) | (refine X.lp H ?_) | (refine X.stR H ?_; clear H; (try clear w); intro w H) | (refine X.eqL ?_ ?_ <;> intro hc <;> first | (exfalso; first | exact absurd hc (by assumption) | exact absurd (by assumption) hc) | skip) | refine Z H ?_ | (refine Zc ?_ ?_ <;> intro hc <;> first | (exfalso; omega) | skip) | (refine Y ?_; try change C _ _ _ _ _ _) | (refine Zs H ?_; clear H; (try clear w); intro w H) | (refine Zn H ?_; clear H; (try clear w); intro _ w H) | (refine Ze H ?_; clear H; (try clear w); intro gv w H))
  refine C.loopH H [7, 10, 42, 43, 44, 45, 46, 47, 48, 49, 50, 51, 52, 53, 54, 55, 56] [10] rfl (fun f vs => ∃ i : Nat, f = 8 - i ∧ 1 ≤ i ∧ i ≤ 8 ∧ vs = [.int .i64 (i : Int)] ∧ freeFrom t (8 - i) i = freeFrom t 7 1) 7 ⟨1, rfl, by omega, by omega, rfl, rfl⟩ ?_
  clear H
  rintro f vs hv2 w ⟨i, rfl, hi1, hi, rfl, hr⟩ H
  by_cases hlt : i < 8
  rotate_left
  · obtain rfl : i = 8 := by omega
    rw [← hr] at hm0
    repeat' (first | (refine X.lenL ?_) | (refine X.lv H ?_) | (refine X.lw H ?_) | (refine X.lp H ?_) | (refine X.stR H ?_; clear H; (try clear w); intro w H) | (refine X.eqL ?_ ?_ <;> intro hc <;> first | (exfalso; first | exact absurd hc (by assumption) | exact absurd (by assumption) hc) | skip) | refine Z H ?_ | (refine Zc ?_ ?_ <;> intro hc <;> first | (exfalso; omega) | skip) | (refine Y ?_; try change C _ _ _ _ _ _) | (refine Zs H ?_; clear H; (try clear w); intro w H) | (refine Zn H ?_; clear H; (try clear w); intro _ w H) | (refine Ze H ?_; clear H; (try clear w); intro gv w H))
    exact ⟨_, resVT (cs := rcells m) H rfl rfl inferInstance hm32, m, by rw [hm0]; rfl, hm8, (fun h => by rw [hm0] at h; cases h), H.tail.tail⟩
  have c0 := rcell hm8 hlt 0 _ rfl
  have hki := hD.kind hlt
  rw [show 8 - i = (7 - i) + 1 by omega, freeFrom] at hr
  by_cases hk0 : (rn m i).kind = 0
  · rw [if_pos (by omega)] at hr
    rw [← hr] at hm0
    dsimp only at hm0
    have hdoc := make_doc hD hW hin (show k = 1 ∨ k = 2 by omega) hfd hdk (by rw [← hat]; omega) hi1 hlt (by omega)
    have hm2 := hdoc.l8
    repeat' (first | (refine K.iaA (i := i) rfl rfl rfl rfl rfl hlt ?_) | (refine K.build [(0, .int .i64 k), (1, .string ⟨p.toArray⟩)] _ (build_rn2 k p) rfl rfl rfl ?_) | (refine X.stRN (RN.cells ⟨k, p, [], none, 0, 0⟩) i 0 ⟨k, p, [], none, 0, 0⟩ hm8 hlt (Nat.le_refl 4) (by simp [putL, RN.cells]) rfl rfl H ?_; clear H; (try clear w); intro w H) | (refine X.lw H ?_ (hn := rcells_len hm2)) | (refine X.lenL ?_) | (refine X.lv H ?_) | (refine X.lw H ?_) | (refine X.lp H ?_) | (refine X.stR H ?_; clear H; (try clear w); intro w H) | (refine X.eqL ?_ ?_ <;> intro hc <;> first | (exfalso; first | exact absurd hc (by assumption) | exact absurd (by assumption) hc) | skip) | refine Z H ?_ | (refine Zc ?_ ?_ <;> intro hc <;> first | (exfalso; omega) | skip) | (refine Y ?_; try change C _ _ _ _ _ _) | (refine Zs H ?_; clear H; (try clear w); intro w H) | (refine Zn H ?_; clear H; (try clear w); intro _ w H) | (refine Ze H ?_; clear H; (try clear w); intro gv w H))
    exact ⟨_, resVT (cs := rcells (m.set i ⟨k, p, [], none, 0, 0⟩)) H rfl rfl inferInstance (rcells_len hm2), _, by rw [hm0]; rfl, hm2, fun _ => by rw [hm0]; exact hdoc, H.tail.tail⟩
  · rw [if_neg (by omega)] at hr
    repeat' (first | (refine K.iaA (i := i) rfl rfl rfl rfl rfl hlt ?_) | (refine X.lenL ?_) | (refine X.lv H ?_) | (refine X.lw H ?_) | (refine X.lp H ?_) | (refine X.stR H ?_; clear H; (try clear w); intro w H) | (refine X.eqL ?_ ?_ <;> intro hc <;> first | (exfalso; first | exact absurd hc (by assumption) | exact absurd (by assumption) hc) | skip) | refine Z H ?_ | (refine Zc ?_ ?_ <;> intro hc <;> first | (exfalso; omega) | skip) | (refine Y ?_; try change C _ _ _ _ _ _) | (refine Zs H ?_; clear H; (try clear w); intro w H) | (refine Zn H ?_; clear H; (try clear w); intro _ w H) | (refine Ze H ?_; clear H; (try clear w); intro gv w H))
    exact ⟨by (repeat (first | exact Agr.refl | exact Agr.hav | refine Agr.upd rfl ?_ | refine Agr.in rfl ?_)), 8 - (i + 1), by omega, ⟨i + 1, rfl, by omega, by omega, rfl, by rw [← hr]; congr 1; omega⟩, H⟩
set_option maxRecDepth 100000 in
set_option maxHeartbeats 1000000 in
theorem Remove_x (H : Holds s w R) (hD : Doc s m t) (hW : WF t) (hc : checkM t = true) (hl : p.length ≤ 140737488355328) : Calls Try.prog 32 #[.agg (rcells m).toArray, .string ⟨p.toArray⟩] w fun e w' => ∃ m' : List RN, e = .returned (.tuple #[.agg (rcells m').toArray, .int .i64 (removeM t p).2]) ∧ m'.length = 8 ∧ ((removeM t p).2 = 0 → Doc s m' (removeM t p).1) ∧ Holds s w' R := by
  have hm8 := hD.l8
  have hm32 := rcells_len hm8
  have hz8 : (List.replicate 8 RN.zero).length = 8 := rfl
  have hm0 : removeM t p = removeM t p := rfl
  conv at hm0 => rhs; unfold removeM
  rw [if_neg (by rw [hc]; decide)] at hm0
  refine enter Try.func32 rfl Try.ntmps32 rfl ?_
  repeat' (first | (refine X.lenL ?_) | (refine X.lv H ?_) | (refine X.lw H ?_) | (refine X.lp H ?_) | (refine X.stR H ?_; clear H; (try clear w); intro w H) | (refine X.eqL ?_ ?_ <;> intro hc <;> first | (exfalso; first | exact absurd hc (by assumption) | exact absurd (by assumption) hc) | skip) | refine Z H ?_ | (refine Zc ?_ ?_ <;> intro hc <;> first | (exfalso; omega) | skip) | (refine Y ?_; try change C _ _ _ _ _ _) | (refine Zs H ?_; clear H; (try clear w); intro w H) | (refine Zn H ?_; clear H; (try clear w); intro _ w H) | (refine Ze H ?_; clear H; (try clear w); intro gv w H))
  (refine X.call (IsPath_x (p := p) H hl) ?_; (try clear H); rintro _ w ⟨rfl, H⟩; refine ⟨_, rfl, ?_⟩)
  cases hb : isPathM p
  · rw [if_pos (not_inner hb)] at hm0
    repeat' (first | (refine X.lenL ?_) | (refine X.lv H ?_) | (refine X.lw H ?_) | (refine X.lp H ?_) | (refine X.stR H ?_; clear H; (try clear w); intro w H) | (refine X.eqL ?_ ?_ <;> intro hc <;> first | (exfalso; first | exact absurd hc (by assumption) | exact absurd (by assumption) hc) | skip) | refine Z H ?_ | (refine Zc ?_ ?_ <;> intro hc <;> first | (exfalso; omega) | skip) | (refine Y ?_; try change C _ _ _ _ _ _) | (refine Zs H ?_; clear H; (try clear w); intro w H) | (refine Zn H ?_; clear H; (try clear w); intro _ w H) | (refine Ze H ?_; clear H; (try clear w); intro gv w H))
    exact ⟨_, resVT (cs := rcells m) H rfl rfl inferInstance hm32, m, by rw [hm0]; rfl, hm8, (fun h => by rw [hm0] at h; cases h), H.tail.tail⟩
  by_cases hroot : p = [47]
  · rw [if_pos (not_inner_root hroot)] at hm0
    repeat' (first | (refine X.eqL (a := p) (b := [47]) ?_ ?_ <;> intro hc <;> first | (exfalso; exact absurd hroot hc) | skip) | (refine X.lenL ?_) | (refine X.lv H ?_) | (refine X.lw H ?_) | (refine X.lp H ?_) | (refine X.stR H ?_; clear H; (try clear w); intro w H) | (refine X.eqL ?_ ?_ <;> intro hc <;> first | (exfalso; first | exact absurd hc (by assumption) | exact absurd (by assumption) hc) | skip) | refine Z H ?_ | (refine Zc ?_ ?_ <;> intro hc <;> first | (exfalso; omega) | skip) | (refine Y ?_; try change C _ _ _ _ _ _) | (refine Zs H ?_; clear H; (try clear w); intro w H) | (refine Zn H ?_; clear H; (try clear w); intro _ w H) | (refine Ze H ?_; clear H; (try clear w); intro gv w H))
    exact ⟨_, resVT (cs := rcells m) H rfl rfl inferInstance hm32, m, by rw [hm0]; rfl, hm8, (fun h => by rw [hm0] at h; cases h), H.tail.tail⟩
  have hin := inner_of hb hroot
  rw [if_neg (by rw [hin]; decide)] at hm0
  repeat' (first | (refine X.eqL (a := p) (b := [47]) ?_ ?_ <;> intro hc <;> first | (exfalso; exact absurd hc hroot) | skip) | (refine X.lenL ?_) | (refine X.lv H ?_) | (refine X.lw H ?_) | (refine X.lp H ?_) | (refine X.stR H ?_; clear H; (try clear w); intro w H) | (refine X.eqL ?_ ?_ <;> intro hc <;> first | (exfalso; first | exact absurd hc (by assumption) | exact absurd (by assumption) hc) | skip) | refine Z H ?_ | (refine Zc ?_ ?_ <;> intro hc <;> first | (exfalso; omega) | skip) | (refine Y ?_; try change C _ _ _ _ _ _) | (refine Zs H ?_; clear H; (try clear w); intro w H) | (refine Zn H ?_; clear H; (try clear w); intro _ w H) | (refine Ze H ?_; clear H; (try clear w); intro gv w H))
  (refine X.call (Find_x (p := p) H hD hW hl) ?_; (try clear H); rintro _ w ⟨rfl, H⟩; refine ⟨_, rfl, ?_⟩)
  by_cases her : (findM t p).2 = 0
  rotate_left
  · rw [if_pos her] at hm0
    repeat' (first | (refine X.lenL ?_) | (refine X.lv H ?_) | (refine X.lw H ?_) | (refine X.lp H ?_) | (refine X.stR H ?_; clear H; (try clear w); intro w H) | (refine X.eqL ?_ ?_ <;> intro hc <;> first | (exfalso; first | exact absurd hc (by assumption) | exact absurd (by assumption) hc) | skip) | refine Z H ?_ | (refine Zc ?_ ?_ <;> intro hc <;> first | (exfalso; omega) | skip) | (refine Y ?_; try change C _ _ _ _ _ _) | (refine Zs H ?_; clear H; (try clear w); intro w H) | (refine Zn H ?_; clear H; (try clear w); intro _ w H) | (refine Ze H ?_; clear H; (try clear w); intro gv w H))
    exact ⟨_, resVT (cs := rcells m) H rfl rfl inferInstance hm32, m, by rw [hm0]; rfl, hm8, (fun h => by rw [hm0] at h; exact absurd h her), H.tail.tail⟩
  rw [if_neg (by simpa using her)] at hm0
  obtain ⟨a, ha, hka, hfa⟩ := find_nat hW her
  have ha1 := (find_inner hin hfa).1
  have hpa := find_full hW hfa
  rw [hfa] at hm0 her ⊢
  repeat' (first | (refine X.lenL ?_) | (refine X.lv H ?_) | (refine X.lw H ?_) | (refine X.lp H ?_) | (refine X.stR H ?_; clear H; (try clear w); intro w H) | (refine X.eqL ?_ ?_ <;> intro hc <;> first | (exfalso; first | exact absurd hc (by assumption) | exact absurd (by assumption) hc) | skip) | refine Z H ?_ | (refine Zc ?_ ?_ <;> intro hc <;> first | (exfalso; omega) | skip) | (refine Y ?_; try change C _ _ _ _ _ _) | (refine Zs H ?_; clear H; (try clear w); intro w H) | (refine Zn H ?_; clear H; (try clear w); intro _ w H) | (refine Ze H ?_; clear H; (try clear w); intro gv w H))
  refine C.loopH H [5, 8, 27, 28, 29, 30, 31, 32, 33, 34, 35, 36, 37, 38, 39, 40, 41, 42, 43, 44] [8] rfl (fun f vs => ∃ i : Nat, f = 8 - i ∧ i ≤ 8 ∧ vs = [.int .i64 (i : Int)] ∧ ∀ j, j < i → (t.n j).kind ≠ 0 → ¬ underP (full t j) p) 8 ⟨0, rfl, by omega, rfl, fun j h => absurd h (Nat.not_lt_zero _)⟩ ?_
  clear H
  rintro f vs hv2 w ⟨i, rfl, hi, rfl, hno⟩ H
  by_cases hlt : i < 8
  rotate_left
  · obtain rfl : i = 8 := by omega
    have hheld : heldFrom t (a : Int) 7 1 = false := by
      rw [Bool.eq_false_iff]
      intro h
      obtain ⟨j, hj, hkj, hb⟩ := (held_below hW ha (by omega)).1 h
      exact hno j hj hkj (by rw [← hpa]; exact (below_under hW ha (by omega) hka hj hkj).2 hb)
    rw [if_neg (by rw [hheld]; decide), Int.toNat_natCast] at hm0
    have hdoc : Doc s (m.set a RN.zero) ((emptyM t a).set a Nd.zero) := hD.set ha (remove_V hW ha1 ha (wf_remove hW ha1 ha hheld)) RX.nil
    have hm2 := hdoc.l8
    repeat' (first | (refine K.iaA (i := a) rfl rfl rfl rfl rfl ha ?_) | (refine K.build [] _ build_rn0 rfl rfl rfl ?_) | (refine X.stRN (RN.cells RN.zero) a 0 RN.zero hm8 ha (Nat.le_refl 4) (by simp [putL, RN.cells]) rfl rfl H ?_; clear H; (try clear w); intro w H) | (refine X.lw H ?_ (hn := rcells_len hm2)) | (refine X.lenL ?_) | (refine X.lv H ?_) | (refine X.lw H ?_) | (refine X.lp H ?_) | (refine X.stR H ?_; clear H; (try clear w); intro w H) | (refine X.eqL ?_ ?_ <;> intro hc <;> first | (exfalso; first | exact absurd hc (by assumption) | exact absurd (by assumption) hc) | skip) | refine Z H ?_ | (refine Zc ?_ ?_ <;> intro hc <;> first | (exfalso; omega) | skip) | (refine Y ?_; try change C _ _ _ _ _ _) | (refine Zs H ?_; clear H; (try clear w); intro w H) | (refine Zn H ?_; clear H; (try clear w); intro _ w H) | (refine Ze H ?_; clear H; (try clear w); intro gv w H))
    exact ⟨_, resVT (cs := rcells (m.set a RN.zero)) H rfl rfl inferInstance (rcells_len hm2), _, by rw [hm0]; rfl, hm2, fun _ => by rw [hm0]; exact hdoc, H.tail.tail⟩
  have c0 := rcell hm8 hlt 0 _ rfl
  have c1 := rcell hm8 hlt 1 _ rfl
  have hki := hD.kind hlt
  by_cases hk0 : (rn m i).kind = 0
  · repeat' (first | (refine K.iaA (i := i) rfl rfl rfl rfl rfl hlt ?_) | (refine X.lenL ?_) | (refine X.lv H ?_) | (refine X.lw H ?_) | (refine X.lp H ?_) | (refine X.stR H ?_; clear H; (try clear w); intro w H) | (refine X.eqL ?_ ?_ <;> intro hc <;> first | (exfalso; first | exact absurd hc (by assumption) | exact absurd (by assumption) hc) | skip) | refine Z H ?_ | (refine Zc ?_ ?_ <;> intro hc <;> first | (exfalso; omega) | skip) | (refine Y ?_; try change C _ _ _ _ _ _) | (refine Zs H ?_; clear H; (try clear w); intro w H) | (refine Zn H ?_; clear H; (try clear w); intro _ w H) | (refine Ze H ?_; clear H; (try clear w); intro gv w H))
    exact ⟨by (repeat (first | exact Agr.refl | exact Agr.hav | refine Agr.upd rfl ?_ | refine Agr.in rfl ?_)), 8 - (i + 1), by omega, ⟨i + 1, rfl, by omega, rfl, fun j hj hkj => by
      by_cases e : j = i
      · rw [e] at hkj; omega
      · exact hno j (by omega) hkj⟩, H⟩
  · have hpi := hD.path hlt (by omega)
    have hpl := full_len hW hlt
    rw [hpi] at c1
    repeat' (first | (refine K.iaA (i := i) rfl rfl rfl rfl rfl hlt ?_) | (refine X.lenL ?_) | (refine X.lv H ?_) | (refine X.lw H ?_) | (refine X.lp H ?_) | (refine X.stR H ?_; clear H; (try clear w); intro w H) | (refine X.eqL ?_ ?_ <;> intro hc <;> first | (exfalso; first | exact absurd hc (by assumption) | exact absurd (by assumption) hc) | skip) | refine Z H ?_ | (refine Zc ?_ ?_ <;> intro hc <;> first | (exfalso; omega) | skip) | (refine Y ?_; try change C _ _ _ _ _ _) | (refine Zs H ?_; clear H; (try clear w); intro w H) | (refine Zn H ?_; clear H; (try clear w); intro _ w H) | (refine Ze H ?_; clear H; (try clear w); intro gv w H))
    (refine X.call (Under_w (p := full t i) (q := p) H (by omega) hl) ?_; (try clear H); rintro _ w ⟨rfl, H⟩; refine ⟨_, rfl, ?_⟩)
    by_cases hu : underP (full t i) p
    · rw [decide_eq_true hu]
      have hheld : heldFrom t (a : Int) 7 1 = true := (held_below hW ha (by omega)).2 ⟨i, hlt, by omega, (below_under hW ha (by omega) hka hlt (by omega)).1 (by rw [hpa]; exact hu)⟩
      rw [if_pos hheld] at hm0
      repeat' (first | (refine X.lenL ?_) | (refine X.lv H ?_) | (refine X.lw H ?_) | (refine X.lp H ?_) | (refine X.stR H ?_; clear H; (try clear w); intro w H) | (refine X.eqL ?_ ?_ <;> intro hc <;> first | (exfalso; first | exact absurd hc (by assumption) | exact absurd (by assumption) hc) | skip) | refine Z H ?_ | (refine Zc ?_ ?_ <;> intro hc <;> first | (exfalso; omega) | skip) | (refine Y ?_; try change C _ _ _ _ _ _) | (refine Zs H ?_; clear H; (try clear w); intro w H) | (refine Zn H ?_; clear H; (try clear w); intro _ w H) | (refine Ze H ?_; clear H; (try clear w); intro gv w H))
      exact ⟨_, resVT (cs := rcells m) H rfl rfl inferInstance hm32, m, by rw [hm0]; rfl, hm8, (fun h => by rw [hm0] at h; cases h), H.tail.tail⟩
    · rw [decide_eq_false hu]
      repeat' (first | (refine X.lenL ?_) | (refine X.lv H ?_) | (refine X.lw H ?_) | (refine X.lp H ?_) | (refine X.stR H ?_; clear H; (try clear w); intro w H) | (refine X.eqL ?_ ?_ <;> intro hc <;> first | (exfalso; first | exact absurd hc (by assumption) | exact absurd (by assumption) hc) | skip) | refine Z H ?_ | (refine Zc ?_ ?_ <;> intro hc <;> first | (exfalso; omega) | skip) | (refine Y ?_; try change C _ _ _ _ _ _) | (refine Zs H ?_; clear H; (try clear w); intro w H) | (refine Zn H ?_; clear H; (try clear w); intro _ w H) | (refine Ze H ?_; clear H; (try clear w); intro gv w H))
      exact ⟨by (repeat (first | exact Agr.refl | exact Agr.hav | refine Agr.upd rfl ?_ | refine Agr.in rfl ?_)), 8 - (i + 1), by omega, ⟨i + 1, rfl, by omega, rfl, fun j hj hkj => by
        by_cases e : j = i
        · rw [e]; exact hu
        · exact hno j (by omega) hkj⟩, H⟩
set_option maxRecDepth 100000 in
set_option maxHeartbeats 1000000 in
theorem Cut_x (H : Holds s w R) (hD : Doc s m t) (hW : WF t) (hc : checkM t = true) (hl : p.length ≤ 140737488355328) : Calls Try.prog 36 #[.agg (rcells m).toArray, .string ⟨p.toArray⟩] w fun e w' => ∃ m' : List RN, e = .returned (.tuple #[.agg (rcells m').toArray, .int .i64 (cutM t p).2]) ∧ m'.length = 8 ∧ ((cutM t p).2 = 0 → Doc s m' (cutM t p).1) ∧ Holds s w' R := by
  have hm8 := hD.l8
  have hm32 := rcells_len hm8
  have hz8 : (List.replicate 8 RN.zero).length = 8 := rfl
  have hm0 : cutM t p = cutM t p := rfl
  conv at hm0 => rhs; unfold cutM
  rw [if_neg (by rw [hc]; decide)] at hm0
  refine enter Try.func36 rfl Try.ntmps36 rfl ?_
  repeat' (first | (refine X.lenL ?_) | (refine X.lv H ?_) | (refine X.lw H ?_) | (refine X.lp H ?_) | (refine X.stR H ?_; clear H; (try clear w); intro w H) | (refine X.eqL ?_ ?_ <;> intro hc <;> first | (exfalso; first | exact absurd hc (by assumption) | exact absurd (by assumption) hc) | skip) | refine Z H ?_ | (refine Zc ?_ ?_ <;> intro hc <;> first | (exfalso; omega) | skip) | (refine Y ?_; try change C _ _ _ _ _ _) | (refine Zs H ?_; clear H; (try clear w); intro w H) | (refine Zn H ?_; clear H; (try clear w); intro _ w H) | (refine Ze H ?_; clear H; (try clear w); intro gv w H))
  (refine X.call (File_x (p := p) H hD hW hl) ?_; (try clear H); rintro _ w ⟨k, hk, rfl, hko, H⟩; refine ⟨_, rfl, ?_⟩)
  by_cases her : (kindOfM t p 2).2 = 0
  rotate_left
  · rw [if_pos her] at hm0
    repeat' (first | (refine X.lenL ?_) | (refine X.lv H ?_) | (refine X.lw H ?_) | (refine X.lp H ?_) | (refine X.stR H ?_; clear H; (try clear w); intro w H) | (refine X.eqL ?_ ?_ <;> intro hc <;> first | (exfalso; first | exact absurd hc (by assumption) | exact absurd (by assumption) hc) | skip) | refine Z H ?_ | (refine Zc ?_ ?_ <;> intro hc <;> first | (exfalso; omega) | skip) | (refine Y ?_; try change C _ _ _ _ _ _) | (refine Zs H ?_; clear H; (try clear w); intro w H) | (refine Zn H ?_; clear H; (try clear w); intro _ w H) | (refine Ze H ?_; clear H; (try clear w); intro gv w H))
    exact ⟨_, resVT (cs := rcells m) H rfl rfl inferInstance hm32, m, by rw [hm0]; rfl, hm8, (fun h => by rw [hm0] at h; exact absurd h her), H.tail.tail⟩
  obtain ⟨hko1, hfk, hk2⟩ := hko her
  rw [if_neg (by simpa using her), hko1, Int.toNat_natCast] at hm0
  rw [hko1] at her ⊢
  have hki := hD.kind hk
  have hpi := hD.path hk (by omega)
  have hf1 := file_pos hW.root hk2
  have hdoc : Doc s (m.set k ⟨(rn m k).kind, (rn m k).path, [], none, 0, 0⟩) (emptyM t k) := hD.set hk (cut_V hW hk hk2 (wf_cut hW hf1 hk)) (by rw [hki, hpi, hk2]; exact RX.nil)
  have hm1 : (m.set k { rn m k with data := [] }).length = 8 := by rw [List.length_set, hm8]
  have hm2 : ((m.set k { rn m k with data := [] }).set k ⟨(rn m k).kind, (rn m k).path, [], none, 0, 0⟩).length = 8 := by rw [List.length_set, hm1]
  have hn1 : rn (m.set k { rn m k with data := [] }) k = { rn m k with data := [] } := by rw [rn_set hm8 hk, if_pos rfl]
  repeat' (first | (refine K.iaA (i := k) rfl rfl rfl rfl rfl hk ?_) | (refine X.stRc k 2 { rn m k with data := [] } hm8 hk (by decide) rfl H ?_; clear H; (try clear w); intro w H) | (refine X.stRc k 3 ⟨(rn m k).kind, (rn m k).path, [], none, 0, 0⟩ hm1 hk (by decide) (by rw [hn1]; rfl) H ?_; clear H; (try clear w); intro w H) | (refine X.lw H ?_ (hn := rcells_len hm2)) | (refine X.lenL ?_) | (refine X.lv H ?_) | (refine X.lw H ?_) | (refine X.lp H ?_) | (refine X.stR H ?_; clear H; (try clear w); intro w H) | (refine X.eqL ?_ ?_ <;> intro hc <;> first | (exfalso; first | exact absurd hc (by assumption) | exact absurd (by assumption) hc) | skip) | refine Z H ?_ | (refine Zc ?_ ?_ <;> intro hc <;> first | (exfalso; omega) | skip) | (refine Y ?_; try change C _ _ _ _ _ _) | (refine Zs H ?_; clear H; (try clear w); intro w H) | (refine Zn H ?_; clear H; (try clear w); intro _ w H) | (refine Ze H ?_; clear H; (try clear w); intro gv w H))
  exact ⟨_, resVT (cs := rcells ((m.set k { rn m k with data := [] }).set k ⟨(rn m k).kind, (rn m k).path, [], none, 0, 0⟩)) H rfl rfl inferInstance (rcells_len hm2), _, by rw [hm0]; rfl, hm2, fun _ => by rw [hm0, List.set_set]; exact hdoc, H.tail.tail⟩
end
end Go.Proofs.Ytlchnabnhimlcaa
set_option linter.unusedSimpArgs false
set_option linter.unusedVariables false
namespace Go.Proofs.Ytlchnabnhimlcaa
open Go Go.RowKit Go.Own
section
variable {w : World} {s : Ro} {R : List Asn} {p q : Str} {m : List RN}
end
end Go.Proofs.Ytlchnabnhimlcaa

/- nacelleref17, walked exactly: Move. nacelleref17, walked weakly: New, Used, spare. -/
import Derived.Test.YtlchnabnhimlcaaTlLg
set_option linter.unusedSimpArgs false
set_option linter.unusedVariables false
namespace Go.Proofs.Ytlchnabnhimlcaa
open Go Go.RowKit Go.Own
theorem path_72 {p : Str} (h : isInnerM p = true) : p.length ≤ 72 := by
  obtain ⟨r, rfl, _, hl, _⟩ := inner_names h
  exact hl
/-- a node's path within the loop of Move -/
def mvN (m : List RN) (t : TR) (p q : Str) (i j : Nat) : RN := if j < i ∧ (t.n j).kind ≠ 0 ∧ underP (full t j) p then { rn m j with path := q ++ (full t j).drop p.length } else rn m j
theorem move_doc {s : Ro} {m m' : List RN} {t : TR} (hD : Doc s m t) (hW : WF t) {p q : Str} {a d : Nat} (hinq : isInnerM q = true) (ha1 : 1 ≤ a) (ha : a < 8) (hka : (t.n a).kind ≠ 0) (hpa : full t a = p) (hfd : findM t (splitM q).1 = ((d : Int), 0)) (hdk : (t.n d).kind = 1) (hun : underFrom t (a : Int) 8 (d : Int) = false) (hch : childM t (d : Int) (splitM q).2 < 0)
    (hm : m'.length = 8) (hmv : ∀ j, j < 8 → rn m' j = mvN m t p q 8 j) : Doc s (m'.set a { rn m' a with path := q }) (t.set a { t.n a with parent := (d : Int), name := (splitM q).2 }) := by
  have hd8 := (find_lt hW hfd).1
  have hnb : ¬ (d = a ∨ Below t a d) := fun h => by
    rw [(under_8 hW (by omega) hd8 (by omega)).2 h] at hun
    cases hun
  have h' := wf_move hW ha1 ha (kind_nz hka) hd8 hdk (split_names hinq).2.1 hch hun
  have hV := move_V hW h' ha (by omega) hka hd8 (by omega) (fun e => hnb (.inl e)) (fun e => hnb (.inr e)) (inner_join hW hinq hfd) rfl
  refine ⟨by rw [List.length_set, hm], fun j hj => ?_⟩
  rw [rn_set hm ha, hV j hj, hpa]
  have hR := hD.nd j hj
  have hks : (nodeV t j).kind = (t.n j).kind := rfl
  by_cases e : a = j
  · subst e
    have hnu : ¬ underP (full t a) p := fun h => by
      have := h.1
      rw [hpa] at this
      omega
    have hma : rn m' a = rn m a := by rw [hmv a ha]; unfold mvN; rw [if_neg (fun h => hnu h.2.2)]
    rw [if_pos rfl, hma, if_neg hka, if_neg hnu, if_pos rfl]
    exact ⟨hR.k, rfl, hR.d, hR.n, hR.b⟩
  · rw [if_neg e, hmv j hj]
    unfold mvN
    by_cases hk : (t.n j).kind = 0
    · rw [if_neg (fun h => h.2.1 hk), if_pos hk]
      refine ⟨hR.k, ?_, hR.d, hR.n, hR.b⟩
      rw [hR.p]
      show (if (t.n j).kind = 0 then [] else full t j) = _
      rw [if_pos hk]
    · rw [if_neg hk]
      by_cases hu : underP (full t j) p
      · rw [if_pos ⟨hj, hk, hu⟩, if_pos hu]
        exact ⟨hR.k, rfl, hR.d, hR.n, hR.b⟩
      · rw [if_neg (fun h => hu h.2.2), if_neg hu, if_neg (fun e' => e e'.symm)]
        exact ⟨hR.k, hD.path hj hk, hR.d, hR.n, hR.b⟩
section
variable {w : World} {s : Ro} {R : List Asn} {p q : Str} {m : List RN} {t : TR}
set_option maxRecDepth 100000 in
set_option maxHeartbeats 1000000 in
theorem Move_x (H : Holds s w R) (hD : Doc s m t) (hW : WF t) (hc : checkM t = true) (hl : p.length ≤ 140737488355328) (hq : q.length ≤ 140737488355328) : Calls Try.prog 33 #[.agg (rcells m).toArray, .string ⟨p.toArray⟩, .string ⟨q.toArray⟩] w fun e w' => ∃ m' : List RN, e = .returned (.tuple #[.agg (rcells m').toArray, .int .i64 (moveM t p q).2]) ∧ m'.length = 8 ∧ ((moveM t p q).2 = 0 → Doc s m' (moveM t p q).1) ∧ Holds s w' R := by
  have hm8 := hD.l8
  have hm32 := rcells_len hm8
  have hz8 : (List.replicate 8 RN.zero).length = 8 := rfl
  have hm0 : moveM t p q = moveM t p q := rfl
  conv at hm0 => rhs; unfold moveM
  rw [if_neg (by rw [hc]; decide)] at hm0
  refine enter Try.func33 rfl Try.ntmps33 rfl ?_
  repeat' (first | (refine X.lenL ?_) | (refine X.lv H ?_) | (refine X.lw H ?_) | (refine X.lp H ?_) | (refine X.stR H ?_; clear H; (try clear w); intro w H) | (refine X.eqL ?_ ?_ <;> intro hc <;> first | (exfalso; first | exact absurd hc (by assumption) | exact absurd (by assumption) hc) | skip) | ((fail_if_success (with_reducible show C _ _ _ (Code.seq (Code.seq (Code.region 1 _ _) _) _) _ _)); refine Z H ?_) | (refine Zc ?_ ?_ <;> intro hc <;> first | (exfalso; omega) | skip) | (refine Y ?_; try change C _ _ _ _ _ _) | (refine Zs H ?_; clear H; (try clear w); intro w H) | (refine Zn H ?_; clear H; (try clear w); (first | ((fail_if_success (have := bl1)); intro bl1 w H) | intro _ w H)) | (refine Ze H ?_; clear H; (try clear w); intro gv w H))
  refine C.cutH H [7, 12, 13, 14, 15, 16, 17, 18, 19, 20, 21, 22, 23, 24, 25, 26, 27, 28] [] rfl (fun vs => isInnerM p = true ∧ isInnerM q = true) ?_ ?_
  · repeat' (first | (refine X.lenL ?_) | (refine X.lv H ?_) | (refine X.lw H ?_) | (refine X.lp H ?_) | (refine X.stR H ?_; clear H; (try clear w); intro w H) | (refine X.eqL ?_ ?_ <;> intro hc <;> first | (exfalso; first | exact absurd hc (by assumption) | exact absurd (by assumption) hc) | skip) | refine Z H ?_ | (refine Zc ?_ ?_ <;> intro hc <;> first | (exfalso; omega) | skip) | (refine Y ?_; try change C _ _ _ _ _ _) | (refine Zs H ?_; clear H; (try clear w); intro w H) | (refine Zn H ?_; clear H; (try clear w); (first | ((fail_if_success (have := bl1)); intro bl1 w H) | intro _ w H)) | (refine Ze H ?_; clear H; (try clear w); intro gv w H))
    (refine X.call (IsPath_x (p := p) H hl) ?_; (try clear H); rintro _ w ⟨rfl, H⟩; refine ⟨_, rfl, ?_⟩)
    cases hb : isPathM p
    · rw [if_pos (.inl (not_inner hb))] at hm0
      repeat' (first | (refine X.lenL ?_) | (refine X.lv H ?_) | (refine X.lw H ?_) | (refine X.lp H ?_) | (refine X.stR H ?_; clear H; (try clear w); intro w H) | (refine X.eqL ?_ ?_ <;> intro hc <;> first | (exfalso; first | exact absurd hc (by assumption) | exact absurd (by assumption) hc) | skip) | refine Z H ?_ | (refine Zc ?_ ?_ <;> intro hc <;> first | (exfalso; omega) | skip) | (refine Y ?_; try change C _ _ _ _ _ _) | (refine Zs H ?_; clear H; (try clear w); intro w H) | (refine Zn H ?_; clear H; (try clear w); (first | ((fail_if_success (have := bl1)); intro bl1 w H) | intro _ w H)) | (refine Ze H ?_; clear H; (try clear w); intro gv w H))
      exact ⟨_, resVT (cs := rcells m) H rfl rfl inferInstance hm32, m, by rw [hm0]; rfl, hm8, (fun h => by rw [hm0] at h; cases h), H.tail.tail⟩
    repeat' (first | (refine X.lenL ?_) | (refine X.lv H ?_) | (refine X.lw H ?_) | (refine X.lp H ?_) | (refine X.stR H ?_; clear H; (try clear w); intro w H) | (refine X.eqL ?_ ?_ <;> intro hc <;> first | (exfalso; first | exact absurd hc (by assumption) | exact absurd (by assumption) hc) | skip) | refine Z H ?_ | (refine Zc ?_ ?_ <;> intro hc <;> first | (exfalso; omega) | skip) | (refine Y ?_; try change C _ _ _ _ _ _) | (refine Zs H ?_; clear H; (try clear w); intro w H) | (refine Zn H ?_; clear H; (try clear w); (first | ((fail_if_success (have := bl1)); intro bl1 w H) | intro _ w H)) | (refine Ze H ?_; clear H; (try clear w); intro gv w H))
    (refine X.call (IsPath_x (p := q) H hq) ?_; (try clear H); rintro _ w ⟨rfl, H⟩; refine ⟨_, rfl, ?_⟩)
    cases hb2 : isPathM q
    · rw [if_pos (.inr (not_inner hb2))] at hm0
      repeat' (first | (refine X.lenL ?_) | (refine X.lv H ?_) | (refine X.lw H ?_) | (refine X.lp H ?_) | (refine X.stR H ?_; clear H; (try clear w); intro w H) | (refine X.eqL ?_ ?_ <;> intro hc <;> first | (exfalso; first | exact absurd hc (by assumption) | exact absurd (by assumption) hc) | skip) | refine Z H ?_ | (refine Zc ?_ ?_ <;> intro hc <;> first | (exfalso; omega) | skip) | (refine Y ?_; try change C _ _ _ _ _ _) | (refine Zs H ?_; clear H; (try clear w); intro w H) | (refine Zn H ?_; clear H; (try clear w); (first | ((fail_if_success (have := bl1)); intro bl1 w H) | intro _ w H)) | (refine Ze H ?_; clear H; (try clear w); intro gv w H))
      exact ⟨_, resVT (cs := rcells m) H rfl rfl inferInstance hm32, m, by rw [hm0]; rfl, hm8, (fun h => by rw [hm0] at h; cases h), H.tail.tail⟩
    by_cases hroot : p = [47]
    · rw [if_pos (.inl (not_inner_root hroot))] at hm0
      repeat' (first | (refine X.eqL (a := p) (b := [47]) ?_ ?_ <;> intro hc <;> first | (exfalso; exact absurd hroot hc) | skip) | (refine X.lenL ?_) | (refine X.lv H ?_) | (refine X.lw H ?_) | (refine X.lp H ?_) | (refine X.stR H ?_; clear H; (try clear w); intro w H) | (refine X.eqL ?_ ?_ <;> intro hc <;> first | (exfalso; first | exact absurd hc (by assumption) | exact absurd (by assumption) hc) | skip) | refine Z H ?_ | (refine Zc ?_ ?_ <;> intro hc <;> first | (exfalso; omega) | skip) | (refine Y ?_; try change C _ _ _ _ _ _) | (refine Zs H ?_; clear H; (try clear w); intro w H) | (refine Zn H ?_; clear H; (try clear w); (first | ((fail_if_success (have := bl1)); intro bl1 w H) | intro _ w H)) | (refine Ze H ?_; clear H; (try clear w); intro gv w H))
      exact ⟨_, resVT (cs := rcells m) H rfl rfl inferInstance hm32, m, by rw [hm0]; rfl, hm8, (fun h => by rw [hm0] at h; cases h), H.tail.tail⟩
    by_cases hroot2 : q = [47]
    · rw [if_pos (.inr (not_inner_root hroot2))] at hm0
      repeat' (first | (refine X.eqL (a := p) (b := [47]) ?_ ?_ <;> intro hc <;> first | (exfalso; exact absurd hc hroot) | skip) | (refine X.eqL (a := q) (b := [47]) ?_ ?_ <;> intro hc <;> first | (exfalso; exact absurd hroot2 hc) | skip) | (refine X.lenL ?_) | (refine X.lv H ?_) | (refine X.lw H ?_) | (refine X.lp H ?_) | (refine X.stR H ?_; clear H; (try clear w); intro w H) | (refine X.eqL ?_ ?_ <;> intro hc <;> first | (exfalso; first | exact absurd hc (by assumption) | exact absurd (by assumption) hc) | skip) | refine Z H ?_ | (refine Zc ?_ ?_ <;> intro hc <;> first | (exfalso; omega) | skip) | (refine Y ?_; try change C _ _ _ _ _ _) | (refine Zs H ?_; clear H; (try clear w); intro w H) | (refine Zn H ?_; clear H; (try clear w); (first | ((fail_if_success (have := bl1)); intro bl1 w H) | intro _ w H)) | (refine Ze H ?_; clear H; (try clear w); intro gv w H))
      exact ⟨_, resVT (cs := rcells m) H rfl rfl inferInstance hm32, m, by rw [hm0]; rfl, hm8, (fun h => by rw [hm0] at h; cases h), H.tail.tail⟩
    · repeat' (first | (refine X.eqL (a := p) (b := [47]) ?_ ?_ <;> intro hc <;> first | (exfalso; exact absurd hc hroot) | skip) | (refine X.eqL (a := q) (b := [47]) ?_ ?_ <;> intro hc <;> first | (exfalso; exact absurd hc hroot2) | skip) | (refine X.lenL ?_) | (refine X.lv H ?_) | (refine X.lw H ?_) | (refine X.lp H ?_) | (refine X.stR H ?_; clear H; (try clear w); intro w H) | (refine X.eqL ?_ ?_ <;> intro hc <;> first | (exfalso; first | exact absurd hc (by assumption) | exact absurd (by assumption) hc) | skip) | refine Z H ?_ | (refine Zc ?_ ?_ <;> intro hc <;> first | (exfalso; omega) | skip) | (refine Y ?_; try change C _ _ _ _ _ _) | (refine Zs H ?_; clear H; (try clear w); intro w H) | (refine Zn H ?_; clear H; (try clear w); (first | ((fail_if_success (have := bl1)); intro bl1 w H) | intro _ w H)) | (refine Ze H ?_; clear H; (try clear w); intro gv w H))
      exact ⟨by (repeat (first | exact Agr.refl | exact Agr.hav | refine Agr.upd rfl ?_ | refine Agr.in rfl ?_)), ⟨inner_of hb hroot, inner_of hb2 hroot2⟩, H⟩
  clear H
  rintro vs hv w ⟨hin, hinq⟩ H
  have h72 := path_72 hin
  have h722 := path_72 hinq
  rw [if_neg (fun h => h.elim (fun h => by rw [hin] at h; cases h) (fun h => by rw [hinq] at h; cases h))] at hm0
  repeat' (first | (refine X.lenL ?_) | (refine X.lv H ?_) | (refine X.lw H ?_) | (refine X.lp H ?_) | (refine X.stR H ?_; clear H; (try clear w); intro w H) | (refine X.eqL ?_ ?_ <;> intro hc <;> first | (exfalso; first | exact absurd hc (by assumption) | exact absurd (by assumption) hc) | skip) | refine Z H ?_ | (refine Zc ?_ ?_ <;> intro hc <;> first | (exfalso; omega) | skip) | (refine Y ?_; try change C _ _ _ _ _ _) | (refine Zs H ?_; clear H; (try clear w); intro w H) | (refine Zn H ?_; clear H; (try clear w); (first | ((fail_if_success (have := bl1)); intro bl1 w H) | intro _ w H)) | (refine Ze H ?_; clear H; (try clear w); intro gv w H))
  (refine X.call (Find_x (p := p) H hD hW hl) ?_; (try clear H); rintro _ w ⟨rfl, H⟩; refine ⟨_, rfl, ?_⟩)
  by_cases her : (findM t p).2 = 0
  rotate_left
  · rw [if_pos her] at hm0
    repeat' (first | (refine X.lenL ?_) | (refine X.lv H ?_) | (refine X.lw H ?_) | (refine X.lp H ?_) | (refine X.stR H ?_; clear H; (try clear w); intro w H) | (refine X.eqL ?_ ?_ <;> intro hc <;> first | (exfalso; first | exact absurd hc (by assumption) | exact absurd (by assumption) hc) | skip) | refine Z H ?_ | (refine Zc ?_ ?_ <;> intro hc <;> first | (exfalso; omega) | skip) | (refine Y ?_; try change C _ _ _ _ _ _) | (refine Zs H ?_; clear H; (try clear w); intro w H) | (refine Zn H ?_; clear H; (try clear w); (first | ((fail_if_success (have := bl1)); intro bl1 w H) | intro _ w H)) | (refine Ze H ?_; clear H; (try clear w); intro gv w H))
    exact ⟨_, resVT (cs := rcells m) H rfl rfl inferInstance hm32, m, by rw [hm0]; rfl, hm8, (fun h => by rw [hm0] at h; exact absurd h her), H.tail.tail⟩
  rw [if_neg (by simpa using her)] at hm0
  obtain ⟨a, ha, hka, hfa⟩ := find_nat hW her
  have ha1 := (find_inner hin hfa).1
  have hpa := find_full hW hfa
  rw [hfa] at hm0 her ⊢
  repeat' (first | (refine X.lenL ?_) | (refine X.lv H ?_) | (refine X.lw H ?_) | (refine X.lp H ?_) | (refine X.stR H ?_; clear H; (try clear w); intro w H) | (refine X.eqL ?_ ?_ <;> intro hc <;> first | (exfalso; first | exact absurd hc (by assumption) | exact absurd (by assumption) hc) | skip) | refine Z H ?_ | (refine Zc ?_ ?_ <;> intro hc <;> first | (exfalso; omega) | skip) | (refine Y ?_; try change C _ _ _ _ _ _) | (refine Zs H ?_; clear H; (try clear w); intro w H) | (refine Zn H ?_; clear H; (try clear w); (first | ((fail_if_success (have := bl1)); intro bl1 w H) | intro _ w H)) | (refine Ze H ?_; clear H; (try clear w); intro gv w H))
  (refine X.call (dir_x (p := q) H hD hW hq hinq) ?_; (try clear H); rintro _ w ⟨rfl, H⟩; refine ⟨_, rfl, ?_⟩)
  by_cases her2 : (kindOfM t (splitM q).1 1).2 = 0
  rotate_left
  · rw [if_pos her2] at hm0
    repeat' (first | (refine X.lenL ?_) | (refine X.lv H ?_) | (refine X.lw H ?_) | (refine X.lp H ?_) | (refine X.stR H ?_; clear H; (try clear w); intro w H) | (refine X.eqL ?_ ?_ <;> intro hc <;> first | (exfalso; first | exact absurd hc (by assumption) | exact absurd (by assumption) hc) | skip) | refine Z H ?_ | (refine Zc ?_ ?_ <;> intro hc <;> first | (exfalso; omega) | skip) | (refine Y ?_; try change C _ _ _ _ _ _) | (refine Zs H ?_; clear H; (try clear w); intro w H) | (refine Zn H ?_; clear H; (try clear w); (first | ((fail_if_success (have := bl1)); intro bl1 w H) | intro _ w H)) | (refine Ze H ?_; clear H; (try clear w); intro gv w H))
    exact ⟨_, resVT (cs := rcells m) H rfl rfl inferInstance hm32, m, by rw [hm0]; rfl, hm8, (fun h => by rw [hm0] at h; exact absurd h her2), H.tail.tail⟩
  rw [if_neg (by simpa using her2)] at hm0
  obtain ⟨d, hd8, hkd, hdk, hfd⟩ := kindOf_err (by simpa using her2)
  have hat := (hD.at q).trans (at_child hW hinq hfd)
  have hpd := find_full hW hfd
  have hal : (splitM q).1.length ≤ 72 := by rw [← hpd]; exact full_len hW hd8
  rw [hkd] at hm0 her2 ⊢
  have hu8 := under_8 hW (a := a) (by omega) hd8 (by omega)
  have hbu := below_under hW ha (by omega) hka hd8 (by omega)
  rw [hpd, hpa] at hbu
  generalize hab : (splitM q).1 = ab at *
  by_cases heq : ab = p
  · rw [if_pos (hu8.2 (.inl (full_inj hW hd8 (by omega) ha hka (by rw [hpd, hpa, heq]))))] at hm0
    repeat' (first | (refine X.eqL (a := ab) (b := p) ?_ ?_ <;> intro hc <;> first | (exfalso; exact absurd heq hc) | skip) | (refine X.lenL ?_) | (refine X.lv H ?_) | (refine X.lw H ?_) | (refine X.lp H ?_) | (refine X.stR H ?_; clear H; (try clear w); intro w H) | (refine X.eqL ?_ ?_ <;> intro hc <;> first | (exfalso; first | exact absurd hc (by assumption) | exact absurd (by assumption) hc) | skip) | refine Z H ?_ | (refine Zc ?_ ?_ <;> intro hc <;> first | (exfalso; omega) | skip) | (refine Y ?_; try change C _ _ _ _ _ _) | (refine Zs H ?_; clear H; (try clear w); intro w H) | (refine Zn H ?_; clear H; (try clear w); (first | ((fail_if_success (have := bl1)); intro bl1 w H) | intro _ w H)) | (refine Ze H ?_; clear H; (try clear w); intro gv w H))
    exact ⟨_, resVT (cs := rcells m) H rfl rfl inferInstance hm32, m, by rw [hm0]; rfl, hm8, (fun h => by rw [hm0] at h; cases h), H.tail.tail⟩
  repeat' (first | (refine X.eqL (a := ab) (b := p) ?_ ?_ <;> intro hc <;> first | (exfalso; exact absurd hc heq) | skip) | (refine X.lenL ?_) | (refine X.lv H ?_) | (refine X.lw H ?_) | (refine X.lp H ?_) | (refine X.stR H ?_; clear H; (try clear w); intro w H) | (refine X.eqL ?_ ?_ <;> intro hc <;> first | (exfalso; first | exact absurd hc (by assumption) | exact absurd (by assumption) hc) | skip) | refine Z H ?_ | (refine Zc ?_ ?_ <;> intro hc <;> first | (exfalso; omega) | skip) | (refine Y ?_; try change C _ _ _ _ _ _) | (refine Zs H ?_; clear H; (try clear w); intro w H) | (refine Zn H ?_; clear H; (try clear w); (first | ((fail_if_success (have := bl1)); intro bl1 w H) | intro _ w H)) | (refine Ze H ?_; clear H; (try clear w); intro gv w H))
  (refine X.call (Under_w (p := ab) (q := p) H (by omega) hl) ?_; (try clear H); rintro _ w ⟨rfl, H⟩; refine ⟨_, rfl, ?_⟩)
  by_cases hu : underP ab p
  · rw [decide_eq_true hu]
    rw [if_pos (hu8.2 (.inr (hbu.1 hu)))] at hm0
    repeat' (first | (refine X.lenL ?_) | (refine X.lv H ?_) | (refine X.lw H ?_) | (refine X.lp H ?_) | (refine X.stR H ?_; clear H; (try clear w); intro w H) | (refine X.eqL ?_ ?_ <;> intro hc <;> first | (exfalso; first | exact absurd hc (by assumption) | exact absurd (by assumption) hc) | skip) | refine Z H ?_ | (refine Zc ?_ ?_ <;> intro hc <;> first | (exfalso; omega) | skip) | (refine Y ?_; try change C _ _ _ _ _ _) | (refine Zs H ?_; clear H; (try clear w); intro w H) | (refine Zn H ?_; clear H; (try clear w); (first | ((fail_if_success (have := bl1)); intro bl1 w H) | intro _ w H)) | (refine Ze H ?_; clear H; (try clear w); intro gv w H))
    exact ⟨_, resVT (cs := rcells m) H rfl rfl inferInstance hm32, m, by rw [hm0]; rfl, hm8, (fun h => by rw [hm0] at h; cases h), H.tail.tail⟩
  rw [decide_eq_false hu]
  have hun : underFrom t (a : Int) 8 (d : Int) = false := by
    rw [Bool.eq_false_iff]
    intro h
    rcases hu8.1 h with h | h
    · exact heq (by rw [← hpd, ← hpa, h])
    · exact hu (hbu.2 h)
  rw [if_neg (by rw [hun]; decide)] at hm0
  repeat' (first | (refine X.lenL ?_) | (refine X.lv H ?_) | (refine X.lw H ?_) | (refine X.lp H ?_) | (refine X.stR H ?_; clear H; (try clear w); intro w H) | (refine X.eqL ?_ ?_ <;> intro hc <;> first | (exfalso; first | exact absurd hc (by assumption) | exact absurd (by assumption) hc) | skip) | refine Z H ?_ | (refine Zc ?_ ?_ <;> intro hc <;> first | (exfalso; omega) | skip) | (refine Y ?_; try change C _ _ _ _ _ _) | (refine Zs H ?_; clear H; (try clear w); intro w H) | (refine Zn H ?_; clear H; (try clear w); (first | ((fail_if_success (have := bl1)); intro bl1 w H) | intro _ w H)) | (refine Ze H ?_; clear H; (try clear w); intro gv w H))
  (refine X.call (at_w (p := q) H hm8) ?_; (try clear H); rintro _ w ⟨rfl, H⟩; refine ⟨_, rfl, ?_⟩)
  by_cases hge : 0 ≤ atM m q
  · rw [if_pos (by rw [← hat]; exact hge)] at hm0
    repeat' (first | (refine X.lenL ?_) | (refine X.lv H ?_) | (refine X.lw H ?_) | (refine X.lp H ?_) | (refine X.stR H ?_; clear H; (try clear w); intro w H) | (refine X.eqL ?_ ?_ <;> intro hc <;> first | (exfalso; first | exact absurd hc (by assumption) | exact absurd (by assumption) hc) | skip) | refine Z H ?_ | (refine Zc ?_ ?_ <;> intro hc <;> first | (exfalso; omega) | skip) | (refine Y ?_; try change C _ _ _ _ _ _) | (refine Zs H ?_; clear H; (try clear w); intro w H) | (refine Zn H ?_; clear H; (try clear w); (first | ((fail_if_success (have := bl1)); intro bl1 w H) | intro _ w H)) | (refine Ze H ?_; clear H; (try clear w); intro gv w H))
    exact ⟨_, resVT (cs := rcells m) H rfl rfl inferInstance hm32, m, by rw [hm0]; rfl, hm8, (fun h => by rw [hm0] at h; cases h), H.tail.tail⟩
  rw [if_neg (by rw [← hat]; exact hge)] at hm0
  repeat' (first | (refine X.lenL ?_) | (refine X.lv H ?_) | (refine X.lw H ?_) | (refine X.lp H ?_) | (refine X.stR H ?_; clear H; (try clear w); intro w H) | (refine X.eqL ?_ ?_ <;> intro hc <;> first | (exfalso; first | exact absurd hc (by assumption) | exact absurd (by assumption) hc) | skip) | refine Z H ?_ | (refine Zc ?_ ?_ <;> intro hc <;> first | (exfalso; omega) | skip) | (refine Y ?_; try change C _ _ _ _ _ _) | (refine Zs H ?_; clear H; (try clear w); intro w H) | (refine Zn H ?_; clear H; (try clear w); (first | ((fail_if_success (have := bl1)); intro bl1 w H) | intro _ w H)) | (refine Ze H ?_; clear H; (try clear w); intro gv w H))
  first | (have hT : Holds _ _ (var bl1 39 _ :: _) := H; clear hT) | (replace H := H.up 1 rfl; (try simp only [List.set_cons_zero, List.set_cons_succ, List.eraseIdx_cons_zero, List.eraseIdx_cons_succ] at H); have hT : Holds _ _ (var bl1 39 _ :: _) := H; clear hT) | (replace H := H.up 2 rfl; (try simp only [List.set_cons_zero, List.set_cons_succ, List.eraseIdx_cons_zero, List.eraseIdx_cons_succ] at H); have hT : Holds _ _ (var bl1 39 _ :: _) := H; clear hT) | (replace H := H.up 3 rfl; (try simp only [List.set_cons_zero, List.set_cons_succ, List.eraseIdx_cons_zero, List.eraseIdx_cons_succ] at H); have hT : Holds _ _ (var bl1 39 _ :: _) := H; clear hT) | (replace H := H.up 4 rfl; (try simp only [List.set_cons_zero, List.set_cons_succ, List.eraseIdx_cons_zero, List.eraseIdx_cons_succ] at H); have hT : Holds _ _ (var bl1 39 _ :: _) := H; clear hT) | (replace H := H.up 5 rfl; (try simp only [List.set_cons_zero, List.set_cons_succ, List.eraseIdx_cons_zero, List.eraseIdx_cons_succ] at H); have hT : Holds _ _ (var bl1 39 _ :: _) := H; clear hT) | (replace H := H.up 6 rfl; (try simp only [List.set_cons_zero, List.set_cons_succ, List.eraseIdx_cons_zero, List.eraseIdx_cons_succ] at H); have hT : Holds _ _ (var bl1 39 _ :: _) := H; clear hT)
  refine C.loopR H [11, 63, 64, 65, 66, 67, 68, 69, 70, 71, 72, 73, 74, 75, 76, 77, 78, 79, 80, 81, 82, 83, 84, 85, 86, 87, 88, 89, 90, 91] [11] rfl (fun f vs A => ∃ (i : Nat) (m' : List RN), f = 8 - i ∧ i ≤ 8 ∧ vs = [.int .i64 (i : Int)] ∧ A = var bl1 39 (rcells m') ∧ m'.length = 8 ∧ ∀ j, j < 8 → rn m' j = mvN m t p q i j) 8 ⟨0, m, rfl, by omega, rfl, rfl, hm8, fun j _ => by unfold mvN; rw [if_neg (fun h => absurd h.1 (Nat.not_lt_zero _))]⟩ ?_
  clear H
  rintro f vs hv2 w A ⟨i, m', rfl, hi, rfl, rfl, hm8', hmv⟩ H
  have hm32' := rcells_len hm8'
  by_cases hlt : i < 8
  rotate_left
  · obtain rfl : i = 8 := by omega
    have hdoc := move_doc hD hW hinq ha1 ha hka hpa (by rw [hab]; exact hfd) hdk hun (by rw [← hat]; omega) hm8' hmv
    have hm2 := hdoc.l8
    repeat' (first | (refine K.iaA (i := a) rfl rfl rfl rfl rfl ha ?_) | (refine X.stRc a 1 { rn m' a with path := q } hm8' ha (by decide) rfl H ?_; clear H; (try clear w); intro w H) | (refine X.lw H ?_ (hn := rcells_len hm2)) | (refine X.lenL ?_) | (refine X.lv H ?_) | (refine X.lw H ?_) | (refine X.lp H ?_) | (refine X.stR H ?_; clear H; (try clear w); intro w H) | (refine X.eqL ?_ ?_ <;> intro hc <;> first | (exfalso; first | exact absurd hc (by assumption) | exact absurd (by assumption) hc) | skip) | refine Z H ?_ | (refine Zc ?_ ?_ <;> intro hc <;> first | (exfalso; omega) | skip) | (refine Y ?_; try change C _ _ _ _ _ _) | (refine Zs H ?_; clear H; (try clear w); intro w H) | (refine Zn H ?_; clear H; (try clear w); (first | ((fail_if_success (have := bl1)); intro bl1 w H) | intro _ w H)) | (refine Ze H ?_; clear H; (try clear w); intro gv w H))
    exact ⟨_, resVT (cs := rcells (m'.set a { rn m' a with path := q })) H rfl rfl inferInstance (rcells_len hm2), _, by rw [hm0]; rfl, hm2, fun _ => by rw [hm0]; exact hdoc, H.tail.tail⟩
  have hmi : rn m' i = rn m i := by rw [hmv i hlt]; unfold mvN; rw [if_neg (fun h => absurd h.1 (Nat.lt_irrefl _))]
  have c0 := rcell hm8' hlt 0 _ rfl
  have c1 := rcell hm8' hlt 1 _ rfl
  rw [hmi] at c0 c1
  have hki := hD.kind hlt
  have hnext : ∀ {x : RN}, x = mvN m t p q (i + 1) i → ∀ j, j < 8 → (if i = j then x else rn m' j) = mvN m t p q (i + 1) j := fun hx j hj => by
    by_cases e : i = j
    · rw [if_pos e, ← e, hx]
    · rw [if_neg e, hmv j hj]
      unfold mvN
      by_cases hji : j < i
      · by_cases hh : (t.n j).kind ≠ 0 ∧ underP (full t j) p
        · rw [if_pos ⟨hji, hh⟩, if_pos ⟨by omega, hh⟩]
        · rw [if_neg (fun h => hh h.2), if_neg (fun h => hh h.2)]
      · rw [if_neg (fun h => hji h.1), if_neg (fun h => by have := h.1; omega)]
  have hstay : ¬ ((t.n i).kind ≠ 0 ∧ underP (full t i) p) → ∀ j, j < 8 → rn m' j = mvN m t p q (i + 1) j := fun hh j hj => by
    have := hnext (x := rn m i) (by unfold mvN; rw [if_neg (fun h => hh h.2)]) j hj
    rw [← this]
    split
    · rename_i e; rw [← e, hmi]
    · rfl
  by_cases hk0 : (rn m i).kind = 0
  · repeat' (first | (refine K.iaA (i := i) rfl rfl rfl rfl rfl hlt ?_) | (refine X.lenL ?_) | (refine X.lv H ?_) | (refine X.lw H ?_) | (refine X.lp H ?_) | (refine X.stR H ?_; clear H; (try clear w); intro w H) | (refine X.eqL ?_ ?_ <;> intro hc <;> first | (exfalso; first | exact absurd hc (by assumption) | exact absurd (by assumption) hc) | skip) | refine Z H ?_ | (refine Zc ?_ ?_ <;> intro hc <;> first | (exfalso; omega) | skip) | (refine Y ?_; try change C _ _ _ _ _ _) | (refine Zs H ?_; clear H; (try clear w); intro w H) | (refine Zn H ?_; clear H; (try clear w); (first | ((fail_if_success (have := bl1)); intro bl1 w H) | intro _ w H)) | (refine Ze H ?_; clear H; (try clear w); intro gv w H))
    exact ⟨by (repeat (first | exact Agr.refl | exact Agr.hav | refine Agr.upd rfl ?_ | refine Agr.in rfl ?_)), 8 - (i + 1), by omega, _, ⟨i + 1, m', rfl, by omega, rfl, rfl, hm8', hstay (fun h => h.1 (by omega))⟩, H⟩
  have hpi := hD.path hlt (by omega)
  have hpl := full_len hW hlt
  rw [hpi] at c1
  repeat' (first | (refine K.iaA (i := i) rfl rfl rfl rfl rfl hlt ?_) | (refine X.lenL ?_) | (refine X.lv H ?_) | (refine X.lw H ?_) | (refine X.lp H ?_) | (refine X.stR H ?_; clear H; (try clear w); intro w H) | (refine X.eqL ?_ ?_ <;> intro hc <;> first | (exfalso; first | exact absurd hc (by assumption) | exact absurd (by assumption) hc) | skip) | refine Z H ?_ | (refine Zc ?_ ?_ <;> intro hc <;> first | (exfalso; omega) | skip) | (refine Y ?_; try change C _ _ _ _ _ _) | (refine Zs H ?_; clear H; (try clear w); intro w H) | (refine Zn H ?_; clear H; (try clear w); (first | ((fail_if_success (have := bl1)); intro bl1 w H) | intro _ w H)) | (refine Ze H ?_; clear H; (try clear w); intro gv w H))
  (refine X.call (Under_w (p := full t i) (q := p) H (by omega) hl) ?_; (try clear H); rintro _ w ⟨rfl, H⟩; refine ⟨_, rfl, ?_⟩)
  by_cases hund : underP (full t i) p
  rotate_left
  · rw [decide_eq_false hund]
    repeat' (first | (refine X.lenL ?_) | (refine X.lv H ?_) | (refine X.lw H ?_) | (refine X.lp H ?_) | (refine X.stR H ?_; clear H; (try clear w); intro w H) | (refine X.eqL ?_ ?_ <;> intro hc <;> first | (exfalso; first | exact absurd hc (by assumption) | exact absurd (by assumption) hc) | skip) | refine Z H ?_ | (refine Zc ?_ ?_ <;> intro hc <;> first | (exfalso; omega) | skip) | (refine Y ?_; try change C _ _ _ _ _ _) | (refine Zs H ?_; clear H; (try clear w); intro w H) | (refine Zn H ?_; clear H; (try clear w); (first | ((fail_if_success (have := bl1)); intro bl1 w H) | intro _ w H)) | (refine Ze H ?_; clear H; (try clear w); intro gv w H))
    exact ⟨by (repeat (first | exact Agr.refl | exact Agr.hav | refine Agr.upd rfl ?_ | refine Agr.in rfl ?_)), 8 - (i + 1), by omega, _, ⟨i + 1, m', rfl, by omega, rfl, rfl, hm8', hstay (fun h => hund h.2)⟩, H⟩
  rw [decide_eq_true hund]
  have hul := hund.1
  have hx : ({ rn m i with path := q ++ (full t i).drop p.length } : RN) = mvN m t p q (i + 1) i := by unfold mvN; rw [if_pos ⟨by omega, by omega, hund⟩]
  have hm2 : (m'.set i { rn m i with path := q ++ (full t i).drop p.length }).length = 8 := by rw [List.length_set, hm8']
  repeat' (first | (refine K.iaA (i := i) rfl rfl rfl rfl rfl hlt ?_) | (refine X.from (l := full t i) p.length ?_ rfl (by omega)) | (refine X.catL (a := q) (b := (full t i).drop p.length) ?_ rfl rfl rfl rfl (by rw [List.length_drop]; omega)) | (refine X.stRc i 1 { rn m i with path := q ++ (full t i).drop p.length } hm8' hlt (by decide) (by rw [hmi]; rfl) H ?_; clear H; (try clear w); intro w H) | (refine X.lenL ?_) | (refine X.lv H ?_) | (refine X.lw H ?_) | (refine X.lp H ?_) | (refine X.stR H ?_; clear H; (try clear w); intro w H) | (refine X.eqL ?_ ?_ <;> intro hc <;> first | (exfalso; first | exact absurd hc (by assumption) | exact absurd (by assumption) hc) | skip) | refine Z H ?_ | (refine Zc ?_ ?_ <;> intro hc <;> first | (exfalso; omega) | skip) | (refine Y ?_; try change C _ _ _ _ _ _) | (refine Zs H ?_; clear H; (try clear w); intro w H) | (refine Zn H ?_; clear H; (try clear w); (first | ((fail_if_success (have := bl1)); intro bl1 w H) | intro _ w H)) | (refine Ze H ?_; clear H; (try clear w); intro gv w H))
  exact ⟨by (repeat (first | exact Agr.refl | exact Agr.hav | refine Agr.upd rfl ?_ | refine Agr.in rfl ?_)), 8 - (i + 1), by omega, _, ⟨i + 1, _, rfl, by omega, rfl, rfl, hm2, fun j hj => by rw [rn_set hm8' hlt]; exact hnext hx j hj⟩, H⟩
end
end Go.Proofs.Ytlchnabnhimlcaa
set_option linter.unusedSimpArgs false
set_option linter.unusedVariables false
namespace Go.Proofs.Ytlchnabnhimlcaa
open Go Go.RowKit Go.Own
def RN.root : RN := ⟨1, [47], [], none, 0, 0⟩
theorem build_rnr (w : World) : (Instr.build 37 ([(0, .int .i64 1), (1, .string ⟨#[47]⟩)] : List (Nat × Value)).toArray).run Try.prog w = .ok (.agg (RN.cells RN.root).toArray) w := by kernel_rfl
section
variable {w : World} {s : Ro} {R : List Asn} {m : List RN}
end
end Go.Proofs.Ytlchnabnhimlcaa

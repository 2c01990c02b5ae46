/- package tree, walked: Read. -/
import Derived.Test.YtlchnabnhimlcaaTlTx3
import Derived.Test.YtlchnabnhimlcaaTlUc
set_option linter.unusedSimpArgs false
set_option linter.unusedVariables false
namespace Go.Proofs.Ytlchnabnhimlcaa
open Go Go.RowKit Go.Own
def bytesN (t : TR) (f o i : Nat) : Str := (List.range i).map fun k => peekM t f (o + k)
theorem bytesN_len {t : TR} {f o i : Nat} : (bytesN t f o i).length = i := by simp [bytesN]
theorem bytesN_succ {t : TR} {f o i : Nat} : bytesN t f o (i + 1) = bytesN t f o i ++ [peekM t f (o + i)] := by simp [bytesN, List.range_succ]
theorem bytesN_set {t : TR} {f o i q : Nat} (h : i < q) : (u8s (bytesN t f o i ++ List.replicate (q - i) 0)).set (0 + i * 1) (u8 (peekM t f (o + i))) = u8s (bytesN t f o (i + 1) ++ List.replicate (q - (i + 1)) 0) := by
  have e1 : q - i = (q - (i + 1)) + 1 := by omega
  rw [e1, List.replicate_succ, u8s_app, u8s_app, bytesN_succ, u8s_app, Nat.zero_add, Nat.mul_one, List.set_append_right _ _ (by rw [u8s_len, bytesN_len]; exact Nat.le_refl _), u8s_len, bytesN_len, Nat.sub_self, List.append_assoc]
  rfl
section
variable {w : World} {s : Ro} {R : List Asn} {p : Str} {t : TR}
set_option maxRecDepth 100000 in
set_option maxHeartbeats 1000000 in
theorem read_t {at_ n : Int} (H : Holds s w R) (ht : t.Ok) : Calls Try.prog 10 #[.agg t.cells.toArray, .string ⟨p.toArray⟩, .int .i64 at_, .int .i64 n] w fun e w' => ∃ aa cc, e = .returned (.tuple #[.slice aa (readM t p at_ n).1.length cc, .int .i64 (readM t p at_ n).2]) ∧ Holds s w' (row 5 1 (.slice aa (readM t p at_ n).1.length cc) (readM t p at_ n).1.length (u8s (readM t p at_ n).1) :: R) := by
  refine enter Try.func10 rfl Try.ntmps10 rfl ?_
  repeat' (first | (refine X.lenL ?_) | (refine X.lv H ?_) | (refine X.lp H ?_) | (refine X.ldT H ?_) | (refine X.stT H ?_; clear H; (try clear w); intro w H) | (refine X.eqL ?_ ?_ <;> intro hc <;> first | (exfalso; first | exact absurd hc (by assumption) | exact absurd (by assumption) hc) | skip) | refine Z H ?_ | (refine Zc ?_ ?_ <;> intro hc <;> first | (exfalso; omega) | skip) | (refine Y ?_; try change C _ _ _ _ _ _) | (refine Zs H ?_; clear H; (try clear w); intro w H) | (refine Zn H ?_; clear H; (try clear w); (first | ((fail_if_success (have := bl1)); intro bl1 w H) | ((fail_if_success (have := bl2)); intro bl2 w H) | intro _ w H)) | (refine Ze H ?_; clear H; (try clear w); intro gv w H))
  have hC := Check_s H ht
  by_cases hchk : checkM t = true
  rotate_left
  · have em : readM t p at_ n = ([], 3) := by rw [readM, if_pos (by simpa using hchk)]
    rw [show checkM t = false by simpa using hchk] at hC
    (refine X.call (hC) ?_; (try clear H); rintro _ w ⟨rfl, H⟩; refine ⟨_, rfl, ?_⟩)
    clear hC
    repeat' (first | (refine X.lenL ?_) | (refine X.lv H ?_) | (refine X.lp H ?_) | (refine X.ldT H ?_) | (refine X.stT H ?_; clear H; (try clear w); intro w H) | (refine X.eqL ?_ ?_ <;> intro hc <;> first | (exfalso; first | exact absurd hc (by assumption) | exact absurd (by assumption) hc) | skip) | refine Z H ?_ | (refine Zc ?_ ?_ <;> intro hc <;> first | (exfalso; omega) | skip) | (refine Y ?_; try change C _ _ _ _ _ _) | (refine Zs H ?_; clear H; (try clear w); intro w H) | (refine Zn H ?_; clear H; (try clear w); (first | ((fail_if_success (have := bl1)); intro bl1 w H) | ((fail_if_success (have := bl2)); intro bl2 w H) | intro _ w H)) | (refine Ze H ?_; clear H; (try clear w); intro gv w H))
    exact ⟨_, resTT rfl, none, 0, by rw [em]; rfl, by rw [em]; exact H.tail.nilRow _ _⟩
  rw [hchk] at hC
  (refine X.call (hC) ?_; (try clear H); rintro _ w ⟨rfl, H⟩; refine ⟨_, rfl, ?_⟩)
  clear hC
  repeat' (first | (refine X.lenL ?_) | (refine X.lv H ?_) | (refine X.lp H ?_) | (refine X.ldT H ?_) | (refine X.stT H ?_; clear H; (try clear w); intro w H) | (refine X.eqL ?_ ?_ <;> intro hc <;> first | (exfalso; first | exact absurd hc (by assumption) | exact absurd (by assumption) hc) | skip) | refine Z H ?_ | (refine Zc ?_ ?_ <;> intro hc <;> first | (exfalso; omega) | skip) | (refine Y ?_; try change C _ _ _ _ _ _) | (refine Zs H ?_; clear H; (try clear w); intro w H) | (refine Zn H ?_; clear H; (try clear w); (first | ((fail_if_success (have := bl1)); intro bl1 w H) | ((fail_if_success (have := bl2)); intro bl2 w H) | intro _ w H)) | (refine Ze H ?_; clear H; (try clear w); intro gv w H))
  (refine X.call (kindOf_s (p := p) (k := 2) H ht) ?_; (try clear H); rintro _ w ⟨rfl, H⟩; refine ⟨_, rfl, ?_⟩)
  have em : readM t p at_ n = if (kindOfM t p 2).2 ≠ 0 then ([], (kindOfM t p 2).2) else if at_ < 0 ∨ n < 0 then ([], 4) else
      if (t.n (kindOfM t p 2).1.toNat).size ≤ at_ then ([], 0) else
      ((List.range (least n ((t.n (kindOfM t p 2).1.toNat).size - at_)).toNat).map fun i => peekM t (kindOfM t p 2).1.toNat (at_.toNat + i), 0) := by
    rw [readM, if_neg (by simp [hchk])]
  by_cases hk : (kindOfM t p 2).2 = 0
  rotate_left
  · rw [if_pos hk] at em
    repeat' (first | (refine X.lenL ?_) | (refine X.lv H ?_) | (refine X.lp H ?_) | (refine X.ldT H ?_) | (refine X.stT H ?_; clear H; (try clear w); intro w H) | (refine X.eqL ?_ ?_ <;> intro hc <;> first | (exfalso; first | exact absurd hc (by assumption) | exact absurd (by assumption) hc) | skip) | refine Z H ?_ | (refine Zc ?_ ?_ <;> intro hc <;> first | (exfalso; omega) | skip) | (refine Y ?_; try change C _ _ _ _ _ _) | (refine Zs H ?_; clear H; (try clear w); intro w H) | (refine Zn H ?_; clear H; (try clear w); (first | ((fail_if_success (have := bl1)); intro bl1 w H) | ((fail_if_success (have := bl2)); intro bl2 w H) | intro _ w H)) | (refine Ze H ?_; clear H; (try clear w); intro gv w H))
    exact ⟨_, resTT rfl, none, 0, by rw [em]; rfl, by rw [em]; exact H.tail.nilRow _ _⟩
  rw [if_neg (by simp [hk])] at em
  obtain ⟨f, hf, hkf, hkd, hfd⟩ := kindOfM_range hk
  rw [hkf] at em ⊢
  clear hkf hk
  rw [Int.toNat_natCast] at em
  by_cases hat : at_ < 0
  · rw [if_pos (.inl hat)] at em
    repeat' (first | (refine X.lenL ?_) | (refine X.lv H ?_) | (refine X.lp H ?_) | (refine X.ldT H ?_) | (refine X.stT H ?_; clear H; (try clear w); intro w H) | (refine X.eqL ?_ ?_ <;> intro hc <;> first | (exfalso; first | exact absurd hc (by assumption) | exact absurd (by assumption) hc) | skip) | refine Z H ?_ | (refine Zc ?_ ?_ <;> intro hc <;> first | (exfalso; omega) | skip) | (refine Y ?_; try change C _ _ _ _ _ _) | (refine Zs H ?_; clear H; (try clear w); intro w H) | (refine Zn H ?_; clear H; (try clear w); (first | ((fail_if_success (have := bl1)); intro bl1 w H) | ((fail_if_success (have := bl2)); intro bl2 w H) | intro _ w H)) | (refine Ze H ?_; clear H; (try clear w); intro gv w H))
    exact ⟨_, resTT rfl, none, 0, by rw [em]; rfl, by rw [em]; exact H.tail.nilRow _ _⟩
  by_cases hn0 : n < 0
  · rw [if_pos (.inr hn0)] at em
    repeat' (first | (refine X.lenL ?_) | (refine X.lv H ?_) | (refine X.lp H ?_) | (refine X.ldT H ?_) | (refine X.stT H ?_; clear H; (try clear w); intro w H) | (refine X.eqL ?_ ?_ <;> intro hc <;> first | (exfalso; first | exact absurd hc (by assumption) | exact absurd (by assumption) hc) | skip) | refine Z H ?_ | (refine Zc ?_ ?_ <;> intro hc <;> first | (exfalso; omega) | skip) | (refine Y ?_; try change C _ _ _ _ _ _) | (refine Zs H ?_; clear H; (try clear w); intro w H) | (refine Zn H ?_; clear H; (try clear w); (first | ((fail_if_success (have := bl1)); intro bl1 w H) | ((fail_if_success (have := bl2)); intro bl2 w H) | intro _ w H)) | (refine Ze H ?_; clear H; (try clear w); intro gv w H))
    exact ⟨_, resTT rfl, none, 0, by rw [em]; rfl, by rw [em]; exact H.tail.nilRow _ _⟩
  rw [if_neg (by omega)] at em
  obtain ⟨o, rfl⟩ : ∃ o : Nat, at_ = o := ⟨at_.toNat, by omega⟩
  have hnd := TR.node ht hf
  by_cases hge : (t.n f).size ≤ (o : Int)
  · rw [if_pos hge] at em
    repeat' (first | (refine K.iaA (i := f) rfl rfl rfl rfl rfl hf ?_) | (refine X.lenL ?_) | (refine X.lv H ?_) | (refine X.lp H ?_) | (refine X.ldT H ?_) | (refine X.stT H ?_; clear H; (try clear w); intro w H) | (refine X.eqL ?_ ?_ <;> intro hc <;> first | (exfalso; first | exact absurd hc (by assumption) | exact absurd (by assumption) hc) | skip) | refine Z H ?_ | (refine Zc ?_ ?_ <;> intro hc <;> first | (exfalso; omega) | skip) | (refine Y ?_; try change C _ _ _ _ _ _) | (refine Zs H ?_; clear H; (try clear w); intro w H) | (refine Zn H ?_; clear H; (try clear w); (first | ((fail_if_success (have := bl1)); intro bl1 w H) | ((fail_if_success (have := bl2)); intro bl2 w H) | intro _ w H)) | (refine Ze H ?_; clear H; (try clear w); intro gv w H))
    exact ⟨_, resTT rfl, none, 0, by rw [em]; rfl, by rw [em]; exact H.tail.tail.nilRow _ _⟩
  rw [if_neg hge] at em
  have hsz := file_size ((check_wf ht).1 hchk) hf hkd
  repeat' (first | (refine K.iaA (i := f) rfl rfl rfl rfl rfl hf ?_) | (refine X.min (least n ((t.n f).size - (o : Int))) ?_ rfl) | (refine X.lenL ?_) | (refine X.lv H ?_) | (refine X.lp H ?_) | (refine X.ldT H ?_) | (refine X.stT H ?_; clear H; (try clear w); intro w H) | (refine X.eqL ?_ ?_ <;> intro hc <;> first | (exfalso; first | exact absurd hc (by assumption) | exact absurd (by assumption) hc) | skip) | refine Z H ?_ | (refine Zc ?_ ?_ <;> intro hc <;> first | (exfalso; omega) | skip) | (refine Y ?_; try change C _ _ _ _ _ _) | (refine Zs H ?_; clear H; (try clear w); intro w H) | (refine Zn H ?_; clear H; (try clear w); (first | ((fail_if_success (have := bl1)); intro bl1 w H) | ((fail_if_success (have := bl2)); intro bl2 w H) | intro _ w H)) | (refine Ze H ?_; clear H; (try clear w); intro gv w H))
  obtain ⟨q, hq⟩ : ∃ q : Nat, least n ((t.n f).size - (o : Int)) = (q : Int) := ⟨(least n ((t.n f).size - (o : Int))).toNat, by unfold least; split <;> omega⟩
  have hq80 : q ≤ 80 ∧ (o : Int) + q ≤ (t.n f).size := by unfold least at hq; split at hq <;> omega
  rw [hq] at em ⊢
  refine K.make (k := q) (m := q) H rfl rfl rfl rfl rfl (Nat.le_refl _) (by omega) (by unfold maxLen; omega) ?_
  clear H
  intro g1 w H
  rw [rep_flat] at H
  have H' : Holds s w (row 5 1 (.slice (some ⟨g1, 0, none⟩) q q) q (u8s (bytesN t f o 0 ++ List.replicate (q - 0) 0)) :: var bl2 29 (t.n f).cells :: var bl1 34 t.cells :: R) := by
    rw [show u8s (bytesN t f o 0 ++ List.replicate (q - 0) 0) = List.replicate q (Value.int .u8 0) by simp [bytesN, u8s, u8]]; exact H
  clear H
  have H := H'
  clear H'
  rw [Int.toNat_natCast, Int.toNat_natCast] at em
  have hbk := bksJ_iff.2 (bks_of hchk hf)
  have hw := (check_wf ht).1 hchk
  have hf1 := file_pos hw.root hkd
  repeat' (first | (refine X.lenL ?_) | (refine X.lv H ?_) | (refine X.lp H ?_) | (refine X.ldT H ?_) | (refine X.stT H ?_; clear H; (try clear w); intro w H) | (refine X.eqL ?_ ?_ <;> intro hc <;> first | (exfalso; first | exact absurd hc (by assumption) | exact absurd (by assumption) hc) | skip) | refine Z H ?_ | (refine Zc ?_ ?_ <;> intro hc <;> first | (exfalso; omega) | skip) | (refine Y ?_; try change C _ _ _ _ _ _) | (refine Zs H ?_; clear H; (try clear w); intro w H) | (refine Zn H ?_; clear H; (try clear w); (first | ((fail_if_success (have := bl1)); intro bl1 w H) | ((fail_if_success (have := bl2)); intro bl2 w H) | intro _ w H)) | (refine Ze H ?_; clear H; (try clear w); intro gv w H))
  refine C.loopR H [14, 15, 50, 51, 52, 53, 54, 55, 56, 57, 58, 59, 60, 61, 62, 63, 64, 65, 66, 67, 68, 69, 70, 71] [50] rfl (fun m vs A => ∃ i : Nat, m = q - i ∧ i ≤ q ∧ vs = [.int .i64 (i : Int)] ∧ A = row 5 1 (.slice (some ⟨g1, 0, none⟩) q q) q (u8s (bytesN t f o i ++ List.replicate (q - i) 0))) q ⟨0, rfl, Nat.zero_le _, rfl, rfl⟩ ?_
  clear H
  rintro m vs hv w A ⟨i, rfl, hi, rfl, rfl⟩ H
  by_cases hlt : i < q
  rotate_left
  · obtain rfl : i = q := by omega
    repeat' (first | (refine X.lenL ?_) | (refine X.lv H ?_) | (refine X.lp H ?_) | (refine X.ldT H ?_) | (refine X.stT H ?_; clear H; (try clear w); intro w H) | (refine X.eqL ?_ ?_ <;> intro hc <;> first | (exfalso; first | exact absurd hc (by assumption) | exact absurd (by assumption) hc) | skip) | refine Z H ?_ | (refine Zc ?_ ?_ <;> intro hc <;> first | (exfalso; omega) | skip) | (refine Y ?_; try change C _ _ _ _ _ _) | (refine Zs H ?_; clear H; (try clear w); intro w H) | (refine Zn H ?_; clear H; (try clear w); (first | ((fail_if_success (have := bl1)); intro bl1 w H) | ((fail_if_success (have := bl2)); intro bl2 w H) | intro _ w H)) | (refine Ze H ?_; clear H; (try clear w); intro gv w H))
    have eb : (readM t p (o : Int) n).1 = bytesN t f o i := by rw [em]; rfl
    rw [Nat.sub_self, List.replicate_zero, List.append_nil] at H
    have hl : (bytesN t f o i).length = i := bytesN_len
    refine ⟨_, resTT rfl, some ⟨g1, 0, none⟩, i, ?_, ?_⟩
    · rw [eb, hl, em]; rfl
    · rw [eb, hl]
      exact H.drop1.drop1
  have hj2 : (o + i) / 40 < 2 := by omega
  have hbc : (t.n f).cells[4 + (o + i) / 40 * 1]? = some (.int .i64 ((t.n f).blk ((o + i) / 40))) := by
    rcases (show (o + i) / 40 = 0 ∨ (o + i) / 40 = 1 by omega) with e | e <;> rw [e] <;> rfl
  have hp0 := blk_pos hw hf1 hf hkd hj2 (by have := Nat.div_mul_le_self (o + i) 40; omega)
  have hb8 := hbk _ hj2
  have hq' : (t.n f).blk ((o + i) / 40) - 1 = (((t.n f).blk ((o + i) / 40) - 1).toNat : Int) := by omega
  have hq8 : ((t.n f).blk ((o + i) / 40) - 1).toNat < 8 := by omega
  obtain ⟨y, hy⟩ : ∃ y, y = (o + i) % 40 := ⟨_, rfl⟩
  have hm40 : y < 40 := by rw [hy]; exact Nat.mod_lt _ (by omega)
  have hby := TR.byte ht hq8 hm40 (x := peekM t f (o + i)) (by
    unfold peekM
    rw [hy, List.getElem?_eq_getElem (by rw [TR.b_len ht hq8]; exact Nat.mod_lt _ (by omega))]; rfl)
  have hln : 0 + i * 1 < (u8s (bytesN t f o i ++ List.replicate (q - i) 0)).length := by rw [u8s_len, List.length_append, bytesN_len, List.length_replicate]; omega
  have hst := bytesN_set (t := t) (f := f) (o := o) hlt
  generalize peekM t f (o + i) = x at *
  repeat' (first | (refine X.quoI (o + i) 40 rfl (by decide) (by omega) ?_) | (refine X.remI (o + i) 40 y rfl (by decide) hy.symm ?_) | (refine K.iaA (i := (o + i) / 40) rfl rfl rfl rfl rfl hj2 ?_) | (refine K.iaA (i := y) rfl rfl rfl rfl rfl hm40 ?_) | (refine K.iaA (i := ((t.n f).blk ((o + i) / 40) - 1).toNat) rfl rfl rfl rfl hq' hq8 ?_) | (refine X.rst H ?_ (hl := hln); clear H; intro w H) | (refine X.lenL ?_) | (refine X.lv H ?_) | (refine X.lp H ?_) | (refine X.ldT H ?_) | (refine X.stT H ?_; clear H; (try clear w); intro w H) | (refine X.eqL ?_ ?_ <;> intro hc <;> first | (exfalso; first | exact absurd hc (by assumption) | exact absurd (by assumption) hc) | skip) | refine Z H ?_ | (refine Zc ?_ ?_ <;> intro hc <;> first | (exfalso; omega) | skip) | (refine Y ?_; try change C _ _ _ _ _ _) | (refine Zs H ?_; clear H; (try clear w); intro w H) | (refine Zn H ?_; clear H; (try clear w); (first | ((fail_if_success (have := bl1)); intro bl1 w H) | ((fail_if_success (have := bl2)); intro bl2 w H) | intro _ w H)) | (refine Ze H ?_; clear H; (try clear w); intro gv w H))
  replace hst : (u8s (bytesN t f o i ++ List.replicate (q - i) 0)).set (0 + i * 1) (Value.int .u8 (x.toNat : Int)) = _ := hst
  rw [hst] at H
  exact ⟨by (repeat (first | exact Agr.refl | exact Agr.hav | refine Agr.upd rfl ?_ | refine Agr.in rfl ?_)), q - (i + 1), by omega, _, ⟨i + 1, rfl, by omega, rfl, rfl⟩, H⟩
end
end Go.Proofs.Ytlchnabnhimlcaa

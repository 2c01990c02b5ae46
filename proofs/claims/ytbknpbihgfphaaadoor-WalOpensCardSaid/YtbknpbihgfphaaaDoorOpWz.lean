/- The document's State of sectors, walked. -/
import Derived.Test.YtbknpbihgfphaaaDoorOpWu
import Derived.Test.YtbknpbihgfphaaaDoorOpWi
import Derived.Test.YtbknpbihgfphaaaDoorOpWk
set_option linter.unusedSimpArgs false
set_option linter.unusedVariables false
namespace Go.Proofs.YtbknpbihgfphaaaDoor
open Go Go.RowKit Go.Own
abbrev logZ (e h u : Nat) (pa : Option Addr) (pn pc : Nat) : List Value := [.slice none 0 0, .slice none 0 0, .bool false, .int .i64 0, .slice none 0 0, .int .i64 0, .slice pa pn pc, .int .u32 (e : Int), .int .i64 (h : Int), .int .i64 (u : Int), .bool false]
theorem candW_lt {l : List UInt8} {i e h : Nat} (hc : candW l i = some (e, h)) : e < 2 ^ 32 := by
  unfold candW at hc
  split at hc
  · rename_i hd
    split at hc
    · split at hc
      · cases hc; exact decW_lt hd
      · cases hc
    · cases hc
  · cases hc
theorem accC_lt {c : Nat → List UInt8} {e h : Nat} : ∀ i, accC c i = some (e, h) → e < 2 ^ 32
  | 0, hc => by cases hc
  | i + 1, hc => by
    have h1 : pickW (accC c i) (candW (c i) i) = some (e, h) := hc
    rcases pickW_or h1 with h2 | h2
    · exact accC_lt i h2.symm
    · exact candW_lt h2.symm
def secL (L : List (List UInt8)) (k : Nat) : List UInt8 := L[k]?.getD []
theorem build_z16 (w : World) : (Instr.build 86 ([] : List (Nat × Value)).toArray).run Tryd.prog w = .ok (.agg (logZ 0 0 0 none 0 0).toArray) w := by kernel_rfl
theorem pgs_snoc {ps b : List UInt8} {i : Nat} (hl : ps.length = 640) (hb : b.length = 40) (hi : i < 16) : strs ((List.range (i + 1)).map (getP (setP ps i b))) = strs ((List.range i).map (getP ps)) ++ [.string (bst b)] := by
  rw [List.range_succ, List.map_append, strs_app]
  congr 1
  · congr 1
    refine List.map_congr_left (fun j hj => ?_)
    have := List.mem_range.1 hj
    rw [getP_setP hl hb hi (by omega), if_neg (by omega)]
  · rw [List.map_cons, getP_setP hl hb hi hi, if_pos rfl]; rfl
theorem pages_none {c : Nat → List UInt8} {e h i : Nat} {l ps : List UInt8} (hi : i < 16) (hA : l ≠ secW 80 e ([UInt8.ofNat i] ++ (l.drop 6).take 40)) (hs : pagesC c e h (16 - i) i ps = match decW 80 41 l with
    | some (e', b :: r) => if e' = e ∧ b.toNat = i then pagesC c e h (16 - (i + 1)) (i + 1) (setP ps i r) else none
    | _ => none) : pagesC c e h (16 - i) i ps = none := by
  rw [hs]
  cases hd : decW 80 41 l with
  | none => rfl
  | some p =>
    obtain ⟨e', r⟩ := p
    have hr := decW_len hd (by decide)
    match r, hr with
    | b :: r, _ => exact if_neg (page_no hA hd)
section
variable {s : Ro} {w : World} {R : List Asn}
set_option maxRecDepth 100000 in
set_option maxHeartbeats 1000000 in
theorem State16_s {v : Value} {Ls : List (List UInt8)} (H : Holds s w R) (hL : Ls.length = 52) (h64 : ∀ x ∈ Ls, x.length = 64) (hS : SlS s v 1 Ls.length (strs Ls)) : Calls Tryd.prog 86 #[v] w fun y w' => ∃ s' cs code, y = .returned (.tuple #[.agg cs.toArray, .int .i64 code]) ∧ s.Le s' ∧ Holds s' w' R ∧
    ((openC (secL Ls) = (none, code) ∧ code ≠ 0 ∧ cs = logZ 0 0 0 none 0 0) ∨ ∃ m pa pc, openC (secL Ls) = (some m, 0) ∧ code = 0 ∧ cs = logZ m.epoch m.home m.used pa 16 pc ∧ m.dead = false ∧ SlS s' (.slice pa 16 pc) 1 16 (strs (pgsOf m.pages))) := by
  have hne : 0 < Ls.length := by omega
  obtain ⟨g, o, c', hsv, _, _, hpp⟩ := posS hS hne (by decide)
  cases hsv
  have hpin : ∀ k, k < 52 → Pin s g (o + k * 1) (.string (bst (secL Ls k))) := fun k hk => by
    rw [Nat.mul_one]
    exact hpp k _ (by unfold strs secL; rw [List.getElem?_map, List.getElem?_eq_getElem (by omega)]; rfl)
  have h64' : ∀ k, k < 52 → (secL Ls k).length = 64 := fun k hk => by unfold secL; rw [List.getElem?_eq_getElem (by omega)]; exact h64 _ (List.getElem_mem _)
  rw [hL] at hS ⊢
  clear hpp hne
  generalize secL Ls = c at *
  refine enter Tryd.func86 rfl Tryd.ntmps86 rfl ?_
  repeat' (first | refine Z H ?_ | (refine Zc ?_ ?_ <;> intro hc <;> first | (exfalso; omega) | skip) | (refine Y ?_; try change C _ _ _ _ _ _) | (refine Zs H ?_; clear H; (try clear w); intro w H) | (refine Zn H ?_; clear H; (try clear w); (first | ((fail_if_success (have := bl1)); intro bl1 w H) | ((fail_if_success (have := bl2)); intro bl2 w H) | intro _ w H)) | (refine Ze H ?_; clear H; (try clear w); intro gv w H))
  refine K.build [] _ build_z16 rfl rfl rfl ?_
  repeat' (first | refine Z H ?_ | (refine Zc ?_ ?_ <;> intro hc <;> first | (exfalso; omega) | skip) | (refine Y ?_; try change C _ _ _ _ _ _) | (refine Zs H ?_; clear H; (try clear w); intro w H) | (refine Zn H ?_; clear H; (try clear w); (first | ((fail_if_success (have := bl1)); intro bl1 w H) | ((fail_if_success (have := bl2)); intro bl2 w H) | intro _ w H)) | (refine Ze H ?_; clear H; (try clear w); intro gv w H))
  have H' : Holds s w (var bl2 86 (logZ ((accC c 0).getD (0, 0)).1 ((accC c 0).getD (0, 0)).2 0 none 0 0) :: var bl1 86 zlog16 :: R) := H
  clear H
  refine C.loopS [5, 6, 7, 8, 16, 17, 18, 19, 20, 21, 22, 23, 24, 25, 26, 27, 28, 29, 30, 31, 32, 33, 34, 35, 36, 37, 38, 39, 40, 41, 42, 43, 44, 45, 46, 47, 48, 49, 50, 51, 52, 53, 54, 55, 56, 57, 58, 59, 60, 61, 62, 63, 64, 65, 66, 67] [5, 6] rfl (fun k vs w => ∃ i : Nat, ∃ s', k = 2 - i ∧ i ≤ 2 ∧ vs = [.bool (accC c i).isSome, .int .i64 (i : Int)] ∧ s.Le s' ∧ Holds s' w (var bl2 86 (logZ ((accC c i).getD (0, 0)).1 ((accC c i).getD (0, 0)).2 0 none 0 0) :: var bl1 86 zlog16 :: R)) 2 ⟨0, s, rfl, Nat.zero_le _, rfl, Ro.Le.refl _, H'⟩ ?_
  clear H'
  rintro k vs hv w ⟨i, s1, rfl, hi, rfl, hs1, H⟩
  by_cases hlt : i < 2
  · have pn := (hpin i (by omega)).mono hs1
    have hl64 := h64' i (by omega)
    have hacc : accC c (i + 1) = pickW (accC c i) (candW (c i) i) := rfl
    generalize c i = l at *
    have w5 : b5 l % 2 ^ 8 = b5 l := Nat.mod_eq_of_lt (b5_lt l)
    have we : ep0 l % 2 ^ 32 = ep0 l := Nat.mod_eq_of_lt (ep0_lt l)
    have hb5 := b5_lt l
    have hb5e : (l[5]?.getD 0).toNat = b5 l := rfl
    have hep := ep0_lt l
    have h14 : ((l.drop 1).take (5 - 1)).length = 4 := by rw [List.length_take, List.length_drop]; omega
    repeat' (first | (refine K.ia (i := i) rfl rfl rfl rfl rfl (by omega) ?_) | (refine K.sub_ (l := 1) (h' := 5) rfl rfl rfl rfl rfl rfl rfl (by decide) (by rw [bst_size]; omega) ?_; rw [bst_extract]) | refine Z H ?_ | (refine Zc ?_ ?_ <;> intro hc <;> first | (exfalso; omega) | skip) | (refine Y ?_; try change C _ _ _ _ _ _) | (refine Zs H ?_; clear H; (try clear w); intro w H) | (refine Zn H ?_; clear H; (try clear w); (first | ((fail_if_success (have := bl1)); intro bl1 w H) | ((fail_if_success (have := bl2)); intro bl2 w H) | intro _ w H)) | (refine Ze H ?_; clear H; (try clear w); intro gv w H))
    refine X.bts (l := (l.drop 1).take (5 - 1)) H ?_ Tryd.underlying5 (hl := by rw [h14]; decide)
    clear H
    intro s2 gb cb w hs2 H hS2
    repeat' (first | refine Z H ?_ | (refine Zc ?_ ?_ <;> intro hc <;> first | (exfalso; omega) | skip) | (refine Y ?_; try change C _ _ _ _ _ _) | (refine Zs H ?_; clear H; (try clear w); intro w H) | (refine Zn H ?_; clear H; (try clear w); (first | ((fail_if_success (have := bl1)); intro bl1 w H) | ((fail_if_success (have := bl2)); intro bl2 w H) | intro _ w H)) | (refine Ze H ?_; clear H; (try clear w); intro gv w H))
    (refine X.call (Number2_s H hS2 (by omega)) ?_; (try clear H); rintro _ w ⟨rfl, H⟩; refine ⟨_, rfl, ?_⟩)
    have hnum : numN ((l.drop 1).take (5 - 1)) = ep0 l := rfl
    rw [hnum]
    replace pn := pn.mono hs2
    repeat' (first | (refine B.conv Tryd.underlying145 ?_; rw [we]) | (refine K.ia (i := i) rfl rfl rfl rfl rfl (by omega) ?_) | refine Z H ?_ | (refine Zc ?_ ?_ <;> intro hc <;> first | (exfalso; omega) | skip) | (refine Y ?_; try change C _ _ _ _ _ _) | (refine Zs H ?_; clear H; (try clear w); intro w H) | (refine Zn H ?_; clear H; (try clear w); (first | ((fail_if_success (have := bl1)); intro bl1 w H) | ((fail_if_success (have := bl2)); intro bl2 w H) | intro _ w H)) | (refine Ze H ?_; clear H; (try clear w); intro gv w H))
    refine X.sidx (l := l) 5 ?_
    rw [hb5e]
    refine K.convI Tryd.underlying5 rfl rfl rfl ?_
    rw [IntWalk.i64_in ((b5 l : Nat) : Int) (by omega)]
    repeat' (first | refine Z H ?_ | (refine Zc ?_ ?_ <;> intro hc <;> first | (exfalso; omega) | skip) | (refine Y ?_; try change C _ _ _ _ _ _) | (refine Zs H ?_; clear H; (try clear w); intro w H) | (refine Zn H ?_; clear H; (try clear w); (first | ((fail_if_success (have := bl1)); intro bl1 w H) | ((fail_if_success (have := bl2)); intro bl2 w H) | intro _ w H)) | (refine Ze H ?_; clear H; (try clear w); intro gv w H))
    refine C.drawn2 [bl2, g] [0, 0, 0, 1, 0, 0, 2, 2, 0, 0, 0, 0, 0, 0, 0, 0, 0, 0, 0, 0, 0, 0, 0, 0, 0, 0, 4, 0, 0, 0] [7, 1] [0, 0, 3, 7, 0, 0, 32, 112, 255, 511, 1023, 2047, 4095, 1023, 16383, 32767, 65535, 131071, 262143, 524287, 1048575, 2097151, 4194303, 8388607, 16777215, 16777215, 50331647, 134217727, 268435455, 536870911] (by kernel_rfl) ?_; replace H := H.drew; simp only [segL, List.take_succ_cons, List.take_zero, List.drop_succ_cons, List.drop_zero]; have H0 := H
    repeat' (first | (refine K.ia (i := i) rfl rfl rfl rfl rfl (by omega) ?_) | refine Z H ?_ | (refine Zc ?_ ?_ <;> intro hc <;> first | (exfalso; omega) | skip) | (refine Y ?_; try change C _ _ _ _ _ _) | (refine Zs H ?_; clear H; (try clear w); intro w H) | (refine Zn H ?_; clear H; (try clear w); (first | ((fail_if_success (have := bl1)); intro bl1 w H) | ((fail_if_success (have := bl2)); intro bl2 w H) | intro _ w H)) | (refine Ze H ?_; clear H; (try clear w); intro gv w H))
    (refine X.call (one_s (n := b5 l) H hb5) ?_; (try clear H); rintro _ w ⟨rfl, H⟩; refine ⟨_, rfl, ?_⟩); refine L.nil ?_; refine ⟨rfl, rfl, (by repeat (first | exact subN_nil | refine subN_cons (by simp) ?_)), (by first | exact keep_same | (repeat (first | exact keepV H0 H | exact keepP H0 H | exact keep_nil | refine keep_cons ?_ ?_))), ?_⟩; clear H0; have H0 := H
    repeat' (first | refine Z H ?_ | (refine Zc ?_ ?_ <;> intro hc <;> first | (exfalso; omega) | skip) | (refine Y ?_; try change C _ _ _ _ _ _) | (refine Zs H ?_; clear H; (try clear w); intro w H) | (refine Zn H ?_; clear H; (try clear w); (first | ((fail_if_success (have := bl1)); intro bl1 w H) | ((fail_if_success (have := bl2)); intro bl2 w H) | intro _ w H)) | (refine Ze H ?_; clear H; (try clear w); intro gv w H))
    have hmod := IntWalk.i64_in ((ep0 l % 2 : Nat) : Int) (by omega)
    by_cases hA : l = headB (ep0 l) (b5 l) ∧ ep0 l % 2 = i ∧ b5 l < 2
    · obtain ⟨hA1, hA2, hA3⟩ := hA
      rw [cand_yes hA1 hA2 hA3] at hacc
      (refine X.call (Sector16_s (c := 72) (e := ep0 l) (m := [UInt8.ofNat (b5 l)]) H hep (by simp)) ?_; (try clear H); rintro _ w ⟨s3, rfl, hs3, H⟩; refine ⟨_, rfl, ?_⟩); refine L.nil ?_; refine ⟨rfl, rfl, (by repeat (first | exact subN_nil | refine subN_cons (by simp) ?_)), (by first | exact keep_same | (repeat (first | exact keepV H0 H | exact keepP H0 H | exact keep_nil | refine keep_cons ?_ ?_))), ?_⟩; clear H0; have H0 := H
      rw [show secW 72 (ep0 l) [UInt8.ofNat (b5 l)] = headB (ep0 l) (b5 l) from rfl]
      cases ha : accC c i with
      | none =>
        rw [ha] at hacc H H0
        repeat' (first | (refine J.eqS (fun _ => ?_) (fun hq => absurd (congrArg bst hA1) hq)) | (refine B.rem (a := ep0 l) (b := 2) ?_) | (refine K.convI Tryd.underlying32 rfl rfl rfl ?_; rw [hmod]) | refine Z H ?_ | (refine Zc ?_ ?_ <;> intro hc <;> first | (exfalso; omega) | skip) | (refine Y ?_; try change C _ _ _ _ _ _) | (refine Zs H ?_; clear H; (try clear w); intro w H) | (refine Zn H ?_; clear H; (try clear w); (first | ((fail_if_success (have := bl1)); intro bl1 w H) | ((fail_if_success (have := bl2)); intro bl2 w H) | intro _ w H)) | (refine Ze H ?_; clear H; (try clear w); intro gv w H))
        refine ⟨rfl, rfl, (by repeat (first | exact subN_nil | refine subN_cons (by simp) ?_)), (by first | exact keep_same | (repeat (first | exact keepV H0 H | exact keepP H0 H | exact keep_nil | refine keep_cons ?_ ?_))), ?_⟩; clear H0; have H0 := H
        repeat' (first | refine Z H ?_ | (refine Zc ?_ ?_ <;> intro hc <;> first | (exfalso; omega) | skip) | (refine Y ?_; try change C _ _ _ _ _ _) | (refine Zs H ?_; clear H; (try clear w); intro w H) | (refine Zn H ?_; clear H; (try clear w); (first | ((fail_if_success (have := bl1)); intro bl1 w H) | ((fail_if_success (have := bl2)); intro bl2 w H) | intro _ w H)) | (refine Ze H ?_; clear H; (try clear w); intro gv w H))
        exact ⟨by (repeat (first | exact Agr.refl | exact Agr.hav | refine Agr.upd rfl ?_ | refine Agr.in rfl ?_)), 2 - (i + 1), by omega, i + 1, s3, rfl, by omega, by rw [hacc]; rfl, (hs1.trans hs2).trans hs3, by rw [hacc]; exact H⟩
      | some p =>
        obtain ⟨e1, h1⟩ := p
        rw [ha] at hacc H H0
        repeat' (first | (refine J.eqS (fun _ => ?_) (fun hq => absurd (congrArg bst hA1) hq)) | (refine B.rem (a := ep0 l) (b := 2) ?_) | (refine K.convI Tryd.underlying32 rfl rfl rfl ?_; rw [hmod]) | refine Z H ?_ | (refine Zc ?_ ?_ <;> intro hc <;> first | (exfalso; omega) | skip) | (refine Y ?_; try change C _ _ _ _ _ _) | (refine Zs H ?_; clear H; (try clear w); intro w H) | (refine Zn H ?_; clear H; (try clear w); (first | ((fail_if_success (have := bl1)); intro bl1 w H) | ((fail_if_success (have := bl2)); intro bl2 w H) | intro _ w H)) | (refine Ze H ?_; clear H; (try clear w); intro gv w H))
        all_goals
          refine ⟨rfl, rfl, (by repeat (first | exact subN_nil | refine subN_cons (by simp) ?_)), (by first | exact keep_same | (repeat (first | exact keepV H0 H | exact keepP H0 H | exact keep_nil | refine keep_cons ?_ ?_))), ?_⟩; clear H0; have H0 := H
          repeat' (first | refine Z H ?_ | (refine Zc ?_ ?_ <;> intro hc <;> first | (exfalso; omega) | skip) | (refine Y ?_; try change C _ _ _ _ _ _) | (refine Zs H ?_; clear H; (try clear w); intro w H) | (refine Zn H ?_; clear H; (try clear w); (first | ((fail_if_success (have := bl1)); intro bl1 w H) | ((fail_if_success (have := bl2)); intro bl2 w H) | intro _ w H)) | (refine Ze H ?_; clear H; (try clear w); intro gv w H))
        · have hpk : pickW (some (e1, h1)) (some (ep0 l, b5 l)) = some (ep0 l, b5 l) := if_pos (by simp only [Option.getD_some] at hc; omega)
          rw [hpk] at hacc
          exact ⟨by (repeat (first | exact Agr.refl | exact Agr.hav | refine Agr.upd rfl ?_ | refine Agr.in rfl ?_)), 2 - (i + 1), by omega, i + 1, s3, rfl, by omega, by rw [hacc]; rfl, (hs1.trans hs2).trans hs3, by rw [hacc]; exact H⟩
        · have hpk : pickW (some (e1, h1)) (some (ep0 l, b5 l)) = some (e1, h1) := if_neg (by simp only [Option.getD_some] at hc; omega)
          rw [hpk] at hacc
          exact ⟨by (repeat (first | exact Agr.refl | exact Agr.hav | refine Agr.upd rfl ?_ | refine Agr.in rfl ?_)), 2 - (i + 1), by omega, i + 1, s3, rfl, by omega, by rw [hacc]; rfl, (hs1.trans hs2).trans hs3, by rw [hacc]; exact H⟩
    · rw [cand_no hA, pickW_none] at hacc
      (refine X.call (Sector16_s (c := 72) (e := ep0 l) (m := [UInt8.ofNat (b5 l)]) H hep (by simp)) ?_; (try clear H); rintro _ w ⟨s3, rfl, hs3, H⟩; refine ⟨_, rfl, ?_⟩); refine L.nil ?_; refine ⟨rfl, rfl, (by repeat (first | exact subN_nil | refine subN_cons (by simp) ?_)), (by first | exact keep_same | (repeat (first | exact keepV H0 H | exact keepP H0 H | exact keep_nil | refine keep_cons ?_ ?_))), ?_⟩; clear H0; have H0 := H
      rw [show secW 72 (ep0 l) [UInt8.ofNat (b5 l)] = headB (ep0 l) (b5 l) from rfl]
      by_cases hA1 : l = headB (ep0 l) (b5 l)
      · repeat' (first | (refine J.eqS (fun _ => ?_) (fun hq => absurd (congrArg bst hA1) hq)) | (refine B.rem (a := ep0 l) (b := 2) ?_) | (refine K.convI Tryd.underlying32 rfl rfl rfl ?_; rw [hmod]) | refine Z H ?_ | (refine Zc ?_ ?_ <;> intro hc <;> first | (exfalso; omega) | skip) | (refine Y ?_; try change C _ _ _ _ _ _) | (refine Zs H ?_; clear H; (try clear w); intro w H) | (refine Zn H ?_; clear H; (try clear w); (first | ((fail_if_success (have := bl1)); intro bl1 w H) | ((fail_if_success (have := bl2)); intro bl2 w H) | intro _ w H)) | (refine Ze H ?_; clear H; (try clear w); intro gv w H))
        · exact absurd ⟨hA1, by omega, by omega⟩ hA
        all_goals
          refine ⟨rfl, rfl, (by repeat (first | exact subN_nil | refine subN_cons (by simp) ?_)), (by first | exact keep_same | (repeat (first | exact keepV H0 H | exact keepP H0 H | exact keep_nil | refine keep_cons ?_ ?_))), ?_⟩; clear H0; have H0 := H
          repeat' (first | refine Z H ?_ | (refine Zc ?_ ?_ <;> intro hc <;> first | (exfalso; omega) | skip) | (refine Y ?_; try change C _ _ _ _ _ _) | (refine Zs H ?_; clear H; (try clear w); intro w H) | (refine Zn H ?_; clear H; (try clear w); (first | ((fail_if_success (have := bl1)); intro bl1 w H) | ((fail_if_success (have := bl2)); intro bl2 w H) | intro _ w H)) | (refine Ze H ?_; clear H; (try clear w); intro gv w H))
          exact ⟨by (repeat (first | exact Agr.refl | exact Agr.hav | refine Agr.upd rfl ?_ | refine Agr.in rfl ?_)), 2 - (i + 1), by omega, i + 1, s3, rfl, by omega, by rw [hacc]; rfl, (hs1.trans hs2).trans hs3, by rw [hacc]; exact H⟩
      · repeat' (first | (refine J.eqS (fun hq => absurd (bst_inj hq) hA1) (fun _ => ?_)) | refine Z H ?_ | (refine Zc ?_ ?_ <;> intro hc <;> first | (exfalso; omega) | skip) | (refine Y ?_; try change C _ _ _ _ _ _) | (refine Zs H ?_; clear H; (try clear w); intro w H) | (refine Zn H ?_; clear H; (try clear w); (first | ((fail_if_success (have := bl1)); intro bl1 w H) | ((fail_if_success (have := bl2)); intro bl2 w H) | intro _ w H)) | (refine Ze H ?_; clear H; (try clear w); intro gv w H))
        refine ⟨rfl, rfl, (by repeat (first | exact subN_nil | refine subN_cons (by simp) ?_)), (by first | exact keep_same | (repeat (first | exact keepV H0 H | exact keepP H0 H | exact keep_nil | refine keep_cons ?_ ?_))), ?_⟩; clear H0; have H0 := H
        repeat' (first | refine Z H ?_ | (refine Zc ?_ ?_ <;> intro hc <;> first | (exfalso; omega) | skip) | (refine Y ?_; try change C _ _ _ _ _ _) | (refine Zs H ?_; clear H; (try clear w); intro w H) | (refine Zn H ?_; clear H; (try clear w); (first | ((fail_if_success (have := bl1)); intro bl1 w H) | ((fail_if_success (have := bl2)); intro bl2 w H) | intro _ w H)) | (refine Ze H ?_; clear H; (try clear w); intro gv w H))
        exact ⟨by (repeat (first | exact Agr.refl | exact Agr.hav | refine Agr.upd rfl ?_ | refine Agr.in rfl ?_)), 2 - (i + 1), by omega, i + 1, s3, rfl, by omega, by rw [hacc]; rfl, (hs1.trans hs2).trans hs3, by rw [hacc]; exact H⟩
  · have hie : i = 2 := by omega
    subst hie
    cases hacc : accC c 2 with
    | none =>
      rw [hacc] at H
      have hopen : openC c = (none, 6) := by unfold openC; rw [hacc]
      repeat' (first | refine Z H ?_ | (refine Zc ?_ ?_ <;> intro hc <;> first | (exfalso; omega) | skip) | (refine Y ?_; try change C _ _ _ _ _ _) | (refine Zs H ?_; clear H; (try clear w); intro w H) | (refine Zn H ?_; clear H; (try clear w); (first | ((fail_if_success (have := bl1)); intro bl1 w H) | ((fail_if_success (have := bl2)); intro bl2 w H) | intro _ w H)) | (refine Ze H ?_; clear H; (try clear w); intro gv w H))
      refine K.build [] _ build_z16 rfl rfl rfl ?_
      repeat' (first | refine Z H ?_ | (refine Zc ?_ ?_ <;> intro hc <;> first | (exfalso; omega) | skip) | (refine Y ?_; try change C _ _ _ _ _ _) | (refine Zs H ?_; clear H; (try clear w); intro w H) | (refine Zn H ?_; clear H; (try clear w); (first | ((fail_if_success (have := bl1)); intro bl1 w H) | ((fail_if_success (have := bl2)); intro bl2 w H) | intro _ w H)) | (refine Ze H ?_; clear H; (try clear w); intro gv w H))
      exact ⟨_, resVT H rfl, s1, _, 6, rfl, hs1, H.tail.tail, .inl ⟨hopen, by decide, rfl⟩⟩
    | some p =>
      obtain ⟨e, h⟩ := p
      have hh := accC_h 2 hacc
      have he : e < 2 ^ 32 := accC_lt 2 hacc
      have hopen : openC c = match pagesC c e h 16 0 z640 with
        | none => (none, 8)
        | some ps => (some ⟨e, h, (recsC c e 18 0 ps 0 []).2, (recsC c e 18 0 ps 0 []).1, false⟩, 0) := by unfold openC; rw [hacc]; rfl
      rw [hacc] at H
      repeat' (first | refine Z H ?_ | (refine Zc ?_ ?_ <;> intro hc <;> first | (exfalso; omega) | skip) | (refine Y ?_; try change C _ _ _ _ _ _) | (refine Zs H ?_; clear H; (try clear w); intro w H) | (refine Zn H ?_; clear H; (try clear w); (first | ((fail_if_success (have := bl1)); intro bl1 w H) | ((fail_if_success (have := bl2)); intro bl2 w H) | intro _ w H)) | (refine Ze H ?_; clear H; (try clear w); intro gv w H))
      have H' := H.nilRow 9 1
      clear H
      refine C.loopS [3, 9, 10, 71, 72, 73, 74, 75, 76, 77, 78, 79, 80, 81, 82, 83, 84, 85, 86, 87, 88, 89, 90, 91, 92, 93, 94, 95, 96, 97, 98, 99, 100, 101] [9] rfl (fun k vs w => ∃ i : Nat, ∃ s' ps pa pc, k = 16 - i ∧ i ≤ 16 ∧ vs = [.int .i64 (i : Int)] ∧ s1.Le s' ∧ ps.length = 640 ∧ pagesC c e h 16 0 z640 = pagesC c e h (16 - i) i ps ∧ Holds s' w (row 9 1 (.slice pa i pc) i (strs ((List.range i).map (getP ps))) :: var bl2 86 (logZ e h 0 pa i pc) :: var bl1 86 zlog16 :: R)) 16 ⟨0, s1, z640, none, 0, rfl, Nat.zero_le _, rfl, Ro.Le.refl _, List.length_replicate, rfl, H'⟩ ?_
      clear H'
      rintro k vs hv w ⟨i, s2, ps, pa, pc, rfl, hi, rfl, hs2, hpl, hpg, H⟩
      have hs12 := hs1.trans hs2
      by_cases hlt : i < 16
      · have pn := (hpin (2 + 16 * h + i) (by omega)).mono hs12
        have hl64 := h64' (2 + 16 * h + i) (by omega)
        have hstep : pagesC c e h (16 - i) i ps = match decW 80 41 (c (2 + 16 * h + i)) with
          | some (e', b :: r) => if e' = e ∧ b.toNat = i then pagesC c e h (16 - (i + 1)) (i + 1) (setP ps i r) else none
          | _ => none := by
          rw [show 16 - i = (16 - (i + 1)) + 1 by omega]
          rfl
        generalize c (2 + 16 * h + i) = l at *
        have e0 : (2 : Int) + 16 * (h : Int) + (i : Int) = ((2 + 16 * h + i : Nat) : Int) := by omega
        repeat' (first | (refine J.mul ?_) | refine Z H ?_ | (refine Zc ?_ ?_ <;> intro hc <;> first | (exfalso; omega) | skip) | (refine Y ?_; try change C _ _ _ _ _ _) | (refine Zs H ?_; clear H; (try clear w); intro w H) | (refine Zn H ?_; clear H; (try clear w); (first | ((fail_if_success (have := bl1)); intro bl1 w H) | ((fail_if_success (have := bl2)); intro bl2 w H) | intro _ w H)) | (refine Ze H ?_; clear H; (try clear w); intro gv w H))
        refine K.ia (i := 2 + 16 * h + i) rfl rfl rfl rfl e0 (by omega) ?_
        have h40 : ((l.drop 6).take (46 - 6)).length = 40 := by rw [List.length_take, List.length_drop]; omega
        have hsl : ((l.drop 6).take (46 - 6)) = (l.drop 6).take 40 := rfl
        repeat' (first | refine Z H ?_ | (refine Zc ?_ ?_ <;> intro hc <;> first | (exfalso; omega) | skip) | (refine Y ?_; try change C _ _ _ _ _ _) | (refine Zs H ?_; clear H; (try clear w); intro w H) | (refine Zn H ?_; clear H; (try clear w); (first | ((fail_if_success (have := bl1)); intro bl1 w H) | ((fail_if_success (have := bl2)); intro bl2 w H) | intro _ w H)) | (refine Ze H ?_; clear H; (try clear w); intro gv w H))
        refine C.drawn2 [bl2] [0, 0, 1, 0, 2, 0, 0, 0, 2, 0] [5, 4] [0, 0, 2, 0, 8, 0, 32, 120, 254, 511] (by kernel_rfl) ?_; replace H := H.drew; simp only [segL, List.take_succ_cons, List.take_zero, List.drop_succ_cons, List.drop_zero]; have H0 := H
        repeat' (first | refine Z H ?_ | (refine Zc ?_ ?_ <;> intro hc <;> first | (exfalso; omega) | skip) | (refine Y ?_; try change C _ _ _ _ _ _) | (refine Zs H ?_; clear H; (try clear w); intro w H) | (refine Zn H ?_; clear H; (try clear w); (first | ((fail_if_success (have := bl1)); intro bl1 w H) | ((fail_if_success (have := bl2)); intro bl2 w H) | intro _ w H)) | (refine Ze H ?_; clear H; (try clear w); intro gv w H))
        (refine X.call (one_s (n := i) H (by omega)) ?_; (try clear H); rintro _ w ⟨rfl, H⟩; refine ⟨_, rfl, ?_⟩); refine L.nil ?_; refine ⟨rfl, rfl, (by repeat (first | exact subN_nil | refine subN_cons (by simp) ?_)), (by first | exact keep_same | (repeat (first | exact keepV H0 H | exact keepP H0 H | exact keep_nil | refine keep_cons ?_ ?_))), ?_⟩; clear H0; have H0 := H
        repeat' (first | (refine K.sub_ (l := 6) (h' := 46) rfl rfl rfl rfl rfl rfl rfl (by decide) (by rw [bst_size]; omega) ?_; rw [bst_extract]) | (refine J.cat (a := bst [UInt8.ofNat i]) (b := bst ((l.drop 6).take (46 - 6))) ?_ (hl := by rw [bst_size, bst_size, h40]; simp); rw [bst_app, hsl]) | refine Z H ?_ | (refine Zc ?_ ?_ <;> intro hc <;> first | (exfalso; omega) | skip) | (refine Y ?_; try change C _ _ _ _ _ _) | (refine Zs H ?_; clear H; (try clear w); intro w H) | (refine Zn H ?_; clear H; (try clear w); (first | ((fail_if_success (have := bl1)); intro bl1 w H) | ((fail_if_success (have := bl2)); intro bl2 w H) | intro _ w H)) | (refine Ze H ?_; clear H; (try clear w); intro gv w H))
        (refine X.call (Sector16_s (c := 80) (e := e) (m := [UInt8.ofNat i] ++ (l.drop 6).take 40) H he (by rw [List.length_append, ← hsl, h40]; simp)) ?_; (try clear H); rintro _ w ⟨s3, rfl, hs3, H⟩; refine ⟨_, rfl, ?_⟩); refine L.nil ?_; refine ⟨rfl, rfl, (by repeat (first | exact subN_nil | refine subN_cons (by simp) ?_)), (by first | exact keep_same | (repeat (first | exact keepV H0 H | exact keepP H0 H | exact keep_nil | refine keep_cons ?_ ?_))), ?_⟩; clear H0; have H0 := H
        by_cases hA : l = secW 80 e ([UInt8.ofNat i] ++ (l.drop 6).take 40)
        · rw [page_yes he hl64 hA] at hstep
          replace hstep : pagesC c e h (16 - i) i ps = pagesC c e h (16 - (i + 1)) (i + 1) (setP ps i ((l.drop 6).take 40)) := hstep.trans (if_pos ⟨rfl, toNat8 (by omega)⟩)
          repeat' (first | (refine J.neS (fun hq => absurd (congrArg bst hA) hq) (fun _ => ?_)) | refine Z H ?_ | (refine Zc ?_ ?_ <;> intro hc <;> first | (exfalso; omega) | skip) | (refine Y ?_; try change C _ _ _ _ _ _) | (refine Zs H ?_; clear H; (try clear w); intro w H) | (refine Zn H ?_; clear H; (try clear w); (first | ((fail_if_success (have := bl1)); intro bl1 w H) | ((fail_if_success (have := bl2)); intro bl2 w H) | intro _ w H)) | (refine Ze H ?_; clear H; (try clear w); intro gv w H))
          refine ⟨rfl, rfl, (by repeat (first | exact subN_nil | refine subN_cons (by simp) ?_)), (by first | exact keep_same | (repeat (first | exact keepV H0 H | exact keepP H0 H | exact keep_nil | refine keep_cons ?_ ?_))), ?_⟩; clear H0; have H0 := H
          repeat' (first | refine Z H ?_ | (refine Zc ?_ ?_ <;> intro hc <;> first | (exfalso; omega) | skip) | (refine Y ?_; try change C _ _ _ _ _ _) | (refine Zs H ?_; clear H; (try clear w); intro w H) | (refine Zn H ?_; clear H; (try clear w); (first | ((fail_if_success (have := bl1)); intro bl1 w H) | ((fail_if_success (have := bl2)); intro bl2 w H) | intro _ w H)) | (refine Ze H ?_; clear H; (try clear w); intro gv w H))
          refine C.drawn1 [0, 1, 0, 0, 2, 3, 0, 3] [0, 1, 0, 4, 12, 31, 63, 127] (by kernel_rfl) ?_; replace H := H.drew
          repeat' (first | (refine K.sub_ (l := 6) (h' := 46) rfl rfl rfl rfl rfl rfl rfl (by decide) (by rw [bst_size]; omega) ?_; rw [bst_extract]) | refine Z H ?_ | (refine Zc ?_ ?_ <;> intro hc <;> first | (exfalso; omega) | skip) | (refine Y ?_; try change C _ _ _ _ _ _) | (refine Zs H ?_; clear H; (try clear w); intro w H) | (refine Zn H ?_; clear H; (try clear w); (first | ((fail_if_success (have := bl1)); intro bl1 w H) | ((fail_if_success (have := bl2)); intro bl2 w H) | intro _ w H)) | (refine Ze H ?_; clear H; (try clear w); intro gv w H))
          refine K.one H rfl rfl (by conv => lhs; whnf) (by rfl) (by rfl) ?_; clear H; (try clear w); intro g1 w H
          repeat' (first | (refine X.app H ?_; clear H; intro a3 c3 w H) | refine Z H ?_ | (refine Zc ?_ ?_ <;> intro hc <;> first | (exfalso; omega) | skip) | (refine Y ?_; try change C _ _ _ _ _ _) | (refine Zs H ?_; clear H; (try clear w); intro w H) | (refine Zn H ?_; clear H; (try clear w); (first | ((fail_if_success (have := bl1)); intro bl1 w H) | ((fail_if_success (have := bl2)); intro bl2 w H) | intro _ w H)) | (refine Ze H ?_; clear H; (try clear w); intro gv w H))
          have H' := H.arr (rs' := row 9 1 (.slice a3 (i + 1) c3) (i + 1) (strs ((List.range i).map (getP ps)) ++ [.string (bst ((l.drop 6).take (46 - 6)))]) :: var bl2 86 (logZ e h 0 a3 (i + 1) c3) :: var bl1 86 zlog16 :: R)
          exact ⟨by (repeat (first | exact Agr.refl | exact Agr.hav | refine Agr.upd rfl ?_ | refine Agr.in rfl ?_)), 16 - (i + 1), by omega, i + 1, s3, setP ps i ((l.drop 6).take 40), a3, c3, rfl, by omega, rfl, hs2.trans hs3, setP_len hpl h40 hlt, hpg.trans hstep, by rw [pgs_snoc hpl h40 hlt]; exact H'⟩
        · repeat' (first | (refine J.neS (fun _ => ?_) (fun hq => absurd (bst_inj hq) hA)) | refine Z H ?_ | (refine Zc ?_ ?_ <;> intro hc <;> first | (exfalso; omega) | skip) | (refine Y ?_; try change C _ _ _ _ _ _) | (refine Zs H ?_; clear H; (try clear w); intro w H) | (refine Zn H ?_; clear H; (try clear w); (first | ((fail_if_success (have := bl1)); intro bl1 w H) | ((fail_if_success (have := bl2)); intro bl2 w H) | intro _ w H)) | (refine Ze H ?_; clear H; (try clear w); intro gv w H))
          refine ⟨rfl, rfl, (by repeat (first | exact subN_nil | refine subN_cons (by simp) ?_)), (by first | exact keep_same | (repeat (first | exact keepV H0 H | exact keepP H0 H | exact keep_nil | refine keep_cons ?_ ?_))), ?_⟩; clear H0; have H0 := H
          repeat' (first | refine Z H ?_ | (refine Zc ?_ ?_ <;> intro hc <;> first | (exfalso; omega) | skip) | (refine Y ?_; try change C _ _ _ _ _ _) | (refine Zs H ?_; clear H; (try clear w); intro w H) | (refine Zn H ?_; clear H; (try clear w); (first | ((fail_if_success (have := bl1)); intro bl1 w H) | ((fail_if_success (have := bl2)); intro bl2 w H) | intro _ w H)) | (refine Ze H ?_; clear H; (try clear w); intro gv w H))
          refine K.build [] _ build_z16 rfl rfl rfl ?_
          repeat' (first | refine Z H ?_ | (refine Zc ?_ ?_ <;> intro hc <;> first | (exfalso; omega) | skip) | (refine Y ?_; try change C _ _ _ _ _ _) | (refine Zs H ?_; clear H; (try clear w); intro w H) | (refine Zn H ?_; clear H; (try clear w); (first | ((fail_if_success (have := bl1)); intro bl1 w H) | ((fail_if_success (have := bl2)); intro bl2 w H) | intro _ w H)) | (refine Ze H ?_; clear H; (try clear w); intro gv w H))
          have hno := pages_none hlt hA hstep
          rw [hpg.trans hno] at hopen
          first | (have hT : Holds _ _ (var bl1 _ _ :: _) := H; clear hT) | (replace H := H.up 1 rfl; (try simp only [List.set_cons_zero, List.set_cons_succ, List.eraseIdx_cons_zero, List.eraseIdx_cons_succ] at H); have hT : Holds _ _ (var bl1 _ _ :: _) := H; clear hT) | (replace H := H.up 2 rfl; (try simp only [List.set_cons_zero, List.set_cons_succ, List.eraseIdx_cons_zero, List.eraseIdx_cons_succ] at H); have hT : Holds _ _ (var bl1 _ _ :: _) := H; clear hT) | (replace H := H.up 3 rfl; (try simp only [List.set_cons_zero, List.set_cons_succ, List.eraseIdx_cons_zero, List.eraseIdx_cons_succ] at H); have hT : Holds _ _ (var bl1 _ _ :: _) := H; clear hT) | (replace H := H.up 4 rfl; (try simp only [List.set_cons_zero, List.set_cons_succ, List.eraseIdx_cons_zero, List.eraseIdx_cons_succ] at H); have hT : Holds _ _ (var bl1 _ _ :: _) := H; clear hT) | (replace H := H.up 5 rfl; (try simp only [List.set_cons_zero, List.set_cons_succ, List.eraseIdx_cons_zero, List.eraseIdx_cons_succ] at H); have hT : Holds _ _ (var bl1 _ _ :: _) := H; clear hT) | (replace H := H.up 6 rfl; (try simp only [List.set_cons_zero, List.set_cons_succ, List.eraseIdx_cons_zero, List.eraseIdx_cons_succ] at H); have hT : Holds _ _ (var bl1 _ _ :: _) := H; clear hT)
          exact ⟨_, resVT H rfl, s3, _, 8, rfl, hs12.trans hs3, H.arr, .inl ⟨hopen, by decide, rfl⟩⟩
      · have hie : i = 16 := by omega
        subst hie
        have hpg' : pagesC c e h 16 0 z640 = some ps := hpg
        rw [hpg'] at hopen
        replace hopen : openC c = (some ⟨e, h, (recsC c e 18 0 ps 0 []).2, (recsC c e 18 0 ps 0 []).1, false⟩, 0) := hopen
        rw [show (List.range 16).map (getP ps) = pgsOf ps from rfl] at H
        repeat' (first | (refine X.app H ?_ (h1 := strs_one _); clear H; intro a3 c3 w H) | refine Z H ?_ | (refine Zc ?_ ?_ <;> intro hc <;> first | (exfalso; omega) | skip) | (refine Y ?_; try change C _ _ _ _ _ _) | (refine Zs H ?_; clear H; (try clear w); intro w H) | (refine Zn H ?_; clear H; (try clear w); (first | ((fail_if_success (have := bl1)); intro bl1 w H) | ((fail_if_success (have := bl2)); intro bl2 w H) | intro _ w H)) | (refine Ze H ?_; clear H; (try clear w); intro gv w H))
        have H' : Holds s2 w (row 9 1 (.slice a3 16 c3) 16 (strs (pgsOf (applyL ps []))) :: row 9 1 (.slice pa 16 pc) 16 (strs (pgsOf ps)) :: var bl2 86 (logZ e h 0 pa 16 pc) :: var bl1 86 zlog16 :: R) := H
        clear H
        obtain ⟨ga, rfl, _⟩ := H'.form (i := 0) rfl (by decide)
        refine C.loopS [12, 13, 14, 106, 107, 108, 109, 110, 111, 112, 113, 114, 115, 116, 117, 118, 119, 120, 121, 122, 123, 124, 125, 126, 127, 128, 129, 130, 131, 132, 133, 134, 135, 136, 137, 138, 139, 140, 141, 142, 143, 144, 145, 146, 147, 148, 149, 150] [12] rfl (fun k vs w => ∃ i : Nat, ∃ s' qs u pend pb qc, k = 18 - i ∧ i ≤ 18 ∧ vs = [.int .i64 (i : Int)] ∧ s2.Le s' ∧ qs.length = 640 ∧ (∀ ch ∈ pend, Ch.Ok ch) ∧ recsC c e 18 0 ps 0 [] = recsC c e (18 - i) i qs u pend ∧ Holds s' w (row 9 1 (.slice (some ⟨ga, 0, none⟩) 16 c3) 16 (strs (pgsOf (applyL qs pend))) :: row 9 1 (.slice pb 16 qc) 16 (strs (pgsOf qs)) :: var bl2 86 (logZ e h u pb 16 qc) :: var bl1 86 zlog16 :: R)) 18 ⟨0, s2, ps, 0, [], pa, pc, rfl, Nat.zero_le _, rfl, Ro.Le.refl _, hpl, (fun _ hq => by simp at hq), rfl, H'⟩ ?_
        clear H'
        rintro k vs hv w ⟨i, s3, qs, u, pend, pb, qc, rfl, hi, rfl, hs3, hql, hok, hrc, H⟩
        have hs13 := hs12.trans hs3
        have hfin : ∀ {w s4}, s3.Le s4 → recsC c e 18 0 ps 0 [] = (qs, u) → Holds s4 w (row 9 1 (.slice pb 16 qc) 16 (strs (pgsOf qs)) :: R) → ∃ s5, s.Le s5 ∧ Holds s5 w R ∧ ∃ m pa pc, openC c = (some m, 0) ∧ logZ e h u pb 16 qc = logZ m.epoch m.home m.used pa 16 pc ∧ m.dead = false ∧ SlS s5 (.slice pa 16 pc) 1 16 (strs (pgsOf m.pages)) := fun {w s4} h4 hr H => by
          obtain ⟨s5, h5, H5, hS5⟩ := H.fixRow
          rw [hr] at hopen
          exact ⟨s5, (hs13.trans h4).trans h5, H5, _, pb, qc, hopen, rfl, rfl, hS5⟩
        by_cases hlt : i < 18
        · have pn := (hpin (34 + i) (by omega)).mono hs13
          have hl64 := h64' (34 + i) (by omega)
          have hstep : recsC c e (18 - i) i qs u pend = match recStep (c (34 + i)) e i with
            | none => (qs, u)
            | some (some ch) => recsC c e (18 - (i + 1)) (i + 1) qs u (pend ++ [ch])
            | some none => recsC c e (18 - (i + 1)) (i + 1) (applyL qs pend) (i + 1) [] := by
            rw [show 18 - i = (18 - (i + 1)) + 1 by omega]
            rfl
          generalize c (34 + i) = l at *
          have e0 : (34 : Int) + (i : Int) = ((34 + i : Nat) : Int) := by omega
          have h41 : ((l.drop 6).take (47 - 6)).length = 41 := by rw [List.length_take, List.length_drop]; omega
          have h40 : ((l.drop 7).take (47 - 7)).length = 40 := by rw [List.length_take, List.length_drop]; omega
          have hsl : ((l.drop 6).take (47 - 6)) = (l.drop 6).take 41 := rfl
          have hb6 : (l[6]?.getD 0).toNat < 256 := UInt8.toNat_lt _
          have hyes := fun h1 h2 => rec_yes (k := i) he (by omega) hl64 h1 h2
          have hno := rec_no (e := e) (k := i) hl64
          generalize hp6 : (l[6]?.getD 0).toNat = p at *
          repeat' (first | refine Z H ?_ | (refine Zc ?_ ?_ <;> intro hc <;> first | (exfalso; omega) | skip) | (refine Y ?_; try change C _ _ _ _ _ _) | (refine Zs H ?_; clear H; (try clear w); intro w H) | (refine Zn H ?_; clear H; (try clear w); (first | ((fail_if_success (have := bl1)); intro bl1 w H) | ((fail_if_success (have := bl2)); intro bl2 w H) | intro _ w H)) | (refine Ze H ?_; clear H; (try clear w); intro gv w H))
          refine K.ia (i := 34 + i) rfl rfl rfl rfl e0 (by omega) ?_
          repeat' (first | refine Z H ?_ | (refine Zc ?_ ?_ <;> intro hc <;> first | (exfalso; omega) | skip) | (refine Y ?_; try change C _ _ _ _ _ _) | (refine Zs H ?_; clear H; (try clear w); intro w H) | (refine Zn H ?_; clear H; (try clear w); (first | ((fail_if_success (have := bl1)); intro bl1 w H) | ((fail_if_success (have := bl2)); intro bl2 w H) | intro _ w H)) | (refine Ze H ?_; clear H; (try clear w); intro gv w H))
          refine X.sidx (l := l) 6 ?_
          rw [hp6]
          refine K.convI Tryd.underlying5 rfl rfl rfl ?_
          rw [IntWalk.i64_in ((p : Nat) : Int) (by omega)]
          repeat' (first | refine Z H ?_ | (refine Zc ?_ ?_ <;> intro hc <;> first | (exfalso; omega) | skip) | (refine Y ?_; try change C _ _ _ _ _ _) | (refine Zs H ?_; clear H; (try clear w); intro w H) | (refine Zn H ?_; clear H; (try clear w); (first | ((fail_if_success (have := bl1)); intro bl1 w H) | ((fail_if_success (have := bl2)); intro bl2 w H) | intro _ w H)) | (refine Ze H ?_; clear H; (try clear w); intro gv w H))
          by_cases hA : p < 16 ∧ l = secW 82 e ([UInt8.ofNat i] ++ (l.drop 6).take 41)
          · obtain ⟨hA1, hA2⟩ := hA
            rw [hyes hA1 hA2] at hstep
            replace hstep : recsC c e (18 - i) i qs u pend = recsC c e (18 - (i + 1)) (i + 1) qs u (pend ++ [⟨(p : Int), (l.drop 7).take 40⟩]) := hstep
            refine C.drawn2 [bl2] [0, 0, 0, 0, 0, 1, 0, 2, 0, 0, 0, 2, 0, 0] [8, 4] [0, 1, 3, 7, 7, 23, 7, 71, 7, 263, 967, 2039, 4095, 8191] (by kernel_rfl) ?_; replace H := H.drew; simp only [segL, List.take_succ_cons, List.take_zero, List.drop_succ_cons, List.drop_zero]; have H0 := H
            repeat' (first | refine Z H ?_ | (refine Zc ?_ ?_ <;> intro hc <;> first | (exfalso; omega) | skip) | (refine Y ?_; try change C _ _ _ _ _ _) | (refine Zs H ?_; clear H; (try clear w); intro w H) | (refine Zn H ?_; clear H; (try clear w); (first | ((fail_if_success (have := bl1)); intro bl1 w H) | ((fail_if_success (have := bl2)); intro bl2 w H) | intro _ w H)) | (refine Ze H ?_; clear H; (try clear w); intro gv w H))
            (refine X.call (one_s (n := i) H (by omega)) ?_; (try clear H); rintro _ w ⟨rfl, H⟩; refine ⟨_, rfl, ?_⟩); refine L.nil ?_; refine ⟨rfl, rfl, (by repeat (first | exact subN_nil | refine subN_cons (by simp) ?_)), (by first | exact keep_same | (repeat (first | exact keepV H0 H | exact keepP H0 H | exact keep_nil | refine keep_cons ?_ ?_))), ?_⟩; clear H0; have H0 := H
            repeat' (first | (refine K.sub_ (l := 6) (h' := 47) rfl rfl rfl rfl rfl rfl rfl (by decide) (by rw [bst_size]; omega) ?_; rw [bst_extract]) | (refine J.cat (a := bst [UInt8.ofNat i]) (b := bst ((l.drop 6).take (47 - 6))) ?_ (hl := by rw [bst_size, bst_size, h41]; simp); rw [bst_app, hsl]) | refine Z H ?_ | (refine Zc ?_ ?_ <;> intro hc <;> first | (exfalso; omega) | skip) | (refine Y ?_; try change C _ _ _ _ _ _) | (refine Zs H ?_; clear H; (try clear w); intro w H) | (refine Zn H ?_; clear H; (try clear w); (first | ((fail_if_success (have := bl1)); intro bl1 w H) | ((fail_if_success (have := bl2)); intro bl2 w H) | intro _ w H)) | (refine Ze H ?_; clear H; (try clear w); intro gv w H))
            (refine X.call (Sector16_s (c := 82) (e := e) (m := [UInt8.ofNat i] ++ (l.drop 6).take 41) H he (by rw [List.length_append, ← hsl, h41]; simp)) ?_; (try clear H); rintro _ w ⟨s4, rfl, hs4, H⟩; refine ⟨_, rfl, ?_⟩); refine L.nil ?_; refine ⟨rfl, rfl, (by repeat (first | exact subN_nil | refine subN_cons (by simp) ?_)), (by first | exact keep_same | (repeat (first | exact keepV H0 H | exact keepP H0 H | exact keep_nil | refine keep_cons ?_ ?_))), ?_⟩; clear H0; have H0 := H
            repeat' (first | (refine J.eqS (fun _ => ?_) (fun hq => absurd (congrArg bst hA2) hq)) | refine Z H ?_ | (refine Zc ?_ ?_ <;> intro hc <;> first | (exfalso; omega) | skip) | (refine Y ?_; try change C _ _ _ _ _ _) | (refine Zs H ?_; clear H; (try clear w); intro w H) | (refine Zn H ?_; clear H; (try clear w); (first | ((fail_if_success (have := bl1)); intro bl1 w H) | ((fail_if_success (have := bl2)); intro bl2 w H) | intro _ w H)) | (refine Ze H ?_; clear H; (try clear w); intro gv w H))
            refine ⟨rfl, rfl, (by repeat (first | exact subN_nil | refine subN_cons (by simp) ?_)), (by first | exact keep_same | (repeat (first | exact keepV H0 H | exact keepP H0 H | exact keep_nil | refine keep_cons ?_ ?_))), ?_⟩; clear H0; have H0 := H
            repeat' (first | refine Z H ?_ | (refine Zc ?_ ?_ <;> intro hc <;> first | (exfalso; omega) | skip) | (refine Y ?_; try change C _ _ _ _ _ _) | (refine Zs H ?_; clear H; (try clear w); intro w H) | (refine Zn H ?_; clear H; (try clear w); (first | ((fail_if_success (have := bl1)); intro bl1 w H) | ((fail_if_success (have := bl2)); intro bl2 w H) | intro _ w H)) | (refine Ze H ?_; clear H; (try clear w); intro gv w H))
            have hal : (applyL qs pend).length = 640 := applyL_len hok hql
            have hln : 0 + p * 1 < (strs (pgsOf (applyL qs pend))).length := by simp [strs, pgsOf_len]; omega
            have hset : pgsOf (applyL qs (pend ++ [⟨(p : Int), (l.drop 7).take 40⟩])) = (pgsOf (applyL qs pend)).set p ((l.drop 7).take 40) := by
              rw [← pgsOf_set hal h40 hA1]
              unfold applyL
              rw [List.foldl_append]
              rfl
            repeat' (first | (refine K.sub_ (l := 7) (h' := 47) rfl rfl rfl rfl rfl rfl rfl (by decide) (by rw [bst_size]; omega) ?_; rw [bst_extract]) | (refine K.ia (i := p) rfl rfl rfl rfl rfl (by omega) ?_) | refine Z H ?_ | (refine Zc ?_ ?_ <;> intro hc <;> first | (exfalso; omega) | skip) | (refine Y ?_; try change C _ _ _ _ _ _) | (refine Zs H ?_; clear H; (try clear w); intro w H) | (refine Zn H ?_; clear H; (try clear w); (first | ((fail_if_success (have := bl1)); intro bl1 w H) | ((fail_if_success (have := bl2)); intro bl2 w H) | intro _ w H)) | (refine Ze H ?_; clear H; (try clear w); intro gv w H))
            rw [show 0 + p * 1 = p by omega, strs_set] at H
            refine ⟨by (repeat (first | exact Agr.refl | exact Agr.hav | refine Agr.upd rfl ?_ | refine Agr.in rfl ?_)), 18 - (i + 1), by omega, i + 1, s4, qs, u, pend ++ [⟨(p : Int), (l.drop 7).take 40⟩], pb, qc, rfl, by omega, rfl, hs3.trans hs4, hql, fun ch hc => ?_, hrc.trans hstep, by rw [hset]; exact H⟩
            rcases List.mem_append.1 hc with hc | hc
            · exact hok ch hc
            · rw [List.mem_singleton] at hc
              subst hc
              exact ⟨by dsimp only; omega, by dsimp only; omega, h40⟩
          · have hnA : l ≠ markB e i → recStep l e i = none := hno hA
            refine C.drawn2 [bl2] [0, 0, 0, 0, 0, 1, 0, 2, 0, 0, 0, 2, 0, 0] [8, 4] [0, 1, 3, 7, 7, 23, 7, 71, 7, 263, 967, 2039, 4095, 8191] (by kernel_rfl) ?_; replace H := H.drew; simp only [segL, List.take_succ_cons, List.take_zero, List.drop_succ_cons, List.drop_zero]; have H0 := H
            refine (Decidable.em (p < 16)).elim (fun hp16 => ?_) (fun hp16 => ?_)
            have hA2 : l ≠ secW 82 e ([UInt8.ofNat i] ++ (l.drop 6).take 41) := fun h => hA ⟨hp16, h⟩
            repeat' (first | refine Z H ?_ | (refine Zc ?_ ?_ <;> intro hc <;> first | (exfalso; omega) | skip) | (refine Y ?_; try change C _ _ _ _ _ _) | (refine Zs H ?_; clear H; (try clear w); intro w H) | (refine Zn H ?_; clear H; (try clear w); (first | ((fail_if_success (have := bl1)); intro bl1 w H) | ((fail_if_success (have := bl2)); intro bl2 w H) | intro _ w H)) | (refine Ze H ?_; clear H; (try clear w); intro gv w H))
            (refine X.call (one_s (n := i) H (by omega)) ?_; (try clear H); rintro _ w ⟨rfl, H⟩; refine ⟨_, rfl, ?_⟩); refine L.nil ?_; refine ⟨rfl, rfl, (by repeat (first | exact subN_nil | refine subN_cons (by simp) ?_)), (by first | exact keep_same | (repeat (first | exact keepV H0 H | exact keepP H0 H | exact keep_nil | refine keep_cons ?_ ?_))), ?_⟩; clear H0; have H0 := H
            repeat' (first | (refine K.sub_ (l := 6) (h' := 47) rfl rfl rfl rfl rfl rfl rfl (by decide) (by rw [bst_size]; omega) ?_; rw [bst_extract]) | (refine J.cat (a := bst [UInt8.ofNat i]) (b := bst ((l.drop 6).take (47 - 6))) ?_ (hl := by rw [bst_size, bst_size, h41]; simp); rw [bst_app, hsl]) | refine Z H ?_ | (refine Zc ?_ ?_ <;> intro hc <;> first | (exfalso; omega) | skip) | (refine Y ?_; try change C _ _ _ _ _ _) | (refine Zs H ?_; clear H; (try clear w); intro w H) | (refine Zn H ?_; clear H; (try clear w); (first | ((fail_if_success (have := bl1)); intro bl1 w H) | ((fail_if_success (have := bl2)); intro bl2 w H) | intro _ w H)) | (refine Ze H ?_; clear H; (try clear w); intro gv w H))
            (refine X.call (Sector16_s (c := 82) (e := e) (m := [UInt8.ofNat i] ++ (l.drop 6).take 41) H he (by rw [List.length_append, ← hsl, h41]; simp)) ?_; (try clear H); rintro _ w ⟨s4, rfl, hs4, H⟩; refine ⟨_, rfl, ?_⟩); refine L.nil ?_; refine ⟨rfl, rfl, (by repeat (first | exact subN_nil | refine subN_cons (by simp) ?_)), (by first | exact keep_same | (repeat (first | exact keepV H0 H | exact keepP H0 H | exact keep_nil | refine keep_cons ?_ ?_))), ?_⟩; clear H0; have H0 := H
            repeat' (first | (refine J.eqS (fun hq => absurd (bst_inj hq) hA2) (fun _ => ?_)) | refine Z H ?_ | (refine Zc ?_ ?_ <;> intro hc <;> first | (exfalso; omega) | skip) | (refine Y ?_; try change C _ _ _ _ _ _) | (refine Zs H ?_; clear H; (try clear w); intro w H) | (refine Zn H ?_; clear H; (try clear w); (first | ((fail_if_success (have := bl1)); intro bl1 w H) | ((fail_if_success (have := bl2)); intro bl2 w H) | intro _ w H)) | (refine Ze H ?_; clear H; (try clear w); intro gv w H))
            refine ⟨rfl, rfl, (by repeat (first | exact subN_nil | refine subN_cons (by simp) ?_)), (by first | exact keep_same | (repeat (first | exact keepV H0 H | exact keepP H0 H | exact keep_nil | refine keep_cons ?_ ?_))), ?_⟩; clear H0; have H0 := H
            repeat' (first | refine Z H ?_ | (refine Zc ?_ ?_ <;> intro hc <;> first | (exfalso; omega) | skip) | (refine Y ?_; try change C _ _ _ _ _ _) | (refine Zs H ?_; clear H; (try clear w); intro w H) | (refine Zn H ?_; clear H; (try clear w); (first | ((fail_if_success (have := bl1)); intro bl1 w H) | ((fail_if_success (have := bl2)); intro bl2 w H) | intro _ w H)) | (refine Ze H ?_; clear H; (try clear w); intro gv w H))
            rotate_left
            repeat' (first | refine Z H ?_ | (refine Zc ?_ ?_ <;> intro hc <;> first | (exfalso; omega) | skip) | (refine Y ?_; try change C _ _ _ _ _ _) | (refine Zs H ?_; clear H; (try clear w); intro w H) | (refine Zn H ?_; clear H; (try clear w); (first | ((fail_if_success (have := bl1)); intro bl1 w H) | ((fail_if_success (have := bl2)); intro bl2 w H) | intro _ w H)) | (refine Ze H ?_; clear H; (try clear w); intro gv w H))
            refine ⟨rfl, rfl, (by repeat (first | exact subN_nil | refine subN_cons (by simp) ?_)), (by first | exact keep_same | (repeat (first | exact keepV H0 H | exact keepP H0 H | exact keep_nil | refine keep_cons ?_ ?_))), ?_⟩; clear H0; have H0 := H
            repeat' (first | refine Z H ?_ | (refine Zc ?_ ?_ <;> intro hc <;> first | (exfalso; omega) | skip) | (refine Y ?_; try change C _ _ _ _ _ _) | (refine Zs H ?_; clear H; (try clear w); intro w H) | (refine Zn H ?_; clear H; (try clear w); (first | ((fail_if_success (have := bl1)); intro bl1 w H) | ((fail_if_success (have := bl2)); intro bl2 w H) | intro _ w H)) | (refine Ze H ?_; clear H; (try clear w); intro gv w H))
            refine ⟨rfl, rfl, (by repeat (first | exact subN_nil | refine subN_cons (by simp) ?_)), (by first | exact keep_same | (repeat (first | exact keepV H0 H | exact keepP H0 H | exact keep_nil | refine keep_cons ?_ ?_))), ?_⟩; clear H0; have H0 := H
            repeat' (first | refine Z H ?_ | (refine Zc ?_ ?_ <;> intro hc <;> first | (exfalso; omega) | skip) | (refine Y ?_; try change C _ _ _ _ _ _) | (refine Zs H ?_; clear H; (try clear w); intro w H) | (refine Zn H ?_; clear H; (try clear w); (first | ((fail_if_success (have := bl1)); intro bl1 w H) | ((fail_if_success (have := bl2)); intro bl2 w H) | intro _ w H)) | (refine Ze H ?_; clear H; (try clear w); intro gv w H))
            refine ⟨rfl, rfl, (by repeat (first | exact subN_nil | refine subN_cons (by simp) ?_)), (by first | exact keep_same | (repeat (first | exact keepV H0 H | exact keepP H0 H | exact keep_nil | refine keep_cons ?_ ?_))), ?_⟩; clear H0; have H0 := H
            repeat' (first | refine Z H ?_ | (refine Zc ?_ ?_ <;> intro hc <;> first | (exfalso; omega) | skip) | (refine Y ?_; try change C _ _ _ _ _ _) | (refine Zs H ?_; clear H; (try clear w); intro w H) | (refine Zn H ?_; clear H; (try clear w); (first | ((fail_if_success (have := bl1)); intro bl1 w H) | ((fail_if_success (have := bl2)); intro bl2 w H) | intro _ w H)) | (refine Ze H ?_; clear H; (try clear w); intro gv w H))
            have hx : ∃ s4, s3.Le s4 ∧ Holds s4 w.drew (row 9 1 (.slice (some ⟨ga, 0, none⟩) 16 c3) 16 (strs (pgsOf (applyL qs pend))) :: row 9 1 (.slice pb 16 qc) 16 (strs (pgsOf qs)) :: var bl2 86 (logZ e h u pb 16 qc) :: var bl1 86 zlog16 :: R) := ⟨s3, Ro.Le.refl _, H⟩
            clear H H0
            obtain ⟨s4, hs4, H⟩ := hx
            have H0 := H
            all_goals
              clear H0
              refine C.drawn2 [bl2] [0, 0, 1, 0, 2, 2, 0] [5, 1] [0, 0, 2, 0, 8, 30, 63] (by kernel_rfl) ?_; replace H := H.drew; simp only [segL, List.take_succ_cons, List.take_zero, List.drop_succ_cons, List.drop_zero]; have H0 := H
              repeat' (first | refine Z H ?_ | (refine Zc ?_ ?_ <;> intro hc <;> first | (exfalso; omega) | skip) | (refine Y ?_; try change C _ _ _ _ _ _) | (refine Zs H ?_; clear H; (try clear w); intro w H) | (refine Zn H ?_; clear H; (try clear w); (first | ((fail_if_success (have := bl1)); intro bl1 w H) | ((fail_if_success (have := bl2)); intro bl2 w H) | intro _ w H)) | (refine Ze H ?_; clear H; (try clear w); intro gv w H))
              (refine X.call (one_s (n := i) H (by omega)) ?_; (try clear H); rintro _ w ⟨rfl, H⟩; refine ⟨_, rfl, ?_⟩); refine L.nil ?_; refine ⟨rfl, rfl, (by repeat (first | exact subN_nil | refine subN_cons (by simp) ?_)), (by first | exact keep_same | (repeat (first | exact keepV H0 H | exact keepP H0 H | exact keep_nil | refine keep_cons ?_ ?_))), ?_⟩; clear H0; have H0 := H
              repeat' (first | refine Z H ?_ | (refine Zc ?_ ?_ <;> intro hc <;> first | (exfalso; omega) | skip) | (refine Y ?_; try change C _ _ _ _ _ _) | (refine Zs H ?_; clear H; (try clear w); intro w H) | (refine Zn H ?_; clear H; (try clear w); (first | ((fail_if_success (have := bl1)); intro bl1 w H) | ((fail_if_success (have := bl2)); intro bl2 w H) | intro _ w H)) | (refine Ze H ?_; clear H; (try clear w); intro gv w H))
              (refine X.call (Sector16_s (c := 67) (e := e) (m := [UInt8.ofNat i]) H he (by simp)) ?_; (try clear H); rintro _ w ⟨s6, rfl, hs6, H⟩; refine ⟨_, rfl, ?_⟩); refine L.nil ?_; refine ⟨rfl, rfl, (by repeat (first | exact subN_nil | refine subN_cons (by simp) ?_)), (by first | exact keep_same | (repeat (first | exact keepV H0 H | exact keepP H0 H | exact keep_nil | refine keep_cons ?_ ?_))), ?_⟩; clear H0; have H0 := H
              rw [show secW 67 e [UInt8.ofNat i] = markB e i from rfl]
              by_cases hM : l = markB e i
              · rw [hM, recStep_mark he (by omega)] at hstep
                replace hstep : recsC c e (18 - i) i qs u pend = recsC c e (18 - (i + 1)) (i + 1) (applyL qs pend) (i + 1) [] := hstep
                repeat' (first | (refine J.eqS (fun _ => ?_) (fun hq => absurd (congrArg bst hM) hq)) | refine Z H ?_ | (refine Zc ?_ ?_ <;> intro hc <;> first | (exfalso; omega) | skip) | (refine Y ?_; try change C _ _ _ _ _ _) | (refine Zs H ?_; clear H; (try clear w); intro w H) | (refine Zn H ?_; clear H; (try clear w); (first | ((fail_if_success (have := bl1)); intro bl1 w H) | ((fail_if_success (have := bl2)); intro bl2 w H) | intro _ w H)) | (refine Ze H ?_; clear H; (try clear w); intro gv w H))
                refine ⟨rfl, rfl, (by repeat (first | exact subN_nil | refine subN_cons (by simp) ?_)), (by first | exact keep_same | (repeat (first | exact keepV H0 H | exact keepP H0 H | exact keep_nil | refine keep_cons ?_ ?_))), ?_⟩; clear H0; have H0 := H
                repeat' (first | (refine X.app H ?_ (h1 := strs_one _); clear H; intro a6 c6 w H) | refine Z H ?_ | (refine Zc ?_ ?_ <;> intro hc <;> first | (exfalso; omega) | skip) | (refine Y ?_; try change C _ _ _ _ _ _) | (refine Zs H ?_; clear H; (try clear w); intro w H) | (refine Zn H ?_; clear H; (try clear w); (first | ((fail_if_success (have := bl1)); intro bl1 w H) | ((fail_if_success (have := bl2)); intro bl2 w H) | intro _ w H)) | (refine Ze H ?_; clear H; (try clear w); intro gv w H))
                have H' := H.arr (rs' := row 9 1 (.slice (some ⟨ga, 0, none⟩) 16 c3) 16 (strs (pgsOf (applyL qs pend))) :: row 9 1 (.slice a6 (0 + 16) c6) (0 + 16) ([] ++ strs (pgsOf (applyL qs pend))) :: var bl2 86 [.slice none 0 0, .slice none 0 0, .bool false, .int .i64 0, .slice none 0 0, .int .i64 0, .slice a6 (0 + 16) c6, .int .u32 (e : Int), .int .i64 (h : Int), .int .i64 ((i : Int) + 1), .bool false] :: var bl1 86 zlog16 :: R)
                exact ⟨by (repeat (first | exact Agr.refl | exact Agr.hav | refine Agr.upd rfl ?_ | refine Agr.in rfl ?_)), 18 - (i + 1), by omega, i + 1, s6, applyL qs pend, i + 1, [], a6, c6, rfl, by omega, rfl, (hs3.trans hs4).trans hs6, applyL_len hok hql, (fun _ hq => by simp at hq), hrc.trans hstep, H'⟩
              · rw [hnA hM] at hstep
                replace hstep : recsC c e (18 - i) i qs u pend = (qs, u) := hstep
                repeat' (first | (refine J.eqS (fun hq => absurd (bst_inj hq) hM) (fun _ => ?_)) | refine Z H ?_ | (refine Zc ?_ ?_ <;> intro hc <;> first | (exfalso; omega) | skip) | (refine Y ?_; try change C _ _ _ _ _ _) | (refine Zs H ?_; clear H; (try clear w); intro w H) | (refine Zn H ?_; clear H; (try clear w); (first | ((fail_if_success (have := bl1)); intro bl1 w H) | ((fail_if_success (have := bl2)); intro bl2 w H) | intro _ w H)) | (refine Ze H ?_; clear H; (try clear w); intro gv w H))
                refine ⟨rfl, rfl, (by repeat (first | exact subN_nil | refine subN_cons (by simp) ?_)), (by first | exact keep_same | (repeat (first | exact keepV H0 H | exact keepP H0 H | exact keep_nil | refine keep_cons ?_ ?_))), ?_⟩; clear H0; have H0 := H
                repeat' (first | refine Z H ?_ | (refine Zc ?_ ?_ <;> intro hc <;> first | (exfalso; omega) | skip) | (refine Y ?_; try change C _ _ _ _ _ _) | (refine Zs H ?_; clear H; (try clear w); intro w H) | (refine Zn H ?_; clear H; (try clear w); (first | ((fail_if_success (have := bl1)); intro bl1 w H) | ((fail_if_success (have := bl2)); intro bl2 w H) | intro _ w H)) | (refine Ze H ?_; clear H; (try clear w); intro gv w H))
                obtain ⟨s5, h5, H5, m, pa', pc', hm1, hm2, hm3, hm4⟩ := hfin (hs4.trans hs6) (hrc.trans hstep) H.arr
                first | (have hT : Holds _ _ (var bl1 _ _ :: _) := H; clear hT) | (replace H := H.up 1 rfl; (try simp only [List.set_cons_zero, List.set_cons_succ, List.eraseIdx_cons_zero, List.eraseIdx_cons_succ] at H); have hT : Holds _ _ (var bl1 _ _ :: _) := H; clear hT) | (replace H := H.up 2 rfl; (try simp only [List.set_cons_zero, List.set_cons_succ, List.eraseIdx_cons_zero, List.eraseIdx_cons_succ] at H); have hT : Holds _ _ (var bl1 _ _ :: _) := H; clear hT) | (replace H := H.up 3 rfl; (try simp only [List.set_cons_zero, List.set_cons_succ, List.eraseIdx_cons_zero, List.eraseIdx_cons_succ] at H); have hT : Holds _ _ (var bl1 _ _ :: _) := H; clear hT) | (replace H := H.up 4 rfl; (try simp only [List.set_cons_zero, List.set_cons_succ, List.eraseIdx_cons_zero, List.eraseIdx_cons_succ] at H); have hT : Holds _ _ (var bl1 _ _ :: _) := H; clear hT) | (replace H := H.up 5 rfl; (try simp only [List.set_cons_zero, List.set_cons_succ, List.eraseIdx_cons_zero, List.eraseIdx_cons_succ] at H); have hT : Holds _ _ (var bl1 _ _ :: _) := H; clear hT) | (replace H := H.up 6 rfl; (try simp only [List.set_cons_zero, List.set_cons_succ, List.eraseIdx_cons_zero, List.eraseIdx_cons_succ] at H); have hT : Holds _ _ (var bl1 _ _ :: _) := H; clear hT)
                exact ⟨_, resVT H rfl, s5, _, 0, rfl, h5, H5, .inr ⟨m, pa', pc', hm1, rfl, hm2, hm3, hm4⟩⟩
        · have hie : i = 18 := by omega
          subst hie
          have hr : recsC c e 18 0 ps 0 [] = (qs, u) := hrc
          repeat' (first | refine Z H ?_ | (refine Zc ?_ ?_ <;> intro hc <;> first | (exfalso; omega) | skip) | (refine Y ?_; try change C _ _ _ _ _ _) | (refine Zs H ?_; clear H; (try clear w); intro w H) | (refine Zn H ?_; clear H; (try clear w); (first | ((fail_if_success (have := bl1)); intro bl1 w H) | ((fail_if_success (have := bl2)); intro bl2 w H) | intro _ w H)) | (refine Ze H ?_; clear H; (try clear w); intro gv w H))
          obtain ⟨s5, h5, H5, m, pa', pc', hm1, hm2, hm3, hm4⟩ := hfin (Ro.Le.refl _) hr H.arr
          first | (have hT : Holds _ _ (var bl1 _ _ :: _) := H; clear hT) | (replace H := H.up 1 rfl; (try simp only [List.set_cons_zero, List.set_cons_succ, List.eraseIdx_cons_zero, List.eraseIdx_cons_succ] at H); have hT : Holds _ _ (var bl1 _ _ :: _) := H; clear hT) | (replace H := H.up 2 rfl; (try simp only [List.set_cons_zero, List.set_cons_succ, List.eraseIdx_cons_zero, List.eraseIdx_cons_succ] at H); have hT : Holds _ _ (var bl1 _ _ :: _) := H; clear hT) | (replace H := H.up 3 rfl; (try simp only [List.set_cons_zero, List.set_cons_succ, List.eraseIdx_cons_zero, List.eraseIdx_cons_succ] at H); have hT : Holds _ _ (var bl1 _ _ :: _) := H; clear hT) | (replace H := H.up 4 rfl; (try simp only [List.set_cons_zero, List.set_cons_succ, List.eraseIdx_cons_zero, List.eraseIdx_cons_succ] at H); have hT : Holds _ _ (var bl1 _ _ :: _) := H; clear hT) | (replace H := H.up 5 rfl; (try simp only [List.set_cons_zero, List.set_cons_succ, List.eraseIdx_cons_zero, List.eraseIdx_cons_succ] at H); have hT : Holds _ _ (var bl1 _ _ :: _) := H; clear hT) | (replace H := H.up 6 rfl; (try simp only [List.set_cons_zero, List.set_cons_succ, List.eraseIdx_cons_zero, List.eraseIdx_cons_succ] at H); have hT : Holds _ _ (var bl1 _ _ :: _) := H; clear hT)
          exact ⟨_, resVT H rfl, s5, _, 0, rfl, h5, H5, .inr ⟨m, pa', pc', hm1, rfl, hm2, hm3, hm4⟩⟩
end
end Go.Proofs.YtbknpbihgfphaaaDoor

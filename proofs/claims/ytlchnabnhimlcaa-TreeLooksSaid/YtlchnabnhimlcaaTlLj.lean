/- nacelleref17, walked exactly: Write. What the reading of an argument gives: slices, structs, numbers; over any program. Arguments: arrays, bytes, strings. -/
import Derived.Test.YtlchnabnhimlcaaTlLi
import Derived.Test.YtlchnabnhimlcaaTlK2
import Derived.ProofKit
import Derived.SizedLaws
import Derived.OpenShut
import Derived.Deep.Slices
import Derived.Test.YtlchnabnhimlcaaTlK4
set_option linter.unusedSimpArgs false
set_option linter.unusedVariables false
namespace Go.Proofs.Ytlchnabnhimlcaa
open Go Go.RowKit Go.Own
/-- what stands in memory while blocks are added -/
structure WrS (s : Ro) (m m' : List RN) (t x : TR) (f : Nat) (size qu : Int) (nd : Str) : Prop where
  l8 : m'.length = 8
  st : Stage t f size qu x
  oth : ∀ j, j < 8 → j ≠ f → rn m' j = rn m j
  k : (rn m' f).kind = 2
  p : (rn m' f).path = full t f
  d : (rn m' f).data = nd
  b : BlkAt s (rn m' f) (x.n f)
theorem WrS.blk {s0 s : Ro} {m m' : List RN} {t x : TR} {f : Nat} {size qu : Int} {nd : Str} (h : WrS s m m' t x f size qu nd) (hD : Doc s0 m t) (hs : s0.Le s) : BlkOk s m' x := fun i hi => by
  by_cases e : i = f
  · rw [e]; exact h.b
  · rw [h.oth i hi e, h.st.oth i e]
    exact (hD.blk i hi).mono hs
theorem WrS.mono {s s' : Ro} {m m' : List RN} {t x : TR} {f : Nat} {size qu : Int} {nd : Str} (h : WrS s m m' t x f size qu nd) (hs : s.Le s') : WrS s' m m' t x f size qu nd := ⟨h.l8, h.st, h.oth, h.k, h.p, h.d, h.b.mono hs⟩
theorem WrS.doc {s0 s : Ro} {m m' : List RN} {t x : TR} {f : Nat} {qu : Int} {o : Nat} {l : Str} (h : WrS s m m' t x f (most (t.n f).size ((o : Int) + l.length)) qu (splice (bytesOf t f) o l)) (hD : Doc s0 m t) (hs : s0.Le s) (hW : WF t) (hf : f < 8) (hk : (t.n f).kind = 2) (ho : o + l.length ≤ 80) (hl : l.length ≠ 0)
    (hg : growM t f (most (t.n f).size ((o : Int) + l.length)) qu = some (finT x f (most (t.n f).size ((o : Int) + l.length)))) : Doc s m' (pokesM (finT x f (most (t.n f).size ((o : Int) + l.length))) f o l) := by
  have hsz := file_size hW hf hk
  have h' : WF (pokesM (finT x f (most (t.n f).size ((o : Int) + l.length))) f o l) := wf_write hW (file_pos hW.root hk) hf hk hg (by unfold most; split <;> omega) (by unfold most; split <;> omega) (by unfold most; split <;> omega)
  have hV := write_V hW hf hk ho hl hg h'
  refine ⟨h.l8, fun j hj => ?_⟩
  rw [hV j hj]
  by_cases e : f = j
  · subst e
    rw [if_pos rfl]
    have hb : blks ((finT x f (most (t.n f).size ((o : Int) + l.length))).n f) = blks (x.n f) := by
      unfold finT
      rw [TR.n_set h.st.ok hf, if_pos rfl]
      rfl
    rw [hb]
    exact ⟨h.k, h.p, h.d, h.b.l, h.b.b⟩
  · rw [if_neg e, h.oth j hj (fun e' => e e'.symm)]
    exact (hD.nd j hj).mono hs
section
variable {w : World} {s : Ro} {R : List Asn} {p : Str} {m : List RN} {t : TR}
set_option maxRecDepth 100000 in
set_option maxHeartbeats 1000000 in
theorem Write_x {at_ quota : Int} {l : Str} (H : Holds s w R) (hD : Doc s m t) (hW : WF t) (hc : checkM t = true) (hl : p.length ≤ 140737488355328) (hll : l.length ≤ 140737488355328) : Calls Try.prog 34 #[.agg (rcells m).toArray, .string ⟨p.toArray⟩, .int .i64 at_, .string ⟨l.toArray⟩, .int .i64 quota] w fun e w' => ∃ (s' : Ro) (m' : List RN), s.Le s' ∧ e = .returned (.tuple #[.agg (rcells m').toArray, .int .i64 (writeM t p at_ l quota).2]) ∧ m'.length = 8 ∧ ((writeM t p at_ l quota).2 = 0 → Doc s' m' (writeM t p at_ l quota).1) ∧ Holds s' w' R := by
  have hm8 := hD.l8
  have hm32 := rcells_len hm8
  have hz8 : (List.replicate 8 RN.zero).length = 8 := rfl
  have hm0 : writeM t p at_ l quota = writeM t p at_ l quota := rfl
  conv at hm0 => rhs; unfold writeM
  rw [if_neg (by rw [hc]; decide)] at hm0
  refine enter Try.func34 rfl Try.ntmps34 rfl ?_
  repeat' (first | (refine X.lenL ?_) | (refine X.lv H ?_) | (refine X.lw H ?_) | (refine X.lp H ?_) | (refine X.stR H ?_; clear H; (try clear w); intro w H) | (refine X.eqL ?_ ?_ <;> intro hc <;> first | (exfalso; first | exact absurd hc (by assumption) | exact absurd (by assumption) hc) | skip) | refine Z H ?_ | (refine Zc ?_ ?_ <;> intro hc <;> first | (exfalso; omega) | skip) | (refine Y ?_; try change C _ _ _ _ _ _) | (refine Zs H ?_; clear H; (try clear w); intro w H) | (refine Zn H ?_; clear H; (try clear w); (first | ((fail_if_success (have := bl1)); intro bl1 w H) | ((fail_if_success (have := bl2)); intro bl2 w H) | ((fail_if_success (have := bl3)); intro bl3 w H) | intro _ w H)) | (refine Ze H ?_; clear H; (try clear w); intro gv w H))
  (refine X.call (File_x (p := p) H hD hW hl) ?_; (try clear H); rintro _ w ⟨f, hf, rfl, hko, H⟩; refine ⟨_, rfl, ?_⟩)
  by_cases her : (kindOfM t p 2).2 = 0
  rotate_left
  · rw [if_pos her] at hm0
    repeat' (first | (refine X.lenL ?_) | (refine X.lv H ?_) | (refine X.lw H ?_) | (refine X.lp H ?_) | (refine X.stR H ?_; clear H; (try clear w); intro w H) | (refine X.eqL ?_ ?_ <;> intro hc <;> first | (exfalso; first | exact absurd hc (by assumption) | exact absurd (by assumption) hc) | skip) | refine Z H ?_ | (refine Zc ?_ ?_ <;> intro hc <;> first | (exfalso; omega) | skip) | (refine Y ?_; try change C _ _ _ _ _ _) | (refine Zs H ?_; clear H; (try clear w); intro w H) | (refine Zn H ?_; clear H; (try clear w); (first | ((fail_if_success (have := bl1)); intro bl1 w H) | ((fail_if_success (have := bl2)); intro bl2 w H) | ((fail_if_success (have := bl3)); intro bl3 w H) | intro _ w H)) | (refine Ze H ?_; clear H; (try clear w); intro gv w H))
    exact ⟨_, resVT (cs := rcells m) H rfl rfl inferInstance hm32, s, m, Ro.Le.refl s, by rw [hm0]; rfl, hm8, (fun h => by rw [hm0] at h; exact absurd h her), H.tail.tail⟩
  obtain ⟨hko1, hfk, hk2⟩ := hko her
  rw [if_neg (by simpa using her), hko1, Int.toNat_natCast] at hm0
  rw [hko1] at her ⊢
  by_cases hat : at_ < 0
  · rw [if_pos hat] at hm0
    repeat' (first | (refine X.lenL ?_) | (refine X.lv H ?_) | (refine X.lw H ?_) | (refine X.lp H ?_) | (refine X.stR H ?_; clear H; (try clear w); intro w H) | (refine X.eqL ?_ ?_ <;> intro hc <;> first | (exfalso; first | exact absurd hc (by assumption) | exact absurd (by assumption) hc) | skip) | refine Z H ?_ | (refine Zc ?_ ?_ <;> intro hc <;> first | (exfalso; omega) | skip) | (refine Y ?_; try change C _ _ _ _ _ _) | (refine Zs H ?_; clear H; (try clear w); intro w H) | (refine Zn H ?_; clear H; (try clear w); (first | ((fail_if_success (have := bl1)); intro bl1 w H) | ((fail_if_success (have := bl2)); intro bl2 w H) | ((fail_if_success (have := bl3)); intro bl3 w H) | intro _ w H)) | (refine Ze H ?_; clear H; (try clear w); intro gv w H))
    exact ⟨_, resVT (cs := rcells m) H rfl rfl inferInstance hm32, s, m, Ro.Le.refl s, by rw [hm0]; rfl, hm8, (fun h => by rw [hm0] at h; cases h), H.tail.tail⟩
  rw [if_neg hat] at hm0
  obtain ⟨o, rfl⟩ : ∃ o : Nat, at_ = o := ⟨at_.toNat, by omega⟩
  by_cases h80 : 80 < l.length
  · rw [if_pos (by omega)] at hm0
    repeat' (first | (refine X.lenL ?_) | (refine X.lv H ?_) | (refine X.lw H ?_) | (refine X.lp H ?_) | (refine X.stR H ?_; clear H; (try clear w); intro w H) | (refine X.eqL ?_ ?_ <;> intro hc <;> first | (exfalso; first | exact absurd hc (by assumption) | exact absurd (by assumption) hc) | skip) | refine Z H ?_ | (refine Zc ?_ ?_ <;> intro hc <;> first | (exfalso; omega) | skip) | (refine Y ?_; try change C _ _ _ _ _ _) | (refine Zs H ?_; clear H; (try clear w); intro w H) | (refine Zn H ?_; clear H; (try clear w); (first | ((fail_if_success (have := bl1)); intro bl1 w H) | ((fail_if_success (have := bl2)); intro bl2 w H) | ((fail_if_success (have := bl3)); intro bl3 w H) | intro _ w H)) | (refine Ze H ?_; clear H; (try clear w); intro gv w H))
    exact ⟨_, resVT (cs := rcells m) H rfl rfl inferInstance hm32, s, m, Ro.Le.refl s, by rw [hm0]; rfl, hm8, (fun h => by rw [hm0] at h; cases h), H.tail.tail⟩
  by_cases hfu : (o : Int) > 80 - (l.length : Int)
  · rw [if_pos hfu] at hm0
    repeat' (first | (refine X.lenL ?_) | (refine X.lv H ?_) | (refine X.lw H ?_) | (refine X.lp H ?_) | (refine X.stR H ?_; clear H; (try clear w); intro w H) | (refine X.eqL ?_ ?_ <;> intro hc <;> first | (exfalso; first | exact absurd hc (by assumption) | exact absurd (by assumption) hc) | skip) | refine Z H ?_ | (refine Zc ?_ ?_ <;> intro hc <;> first | (exfalso; omega) | skip) | (refine Y ?_; try change C _ _ _ _ _ _) | (refine Zs H ?_; clear H; (try clear w); intro w H) | (refine Zn H ?_; clear H; (try clear w); (first | ((fail_if_success (have := bl1)); intro bl1 w H) | ((fail_if_success (have := bl2)); intro bl2 w H) | ((fail_if_success (have := bl3)); intro bl3 w H) | intro _ w H)) | (refine Ze H ?_; clear H; (try clear w); intro gv w H))
    exact ⟨_, resVT (cs := rcells m) H rfl rfl inferInstance hm32, s, m, Ro.Le.refl s, by rw [hm0]; rfl, hm8, (fun h => by rw [hm0] at h; cases h), H.tail.tail⟩
  rw [if_neg hfu] at hm0
  by_cases hl0 : l = []
  · rw [if_pos (by rw [hl0]; rfl)] at hm0
    repeat' (first | (refine X.eqL (a := l) (b := []) ?_ ?_ <;> intro hc <;> first | (exfalso; exact absurd hl0 hc) | skip) | (refine X.lenL ?_) | (refine X.lv H ?_) | (refine X.lw H ?_) | (refine X.lp H ?_) | (refine X.stR H ?_; clear H; (try clear w); intro w H) | (refine X.eqL ?_ ?_ <;> intro hc <;> first | (exfalso; first | exact absurd hc (by assumption) | exact absurd (by assumption) hc) | skip) | refine Z H ?_ | (refine Zc ?_ ?_ <;> intro hc <;> first | (exfalso; omega) | skip) | (refine Y ?_; try change C _ _ _ _ _ _) | (refine Zs H ?_; clear H; (try clear w); intro w H) | (refine Zn H ?_; clear H; (try clear w); (first | ((fail_if_success (have := bl1)); intro bl1 w H) | ((fail_if_success (have := bl2)); intro bl2 w H) | ((fail_if_success (have := bl3)); intro bl3 w H) | intro _ w H)) | (refine Ze H ?_; clear H; (try clear w); intro gv w H))
    exact ⟨_, resVT (cs := rcells m) H rfl rfl inferInstance hm32, s, m, Ro.Le.refl s, by rw [hm0]; rfl, hm8, (fun _ => by rw [hm0]; exact hD), H.tail.tail⟩
  have hl1 : l.length ≠ 0 := fun e => hl0 (List.eq_nil_of_length_eq_zero e)
  rw [if_neg hl1, Int.toNat_natCast] at hm0
  have hx := hD.nd f hf
  have hsz := file_size hW hf hk2
  have hdata : (rn m f).data = bytesOf t f := hx.d
  have hdlen : (bytesOf t f).length = (t.n f).size.toNat := bytesOf_len
  have hdl := bytes_80 hW hf
  have c2 := rcell hm8 hf 2 _ rfl
  rw [hdata] at c2
  repeat' (first | (refine X.eqL (a := l) (b := []) ?_ ?_ <;> intro hc <;> first | (exfalso; exact absurd hc hl0) | skip) | (refine K.iaA (i := f) rfl rfl rfl rfl rfl hf ?_) | (refine X.lenL ?_) | (refine X.lv H ?_) | (refine X.lw H ?_) | (refine X.lp H ?_) | (refine X.stR H ?_; clear H; (try clear w); intro w H) | (refine X.eqL ?_ ?_ <;> intro hc <;> first | (exfalso; first | exact absurd hc (by assumption) | exact absurd (by assumption) hc) | skip) | refine Z H ?_ | (refine Zc ?_ ?_ <;> intro hc <;> first | (exfalso; omega) | skip) | (refine Y ?_; try change C _ _ _ _ _ _) | (refine Zs H ?_; clear H; (try clear w); intro w H) | (refine Zn H ?_; clear H; (try clear w); (first | ((fail_if_success (have := bl1)); intro bl1 w H) | ((fail_if_success (have := bl2)); intro bl2 w H) | ((fail_if_success (have := bl3)); intro bl3 w H) | intro _ w H)) | (refine Ze H ?_; clear H; (try clear w); intro gv w H))
  refine C.loopH H [15, 50, 51, 52, 53, 54, 55] [15] rfl (fun k vs => ∃ c : Nat, k = o - (bytesOf t f).length - c ∧ c ≤ o - (bytesOf t f).length ∧ vs = [.string ⟨(bytesOf t f ++ List.replicate c 0).toArray⟩]) (o - (bytesOf t f).length) ⟨0, rfl, by omega, by rw [List.replicate_zero, List.append_nil]; rfl⟩ ?_
  clear H
  rintro k vs hv w ⟨c, rfl, hcl, rfl⟩ H
  have hul : (bytesOf t f ++ List.replicate c (0 : UInt8)).length = (bytesOf t f).length + c := by simp
  by_cases hpad : (bytesOf t f ++ List.replicate c (0 : UInt8)).length < o
  · repeat' (first | (refine X.catL (a := bytesOf t f ++ List.replicate c 0) (b := [0]) ?_ rfl rfl rfl rfl (by simp; omega)) | (refine X.lenL ?_) | (refine X.lv H ?_) | (refine X.lw H ?_) | (refine X.lp H ?_) | (refine X.stR H ?_; clear H; (try clear w); intro w H) | (refine X.eqL ?_ ?_ <;> intro hc <;> first | (exfalso; first | exact absurd hc (by assumption) | exact absurd (by assumption) hc) | skip) | refine Z H ?_ | (refine Zc ?_ ?_ <;> intro hc <;> first | (exfalso; omega) | skip) | (refine Y ?_; try change C _ _ _ _ _ _) | (refine Zs H ?_; clear H; (try clear w); intro w H) | (refine Zn H ?_; clear H; (try clear w); (first | ((fail_if_success (have := bl1)); intro bl1 w H) | ((fail_if_success (have := bl2)); intro bl2 w H) | ((fail_if_success (have := bl3)); intro bl3 w H) | intro _ w H)) | (refine Ze H ?_; clear H; (try clear w); intro gv w H))
    exact ⟨by (repeat (first | exact Agr.refl | exact Agr.hav | refine Agr.upd rfl ?_ | refine Agr.in rfl ?_)), o - (bytesOf t f).length - (c + 1), by omega, ⟨c + 1, rfl, by omega, by rw [List.replicate_succ', ← List.append_assoc]; rfl⟩, H⟩
  obtain rfl : c = o - (bytesOf t f).length := by omega
  have hsp : splice (bytesOf t f) o l = (bytesOf t f ++ List.replicate (o - (bytesOf t f).length) 0).take o ++ l ++ (bytesOf t f ++ List.replicate (o - (bytesOf t f).length) 0).drop (o + l.length) := rfl
  generalize bytesOf t f ++ List.replicate (o - (bytesOf t f).length) (0 : UInt8) = u at *
  repeat' (first | (refine X.lenL ?_) | (refine X.lv H ?_) | (refine X.lw H ?_) | (refine X.lp H ?_) | (refine X.stR H ?_; clear H; (try clear w); intro w H) | (refine X.eqL ?_ ?_ <;> intro hc <;> first | (exfalso; first | exact absurd hc (by assumption) | exact absurd (by assumption) hc) | skip) | ((fail_if_success (with_reducible show C _ _ _ (Code.seq (Code.seq (Code.region 15 _ _) _) _) _ _)); refine Z H ?_) | (refine Zc ?_ ?_ <;> intro hc <;> first | (exfalso; omega) | skip) | (refine Y ?_; try change C _ _ _ _ _ _) | (refine Zs H ?_; clear H; (try clear w); intro w H) | (refine Zn H ?_; clear H; (try clear w); (first | ((fail_if_success (have := bl1)); intro bl1 w H) | ((fail_if_success (have := bl2)); intro bl2 w H) | ((fail_if_success (have := bl3)); intro bl3 w H) | intro _ w H)) | (refine Ze H ?_; clear H; (try clear w); intro gv w H))
  refine C.cutH H [16, 56, 57, 58, 59, 60, 61, 62, 63, 64, 65, 66, 67, 68] [16] rfl (fun vs => vs = [.string ⟨(u.drop (o + l.length)).toArray⟩]) ?_ ?_
  · by_cases hr : o + l.length < u.length
    · repeat' (first | (refine X.from (l := u) (o + l.length) ?_ rfl (by omega)) | (refine X.lenL ?_) | (refine X.lv H ?_) | (refine X.lw H ?_) | (refine X.lp H ?_) | (refine X.stR H ?_; clear H; (try clear w); intro w H) | (refine X.eqL ?_ ?_ <;> intro hc <;> first | (exfalso; first | exact absurd hc (by assumption) | exact absurd (by assumption) hc) | skip) | refine Z H ?_ | (refine Zc ?_ ?_ <;> intro hc <;> first | (exfalso; omega) | skip) | (refine Y ?_; try change C _ _ _ _ _ _) | (refine Zs H ?_; clear H; (try clear w); intro w H) | (refine Zn H ?_; clear H; (try clear w); (first | ((fail_if_success (have := bl1)); intro bl1 w H) | ((fail_if_success (have := bl2)); intro bl2 w H) | ((fail_if_success (have := bl3)); intro bl3 w H) | intro _ w H)) | (refine Ze H ?_; clear H; (try clear w); intro gv w H))
      exact ⟨by (repeat (first | exact Agr.refl | exact Agr.hav | refine Agr.upd rfl ?_ | refine Agr.in rfl ?_)), rfl, H⟩
    · repeat' (first | (refine X.lenL ?_) | (refine X.lv H ?_) | (refine X.lw H ?_) | (refine X.lp H ?_) | (refine X.stR H ?_; clear H; (try clear w); intro w H) | (refine X.eqL ?_ ?_ <;> intro hc <;> first | (exfalso; first | exact absurd hc (by assumption) | exact absurd (by assumption) hc) | skip) | refine Z H ?_ | (refine Zc ?_ ?_ <;> intro hc <;> first | (exfalso; omega) | skip) | (refine Y ?_; try change C _ _ _ _ _ _) | (refine Zs H ?_; clear H; (try clear w); intro w H) | (refine Zn H ?_; clear H; (try clear w); (first | ((fail_if_success (have := bl1)); intro bl1 w H) | ((fail_if_success (have := bl2)); intro bl2 w H) | ((fail_if_success (have := bl3)); intro bl3 w H) | intro _ w H)) | (refine Ze H ?_; clear H; (try clear w); intro gv w H))
      exact ⟨by (repeat (first | exact Agr.refl | exact Agr.hav | refine Agr.upd rfl ?_ | refine Agr.in rfl ?_)), by rw [List.drop_of_length_le (by omega)]; rfl, H⟩
  clear H
  rintro vs hv2 w rfl H
  have hspl := splice_len (s := bytesOf t f) (b := l) (o := o)
  have hmo : most (t.n f).size ((o : Int) + l.length) = ((splice (bytesOf t f) o l).length : Int) := by
    rw [hspl]; unfold most; split <;> omega
  have hnd80 : (splice (bytesOf t f) o l).length ≤ 80 := by omega
  have htk : (u.take o).length ≤ o := List.length_take_le _ _
  have hdr : (u.drop (o + l.length)).length ≤ 80 := by rw [List.length_drop]; omega
  have hw0 : WrS s m (m.set f { rn m f with data := splice (bytesOf t f) o l }) t t f (most (t.n f).size ((o : Int) + l.length)) quota (splice (bytesOf t f) o l) := by
    have hn1 : rn (m.set f { rn m f with data := splice (bytesOf t f) o l }) f = { rn m f with data := splice (bytesOf t f) o l } := by rw [rn_set hm8 hf, if_pos rfl]
    refine ⟨by rw [List.length_set, hm8], stage_first hW hf hk2, fun j hj hne => by rw [rn_set hm8 hf, if_neg (fun e => hne e.symm)], ?_, ?_, ?_, ?_⟩
    · rw [hn1]; exact (hD.kind hf).trans hk2
    · rw [hn1]; exact hD.path hf (by omega)
    · rw [hn1]
    · rw [hn1]; exact ⟨(hD.blk f hf).l, (hD.blk f hf).b⟩
  have hm1 := hw0.l8
  rw [hsp] at hw0
  rw [hsp] at hm1
  repeat' (first | (refine X.upto (l := u) o ?_ rfl (by omega)) | (refine X.catL (a := u.take o) (b := l) ?_ rfl rfl rfl rfl (by omega)) | (refine X.catL (a := u.take o ++ l) (b := u.drop (o + l.length)) ?_ rfl rfl rfl rfl (by rw [List.length_append]; omega)) | (refine K.iaA (i := f) rfl rfl rfl rfl rfl hf ?_) | (refine X.stRc f 2 { rn m f with data := u.take o ++ l ++ u.drop (o + l.length) } hm8 hf (by decide) rfl H ?_; clear H; (try clear w); intro w H) | (refine X.lenL ?_) | (refine X.lv H ?_) | (refine X.lw H ?_) | (refine X.lp H ?_) | (refine X.stR H ?_; clear H; (try clear w); intro w H) | (refine X.eqL ?_ ?_ <;> intro hc <;> first | (exfalso; first | exact absurd hc (by assumption) | exact absurd (by assumption) hc) | skip) | refine Z H ?_ | (refine Zc ?_ ?_ <;> intro hc <;> first | (exfalso; omega) | skip) | (refine Y ?_; try change C _ _ _ _ _ _) | (refine Zs H ?_; clear H; (try clear w); intro w H) | (refine Zn H ?_; clear H; (try clear w); (first | ((fail_if_success (have := bl1)); intro bl1 w H) | ((fail_if_success (have := bl2)); intro bl2 w H) | ((fail_if_success (have := bl3)); intro bl3 w H) | intro _ w H)) | (refine Ze H ?_; clear H; (try clear w); intro gv w H))
  rw [← hsp] at hw0 hm1 H ⊢
  generalize hnde : splice (bytesOf t f) o l = nd at *
  have hle0 := Ro.Le.refl s
  generalize hsze : most (t.n f).size ((o : Int) + l.length) = size at *
  refine C.loopS [11, 17, 80, 81, 82, 83, 84, 85, 86, 87, 88, 89, 90, 91, 92, 93, 94, 95, 96, 97, 98, 99, 100, 101, 102, 103, 104, 105, 106, 107, 108, 109, 110, 111] [] rfl (fun k vs w => ∃ (s1 : Ro) (m' : List RN) (x : TR), k = 80 - 40 * (rn m' f).nb ∧ s.Le s1 ∧ WrS s1 m m' t x f size quota nd ∧ Holds s1 w (var bl3 39 (rcells m) :: var bl2 39 (rcells (List.replicate 8 RN.zero)) :: var bl1 39 (rcells m') :: R)) _ ⟨s, _, t, rfl, hle0, hw0, H⟩ ?_
  clear H
  rintro k vs hv3 w ⟨s1, m', x, rfl, hle1, hw1, H⟩
  have hm8' := hw1.l8
  have hm32' := rcells_len hm8'
  have hblk := hw1.blk hD hle1
  have hfew : (rn m' f).nb ≤ 2 := by rw [hw1.b.l]; exact blks_len _
  have hbn := hw1.b.l
  have hdd := hw1.d
  have c3 := rcell hm8' hf 3 _ rfl
  have hml : IntKind.i64.wrap (40 * ((rn m' f).nb : Int)) = 40 * ((rn m' f).nb : Int) := IntWalk.i64_in _ (by omega)
  by_cases hlt : 40 * (rn m' f).nb < nd.length
  rotate_left
  · have hg := hw1.st.stop (by omega) (by omega)
    rw [hg] at hm0
    dsimp only at hm0
    repeat' (first | (refine K.iaA (i := f) rfl rfl rfl rfl rfl hf ?_) | (refine X.mulI _ hml ?_) | (refine X.lenL ?_) | (refine X.lv H ?_) | (refine X.lw H ?_) | (refine X.lp H ?_) | (refine X.stR H ?_; clear H; (try clear w); intro w H) | (refine X.eqL ?_ ?_ <;> intro hc <;> first | (exfalso; first | exact absurd hc (by assumption) | exact absurd (by assumption) hc) | skip) | refine Z H ?_ | (refine Zc ?_ ?_ <;> intro hc <;> first | (exfalso; omega) | skip) | (refine Y ?_; try change C _ _ _ _ _ _) | (refine Zs H ?_; clear H; (try clear w); intro w H) | (refine Zn H ?_; clear H; (try clear w); (first | ((fail_if_success (have := bl1)); intro bl1 w H) | ((fail_if_success (have := bl2)); intro bl2 w H) | ((fail_if_success (have := bl3)); intro bl3 w H) | intro _ w H)) | (refine Ze H ?_; clear H; (try clear w); intro gv w H))
    refine ⟨_, resVT (cs := rcells m') H rfl rfl inferInstance hm32', s1, m', hle1, by rw [hm0]; rfl, hm8', fun _ => ?_, H.tail.tail.tail⟩
    rw [hm0]
    subst hsze
    subst hnde
    exact hw1.doc hD hle1 hW hf hk2 (by omega) hl1 hg
  repeat' (first | (refine K.iaA (i := f) rfl rfl rfl rfl rfl hf ?_) | (refine X.mulI _ hml ?_) | (refine X.lenL ?_) | (refine X.lv H ?_) | (refine X.lw H ?_) | (refine X.lp H ?_) | (refine X.stR H ?_; clear H; (try clear w); intro w H) | (refine X.eqL ?_ ?_ <;> intro hc <;> first | (exfalso; first | exact absurd hc (by assumption) | exact absurd (by assumption) hc) | skip) | refine Z H ?_ | (refine Zc ?_ ?_ <;> intro hc <;> first | (exfalso; omega) | skip) | (refine Y ?_; try change C _ _ _ _ _ _) | (refine Zs H ?_; clear H; (try clear w); intro w H) | (refine Zn H ?_; clear H; (try clear w); (first | ((fail_if_success (have := bl1)); intro bl1 w H) | ((fail_if_success (have := bl2)); intro bl2 w H) | ((fail_if_success (have := bl3)); intro bl3 w H) | intro _ w H)) | (refine Ze H ?_; clear H; (try clear w); intro gv w H))
  (refine X.call (spare_x H hm8' hblk hw1.st.ok) ?_; (try clear H); rintro _ w ⟨rfl, H⟩; refine ⟨_, rfl, ?_⟩)
  by_cases hb : unusedM x = 0
  · have hg := hw1.st.fail (by omega) (by omega) (.inl hb)
    rw [hg] at hm0
    dsimp only at hm0
    repeat' (first | (refine X.lenL ?_) | (refine X.lv H ?_) | (refine X.lw H ?_) | (refine X.lp H ?_) | (refine X.stR H ?_; clear H; (try clear w); intro w H) | (refine X.eqL ?_ ?_ <;> intro hc <;> first | (exfalso; first | exact absurd hc (by assumption) | exact absurd (by assumption) hc) | skip) | refine Z H ?_ | (refine Zc ?_ ?_ <;> intro hc <;> first | (exfalso; omega) | skip) | (refine Y ?_; try change C _ _ _ _ _ _) | (refine Zs H ?_; clear H; (try clear w); intro w H) | (refine Zn H ?_; clear H; (try clear w); (first | ((fail_if_success (have := bl1)); intro bl1 w H) | ((fail_if_success (have := bl2)); intro bl2 w H) | ((fail_if_success (have := bl3)); intro bl3 w H) | intro _ w H)) | (refine Ze H ?_; clear H; (try clear w); intro gv w H))
    exact ⟨_, resVT (cs := rcells m) H rfl rfl inferInstance hm32, s1, m, hle1, by rw [hm0]; rfl, hm8, (fun h => by rw [hm0] at h; cases h), H.tail.tail.tail⟩
  repeat' (first | (refine X.lenL ?_) | (refine X.lv H ?_) | (refine X.lw H ?_) | (refine X.lp H ?_) | (refine X.stR H ?_; clear H; (try clear w); intro w H) | (refine X.eqL ?_ ?_ <;> intro hc <;> first | (exfalso; first | exact absurd hc (by assumption) | exact absurd (by assumption) hc) | skip) | refine Z H ?_ | (refine Zc ?_ ?_ <;> intro hc <;> first | (exfalso; omega) | skip) | (refine Y ?_; try change C _ _ _ _ _ _) | (refine Zs H ?_; clear H; (try clear w); intro w H) | (refine Zn H ?_; clear H; (try clear w); (first | ((fail_if_success (have := bl1)); intro bl1 w H) | ((fail_if_success (have := bl2)); intro bl2 w H) | ((fail_if_success (have := bl3)); intro bl3 w H) | intro _ w H)) | (refine Ze H ?_; clear H; (try clear w); intro gv w H))
  (refine X.call (Used_x H hm8' hblk hw1.st.ok) ?_; (try clear H); rintro _ w ⟨rfl, H⟩; refine ⟨_, rfl, ?_⟩)
  by_cases hq : quota ≤ (usedN x : Nat)
  · have hg := hw1.st.fail (by omega) (by omega) (.inr hq)
    rw [hg] at hm0
    dsimp only at hm0
    repeat' (first | (refine X.lenL ?_) | (refine X.lv H ?_) | (refine X.lw H ?_) | (refine X.lp H ?_) | (refine X.stR H ?_; clear H; (try clear w); intro w H) | (refine X.eqL ?_ ?_ <;> intro hc <;> first | (exfalso; first | exact absurd hc (by assumption) | exact absurd (by assumption) hc) | skip) | refine Z H ?_ | (refine Zc ?_ ?_ <;> intro hc <;> first | (exfalso; omega) | skip) | (refine Y ?_; try change C _ _ _ _ _ _) | (refine Zs H ?_; clear H; (try clear w); intro w H) | (refine Zn H ?_; clear H; (try clear w); (first | ((fail_if_success (have := bl1)); intro bl1 w H) | ((fail_if_success (have := bl2)); intro bl2 w H) | ((fail_if_success (have := bl3)); intro bl3 w H) | intro _ w H)) | (refine Ze H ?_; clear H; (try clear w); intro gv w H))
    exact ⟨_, resVT (cs := rcells m) H rfl rfl inferInstance hm32, s1, m, hle1, by rw [hm0]; rfl, hm8, (fun h => by rw [hm0] at h; cases h), H.tail.tail.tail⟩
  obtain ⟨hst2, hbl2⟩ := hw1.st.next hf (by omega) (by omega) (fun h => h.elim hb hq)
  have hbs := hw1.b.b
  generalize unusedM x = b at *
  repeat' (first | (refine K.iaA (i := f) rfl rfl rfl rfl rfl hf ?_) | (refine X.lenL ?_) | (refine X.lv H ?_) | (refine X.lw H ?_) | (refine X.lp H ?_) | (refine X.stR H ?_; clear H; (try clear w); intro w H) | (refine X.eqL ?_ ?_ <;> intro hc <;> first | (exfalso; first | exact absurd hc (by assumption) | exact absurd (by assumption) hc) | skip) | refine Z H ?_ | (refine Zc ?_ ?_ <;> intro hc <;> first | (exfalso; omega) | skip) | (refine Y ?_; try change C _ _ _ _ _ _) | (refine Zs H ?_; clear H; (try clear w); intro w H) | (refine Zn H ?_; clear H; (try clear w); (first | ((fail_if_success (have := bl1)); intro bl1 w H) | ((fail_if_success (have := bl2)); intro bl2 w H) | ((fail_if_success (have := bl3)); intro bl3 w H) | intro _ w H)) | (refine Ze H ?_; clear H; (try clear w); intro gv w H))
  have hone : ∀ v ∈ (blks (x.n f)).map (fun b => Value.int .i64 b), v.oneCell' = true := by
    intro v hv
    obtain ⟨x, _, rfl⟩ := List.mem_map.1 hv
    rfl
  refine K.app 0 H rfl (.ro hbs) hone (by unfold maxLen; omega) (by omega) rfl rfl rfl ?_
  clear H
  intro a4 c4 w H
  simp only [List.set_cons_zero, List.nil_append, Nat.zero_add] at H
  rw [show 0 + (rn m' f).nb = (rn m' f).nb from Nat.zero_add _]
  repeat' (first | (refine X.lenL ?_) | (refine X.lv H ?_) | (refine X.lw H ?_) | (refine X.lp H ?_) | (refine X.stR H ?_; clear H; (try clear w); intro w H) | (refine X.eqL ?_ ?_ <;> intro hc <;> first | (exfalso; first | exact absurd hc (by assumption) | exact absurd (by assumption) hc) | skip) | refine Z H ?_ | (refine Zc ?_ ?_ <;> intro hc <;> first | (exfalso; omega) | skip) | (refine Y ?_; try change C _ _ _ _ _ _) | (refine Zs H ?_; clear H; (try clear w); intro w H) | (refine Zn H ?_; clear H; (try clear w); (first | ((fail_if_success (have := bl1)); intro bl1 w H) | ((fail_if_success (have := bl2)); intro bl2 w H) | ((fail_if_success (have := bl3)); intro bl3 w H) | intro _ w H)) | (refine Ze H ?_; clear H; (try clear w); intro gv w H))
  refine K.one H rfl rfl (by conv => lhs; whnf) (by rfl) (by rfl) ?_; clear H; (try clear w); intro g1 w H
  refine K.app 1 H rfl (.own 0 _ rfl) (by intro v hv; rw [List.mem_singleton.1 hv]; rfl) (by unfold maxLen; omega) (by omega) rfl rfl rfl ?_
  clear H
  intro a3 c3' w H
  simp only [List.set_cons_succ, List.set_cons_zero] at H
  replace H := H.tail
  have hfix : ((blks (x.n f)).map (fun b => Value.int .i64 b)) ++ [Value.int .i64 (b : Int)] = (blks (x.n f) ++ [(b : Int)]).map (fun b => Value.int .i64 b) := by simp
  rw [hfix] at H
  obtain ⟨s2, hs2, H1, hr2⟩ := H.fixRow
  clear H
  have H := H1
  clear H1
  rw [← hbl2] at hr2
  have hn3 : rn (m'.set f { rn m' f with sa := a3, nb := (rn m' f).nb + 1, sc := c3' }) f = { rn m' f with sa := a3, nb := (rn m' f).nb + 1, sc := c3' } := by rw [rn_set hm8' hf, if_pos rfl]
  have hw2 : WrS s2 m (m'.set f { rn m' f with sa := a3, nb := (rn m' f).nb + 1, sc := c3' }) t _ f size quota nd := ⟨by rw [List.length_set, hm8'], hst2, fun j hj hne => by rw [rn_set hm8' hf, if_neg (fun e => hne e.symm)]; exact hw1.oth j hj hne, by rw [hn3]; exact hw1.k, by rw [hn3]; exact hw1.p, by rw [hn3]; exact hw1.d, by rw [hn3]; exact ⟨by rw [hbl2, List.length_append, ← hbn]; rfl, hr2⟩⟩
  repeat' (first | (refine K.iaA (i := f) rfl rfl rfl rfl rfl hf ?_) | (refine X.stRc f 3 { rn m' f with sa := a3, nb := (rn m' f).nb + 1, sc := c3' } hm8' hf (by decide) rfl H ?_; clear H; (try clear w); intro w H) | (refine X.lenL ?_) | (refine X.lv H ?_) | (refine X.lw H ?_) | (refine X.lp H ?_) | (refine X.stR H ?_; clear H; (try clear w); intro w H) | (refine X.eqL ?_ ?_ <;> intro hc <;> first | (exfalso; first | exact absurd hc (by assumption) | exact absurd (by assumption) hc) | skip) | refine Z H ?_ | (refine Zc ?_ ?_ <;> intro hc <;> first | (exfalso; omega) | skip) | (refine Y ?_; try change C _ _ _ _ _ _) | (refine Zs H ?_; clear H; (try clear w); intro w H) | (refine Zn H ?_; clear H; (try clear w); (first | ((fail_if_success (have := bl1)); intro bl1 w H) | ((fail_if_success (have := bl2)); intro bl2 w H) | ((fail_if_success (have := bl3)); intro bl3 w H) | intro _ w H)) | (refine Ze H ?_; clear H; (try clear w); intro gv w H))
  exact ⟨by (repeat (first | exact Agr.refl | exact Agr.hav | refine Agr.upd rfl ?_ | refine Agr.in rfl ?_)), 80 - 40 * ((rn m' f).nb + 1), by omega, s2, _, _, by rw [hn3], hle1.trans hs2, hw2, H⟩
end
end Go.Proofs.Ytlchnabnhimlcaa
set_option linter.unusedSimpArgs false
set_option linter.unusedVariables false
namespace Go.Own
open Go Go.RowKit
/-- the cells cs read as a value of type t, each slice and string within the form's reach -/
def Rdg (P : Program) (w : World) (t : TypeId) (cs : List Value) : Prop :=
  ∃ (H : Type) (enc : TypeId × Value → H) (fuel : Nat) (x : DataW H × List MemPlace), DataW.trod enc P w 0 (fun _ => true) true fuel t cs = some x ∧ ∀ n ∈ x.1.weights P t, n ≤ reachBytes
section
variable {P : Program} {w : World} {t e : TypeId} {cs : List Value}
theorem rdg_int {k : IntKind} (hu : P.underlying t = some (.int k)) (h : Rdg P w t cs) : ∃ n, cs = [.int k n] ∧ (Lit.int k n).wf = true := by
  obtain ⟨H, enc, fuel, x, h, _⟩ := h
  cases fuel with
  | zero => simp [DataW.trod] at h
  | succ f =>
    unfold DataW.trod at h
    rw [hu] at h
    split at h <;> simp_all
theorem rdg_string (hu : P.underlying t = some .string) (h : Rdg P w t cs) : ∃ s : ByteArray, cs = [.string s] ∧ s.size ≤ reachBytes := by
  obtain ⟨H, enc, fuel, x, h, hw⟩ := h
  cases fuel with
  | zero => simp [DataW.trod] at h
  | succ f =>
    unfold DataW.trod at h
    rw [hu] at h
    split at h <;> simp_all
    rename_i s
    obtain ⟨_, rfl⟩ := h
    have := hw s.data.toList.length (by simp [DataW.weights])
    rw [Array.length_toList] at this
    exact this
theorem add_add (a : Addr) (m j : Nat) : (a.add m).add j = a.add (m + j) := by
  unfold Addr.add
  by_cases hm : m = 0
  · simp [hm]
  · by_cases hj : j = 0
    · simp [hj]
    · rw [if_neg hm, if_neg hj, if_neg (by omega)]
      simp [Nat.add_assoc]
theorem weights_all {H : Type} {l : List (DataW H)} {d : DataW H} (h : d ∈ l) {n : Nat} (hn : n ∈ d.weights P e) : n ∈ DataW.weightsAll P e l := by
  induction l with
  | nil => cases h
  | cons x r ih =>
    simp only [DataW.weightsAll, List.mem_append]
    rcases List.mem_cons.1 h with rfl | h
    · exact .inl hn
    · exact .inr (ih h)
theorem rdg_slice (hu : P.underlying t = some (.slice e)) (h : Rdg P w t cs) : cs = [.slice none 0 0] ∨
    ∃ a len cap, cs = [.slice (some a) len cap] ∧ len ≤ cap ∧ cap ≤ maxLen ∧ cap * P.bytesOf e ≤ reachBytes ∧
      ∀ i, i < len → ∃ cs', cs'.length = P.cellsOf e ∧ (∀ j, j < P.cellsOf e → w.cell? (a.add (i * P.cellsOf e + j)) = cs'[j]?) ∧ Rdg P w e cs' := by
  obtain ⟨H, enc, fuel, x, h, hw⟩ := h
  rcases Deep.open_slice hu h with ⟨h0, _⟩ | ⟨a, len, cap, m, n, D, Pl, rfl, _, hl, hm, hmm, rfl, hx⟩
  · exact .inl h0
  · right
    simp only [if_true] at hmm
    subst hmm
    simp only [DataW.weights, hu] at hw
    refine ⟨a, len, m, rfl, hl, hm, ?_, fun i hi => ?_⟩
    · have := hw _ (by simp; exact Or.inl rfl)
      rw [show len + (m - len) = m by omega] at this
      exact this
    · obtain ⟨cs', h1, h2⟩ := hx i (by omega)
      obtain ⟨_, hlen, hc⟩ := World.cells?_some h1
      refine ⟨cs', hlen, fun j hj => by rw [← add_add]; exact hc j hj, H, enc, n, (D i, Pl i), h2, fun q hq => hw q ?_⟩
      simp only [List.mem_cons, List.mem_append]
      refine .inr (.inl (weights_all (d := D i) ?_ hq))
      exact List.mem_map.2 ⟨i, List.mem_range.2 hi, rfl⟩
theorem rdg_struct {fs : Array Field} (hu : P.underlying t = some (.struct fs)) (h : Rdg P w t cs) : cs.length = P.cellsOf t ∧
    ∀ (j : Nat) f, fs[j]? = some f → Rdg P w f.type ((cs.drop f.offset).take (P.cellsOf f.type)) := by
  obtain ⟨H, enc, fuel, x, h, hw⟩ := h
  cases fuel with
  | zero => simp [DataW.trod] at h
  | succ n =>
    unfold DataW.trod at h
    rw [hu] at h
    simp only [] at h
    split at h
    · rename_i hl
      rw [Option.map_eq_some_iff] at h
      obtain ⟨xs, hxs, rfl⟩ := h
      refine ⟨hl, fun j f hf => ?_⟩
      have hj := mapM_some_get hxs j f (by simpa using hf)
      have hlen := mapM_some_length hxs
      have hjl : j < xs.length := by
        have : j < fs.size := (Array.getElem?_eq_some_iff.1 hf).1
        simp at hlen; omega
      rw [List.getElem?_eq_getElem hjl] at hj
      refine ⟨H, enc, n, xs[j], hj, fun q hq => hw q ?_⟩
      simp only [DataW.weights, hu]
      refine DataW.weights_mem_each (j := j) (t := f.type) (d := xs[j].1) ?_ ?_ q hq
      · simp [hf]
      · simp [hjl]
    · cases h
theorem exists_list {α : Type} {p : Nat → α → Prop} : ∀ (n : Nat), (∀ i, i < n → ∃ x, p i x) → ∃ l : List α, l.length = n ∧ ∀ i (h : i < l.length), p i l[i]
  | 0, _ => ⟨[], rfl, fun i h => absurd h (by simp)⟩
  | n + 1, h => by
    obtain ⟨l, hl, hp⟩ := exists_list n (fun i hi => h i (by omega))
    obtain ⟨x, hx⟩ := h n (by omega)
    refine ⟨l ++ [x], by simp [hl], fun i hi => ?_⟩
    by_cases hin : i < l.length
    · rw [List.getElem_append_left hin]; exact hp i hin
    · have : i = n := by simp at hi; omega
      subst this
      rw [List.getElem_append_right (by omega)]
      simp only [hl, Nat.sub_self, List.getElem_cons_zero]
      exact hx
theorem flatMap_get {α : Type} {f : α → List Value} {sz : Nat} (hpos : 0 < sz) : ∀ (l : List α), (∀ x ∈ l, (f x).length = sz) → ∀ (j : Nat) (v : Value), (l.flatMap f)[j]? = some v → ∃ (h : j / sz < l.length), (f l[j / sz])[j % sz]? = some v
  | [], _, j, v, h => by simp at h
  | x :: l, hf, j, v, h => by
    have hx := hf x (by simp)
    rw [List.flatMap_cons] at h
    by_cases hj : j < sz
    · rw [List.getElem?_append_left (by omega)] at h
      have e1 : j / sz = 0 := Nat.div_eq_of_lt hj
      have e2 : j % sz = j := Nat.mod_eq_of_lt hj
      refine ⟨by rw [e1]; simp, ?_⟩
      simp only [e1, e2, List.getElem_cons_zero]
      exact h
    · rw [List.getElem?_append_right (by omega), hx] at h
      obtain ⟨h1, h2⟩ := flatMap_get hpos l (fun y hy => hf y (by simp [hy])) (j - sz) v h
      have e1 : j / sz = (j - sz) / sz + 1 := by
        rw [Nat.div_eq_sub_div hpos (by omega)]
      have e2 : j % sz = (j - sz) % sz := by rw [Nat.mod_eq_sub_mod (by omega)]
      refine ⟨by rw [e1]; simp; exact h1, ?_⟩
      simp only [e1, e2, List.getElem_cons_succ]
      exact h2
theorem flatMap_len {α : Type} {f : α → List Value} {sz : Nat} : ∀ (l : List α), (∀ x ∈ l, (f x).length = sz) → (l.flatMap f).length = l.length * sz
  | [], _ => by simp
  | x :: l, hf => by
    rw [List.flatMap_cons, List.length_append, hf x (by simp), flatMap_len l (fun y hy => hf y (by simp [hy]))]
    simp [Nat.add_mul]; omega
/-- a slice of elements that each read as data: as a list -/
theorem rdg_list {α : Type} (f : α → List Value) (p : α → Prop) {v : Value} (hu : P.underlying t = some (.slice e)) (hsz : 0 < P.cellsOf e) (hone : ∀ cs', cs'.length = P.cellsOf e → Rdg P w e cs' → ∃ x, f x = cs' ∧ p x) (h : Rdg P w t [v]) :
    ∃ l : List α, Sl w v (P.cellsOf e) l.length (l.flatMap f) ∧ (∀ x ∈ l, p x ∧ (f x).length = P.cellsOf e) ∧ l.length * P.bytesOf e ≤ reachBytes := by
  rcases rdg_slice hu h with h0 | ⟨a, len, cap, hv, hl, hm, hb, hel⟩
  · cases h0
    exact ⟨[], ⟨none, 0, rfl, by simp, Nat.le_refl _, Nat.zero_le _, fun j x hx => by simp at hx⟩, by simp, by simp⟩
  · cases hv
    have hch : ∀ i, i < len → ∃ x : α, (f x).length = P.cellsOf e ∧ (∀ j, j < P.cellsOf e → w.cell? (a.add (i * P.cellsOf e + j)) = (f x)[j]?) ∧ p x := fun i hi => by
      obtain ⟨cs', h1, h2, h3⟩ := hel i hi
      obtain ⟨x, hx, hp⟩ := hone cs' h1 h3
      exact ⟨x, by rw [hx]; exact h1, by rw [hx]; exact h2, hp⟩
    obtain ⟨l, hll, hp⟩ := exists_list len hch
    have hflen : ∀ x ∈ l, (f x).length = P.cellsOf e := fun x hx => by
      obtain ⟨i, hi, rfl⟩ := List.mem_iff_getElem.1 hx; exact (hp i hi).1
    refine ⟨l, ⟨some a, cap, by rw [hll], flatMap_len l hflen, by omega, hm, fun j v hv => ⟨a, rfl, ?_⟩⟩, fun x hx => ⟨?_, hflen x hx⟩, ?_⟩
    · obtain ⟨h1, h2⟩ := flatMap_get hsz l hflen j v hv
      have := (hp _ h1).2.1 (j % P.cellsOf e) (Nat.mod_lt _ hsz)
      rw [show j / P.cellsOf e * P.cellsOf e + j % P.cellsOf e = j by rw [Nat.mul_comm]; exact Nat.div_add_mod j _] at this
      rw [this]; exact h2
    · obtain ⟨i, hi, rfl⟩ := List.mem_iff_getElem.1 hx; exact (hp i hi).2.2
    · rw [hll]; exact Nat.le_trans (Nat.mul_le_mul_right _ hl) hb
theorem flatMap_one {α : Type} (f : α → Value) : ∀ (l : List α), l.flatMap (fun x => [f x]) = l.map f
  | [] => rfl
  | x :: l => by rw [List.flatMap_cons, flatMap_one f l]; rfl
theorem rdg_ints {v : Value} {k : IntKind} (hu : P.underlying t = some (.slice e)) (he : P.underlying e = some (.int k)) (hc : P.cellsOf e = 1) (h : Rdg P w t [v]) :
    ∃ l : List Int, Sl w v 1 l.length (l.map (Value.int k)) ∧ (∀ n ∈ l, (Lit.int k n).wf = true) ∧ l.length * P.bytesOf e ≤ reachBytes := by
  obtain ⟨l, h1, h2, h3⟩ := rdg_list (fun n : Int => [Value.int k n]) (fun n => (Lit.int k n).wf = true) hu (by rw [hc]; decide) (fun cs' _ h => by
    obtain ⟨n, rfl, hw⟩ := rdg_int he h; exact ⟨n, rfl, hw⟩) h
  rw [hc] at h1
  refine ⟨l, ?_, fun n hn => (h2 n hn).1, h3⟩
  rwa [flatMap_one] at h1
theorem wf_u8 {n : Int} (h : (Lit.int .u8 n).wf = true) : ∃ x : UInt8, Value.int .u8 n = u8 x := by
  have := bounds_u8 h
  refine ⟨UInt8.ofNat n.toNat, ?_⟩
  unfold u8
  congr 1
  rw [UInt8.toNat_ofNat']
  omega
end
end Go.Own
set_option linter.unusedSimpArgs false
set_option linter.unusedVariables false
namespace Go.Proofs.Ytlchnabnhimlcaa
open Go Go.RowKit Go.Own
open Go.ChangeShapes Go.WideShapes Go.ChangeAt
theorem rdg_field {P : Program} {w : World} {t : TypeId} {cs : List Value} {fs : Array Field} (hu : P.underlying t = some (.struct fs)) (h : Rdg P w t cs) (j : Nat) (ft : TypeId) (off sz : Nat) (hf : (fs[j]?).map (fun f => (f.type, f.offset)) = some (ft, off)) (hs : P.cellsOf ft = sz) : Rdg P w ft ((cs.drop off).take sz) := by
  obtain ⟨_, h2⟩ := rdg_struct hu h
  rw [Option.map_eq_some_iff] at hf
  obtain ⟨f, h3, h4⟩ := hf
  cases h4
  have := h2 j f h3
  rwa [hs] at this
end Go.Proofs.Ytlchnabnhimlcaa
set_option linter.unusedSimpArgs false
set_option linter.unusedVariables false
namespace Go.Proofs.Ytlchnabnhimlcaa
open Go Go.RowKit Go.Own
open Go.ChangeShapes Go.WideShapes Go.ChangeAt
section
variable {P : Program} {w : World} {t e : TypeId} {cs : List Value}
theorem rdg_u8s {v : Value} (hu : P.underlying t = some (.slice e)) (he : P.underlying e = some (.int .u8)) (hc : P.cellsOf e = 1) (hb : P.bytesOf e = 1) (h : Rdg P w t [v]) : ∃ l : List UInt8, Sl w v 1 l.length (u8s l) ∧ l.length ≤ reachBytes := by
  obtain ⟨l, h1, h2, h3⟩ := rdg_ints hu he hc h
  have he : l.map (Value.int .u8) = u8s (l.map fun n => UInt8.ofNat n.toNat) := by
    unfold u8s
    rw [List.map_map]
    refine List.map_congr_left fun n hn => ?_
    obtain ⟨x, hx⟩ := wf_u8 (h2 n hn)
    have hxe : n = (x.toNat : Int) := by unfold u8 at hx; exact (Value.int.inj hx).2
    subst hxe
    show Value.int .u8 (x.toNat : Int) = u8 (UInt8.ofNat ((x.toNat : Int)).toNat)
    rw [Int.toNat_natCast, UInt8.ofNat_toNat]; rfl
  rw [hb, Nat.mul_one] at h3
  refine ⟨l.map fun n => UInt8.ofNat n.toNat, ?_, by rw [List.length_map]; exact h3⟩
  rw [List.length_map, ← he]
  exact h1
theorem rdg_str (hu : P.underlying t = some .string) (h : Rdg P w t cs) : ∃ s : Str, cs = [.string ⟨s.toArray⟩] ∧ s.length ≤ reachBytes := by
  obtain ⟨s, h1, h2⟩ := rdg_string hu h
  exact ⟨s.data.toList, h1, by rw [Array.length_toList]; exact h2⟩
end
theorem reach_le2 : reachBytes ≤ 140737488355328 := by decide
end Go.Proofs.Ytlchnabnhimlcaa

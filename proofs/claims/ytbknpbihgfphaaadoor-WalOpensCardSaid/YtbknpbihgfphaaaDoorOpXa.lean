/- The document's Open of a disk, walked. wal: a commit in which the power may fail, plain. WalConfined, walked. -/
import Derived.Test.YtbknpbihgfphaaaDoorOpWz
import Derived.Test.YtbknpbihgfphaaaDoorOpWu
import Derived.Test.YtbknpbihgfphaaaDoorOpAr
set_option linter.unusedSimpArgs false
set_option linter.unusedVariables false
namespace Go.Proofs.YtbknpbihgfphaaaDoor
open Go Go.RowKit Go.Own
theorem sec_def (d : DM) (f : Nat) (k : Nat) : sec d ((f : Int), 52) k = (pread d ((f : Int), 52) (k : Int)).1 := rfl
section
variable {s : Ro} {w : World} {R : List Asn}
set_option maxRecDepth 100000 in
set_option maxHeartbeats 1000000 in
theorem Open16_s {d : DM} {f : Nat} {v : Value} (H : Holds s w R) (hR : RefS s v d) (hof : d.off = false) (hlen : d.secs.length ≤ 256) (hf : f + 52 ≤ d.secs.length) (hwf : d.Wf) (hpl : d.pend.length ≤ 1000000) : Calls Tryd.prog 43 #[v, .int .i64 (f : Int)] w fun y w' => ∃ s' cs code, y = .returned (.tuple #[.agg cs.toArray, .int .i64 code]) ∧ s.Le s' ∧ Holds s' w' R ∧
    ((openM d ((f : Int), 52) = (none, code) ∧ code ≠ 0 ∧ RefW s' cs d f none 0 0 0 0 0 false) ∨ ∃ m pa pc, openM d ((f : Int), 52) = (some m, 0) ∧ code = 0 ∧ RefW s' cs d f pa 16 pc m.epoch m.home m.used false ∧ m.dead = false ∧ SlS s' (.slice pa 16 pc) 1 16 (strs (pgsOf m.pages))) := by
  have hrd : ∀ k : Nat, k < 52 → d.read ((f + k : Nat) : Int) = (d.cur (f + k), 0) := fun k hk => read_free hof (by omega)
  have hsec : ∀ k : Nat, k < 52 → sec d ((f : Int), 52) k = d.cur (f + k) := fun k hk => by
    rw [sec_def, show (52 : Int) = ((52 : Nat) : Int) from rfl, pread_in hof hk hf hlen]
  have h64 : ∀ k, k < 52 → (d.cur (f + k)).length = 64 := fun k hk => by rw [cur_curTo]; exact curTo_len hwf (by omega) _
  obtain ⟨a0, c0, a1, c1, lf, a2, n2, c2, rfl⟩ := refCellsW hR
  refine enter Tryd.func43 rfl Tryd.ntmps43 rfl ?_
  repeat' (first | refine Z H ?_ | (refine Zc ?_ ?_ <;> intro hc <;> first | (exfalso; omega) | skip) | (refine Y ?_; try change C _ _ _ _ _ _) | (refine Zs H ?_; clear H; (try clear w); intro w H) | (refine Zn H ?_; clear H; (try clear w); (first | ((fail_if_success (have := bl1)); intro bl1 w H) | ((fail_if_success (have := bl2)); intro bl2 w H) | intro _ w H)) | (refine Ze H ?_; clear H; (try clear w); intro gv w H))
  have H' := H.nilRow 9 1
  clear H
  refine C.loopS [5, 6, 7, 8, 9, 12, 13, 14, 15, 16, 17, 18, 19, 20, 21, 22, 23, 24, 25, 26, 27, 28, 29, 30, 31, 32] [6, 7] rfl (fun k vs w => ∃ i : Nat, ∃ s' pa pc, k = 52 - i ∧ i ≤ 52 ∧ vs = [.slice pa i pc, .int .i64 (i : Int)] ∧ s.Le s' ∧ Holds s' w (row 9 1 (.slice pa i pc) i (strs ((List.range i).map (fun k => d.cur (f + k)))) :: var bl2 86 zlog16 :: var bl1 54 [.slice a0 d.secs.length c0, .slice a1 d.pend.length c1, .bool d.off, .int .i64 lf, .slice a2 n2 c2] :: R)) 52 ⟨0, s, none, 0, rfl, Nat.zero_le _, rfl, Ro.Le.refl _, H'⟩ ?_
  clear H'
  rintro k vs hv w ⟨i, s1, pa, pc, rfl, hi, rfl, hs1, H⟩
  by_cases hlt : i < 52
  · have e0 : (f : Int) + (i : Int) = ((f + i : Nat) : Int) := by omega
    repeat' (first | refine Z H ?_ | (refine Zc ?_ ?_ <;> intro hc <;> first | (exfalso; omega) | skip) | (refine Y ?_; try change C _ _ _ _ _ _) | (refine Zs H ?_; clear H; (try clear w); intro w H) | (refine Zn H ?_; clear H; (try clear w); (first | ((fail_if_success (have := bl1)); intro bl1 w H) | ((fail_if_success (have := bl2)); intro bl2 w H) | intro _ w H)) | (refine Ze H ?_; clear H; (try clear w); intro gv w H))
    rw [e0]
    have hRd := Read_r (n := ((f + i : Nat) : Int)) H (hR.mono hs1) hpl
    rw [hrd i hlt] at hRd
    (refine X.call (hRd) ?_; (try clear H); rintro _ w ⟨rfl, H⟩; refine ⟨_, rfl, ?_⟩)
    clear hRd
    dsimp only
    repeat' (first | refine Z H ?_ | (refine Zc ?_ ?_ <;> intro hc <;> first | (exfalso; omega) | skip) | (refine Y ?_; try change C _ _ _ _ _ _) | (refine Zs H ?_; clear H; (try clear w); intro w H) | (refine Zn H ?_; clear H; (try clear w); (first | ((fail_if_success (have := bl1)); intro bl1 w H) | ((fail_if_success (have := bl2)); intro bl2 w H) | intro _ w H)) | (refine Ze H ?_; clear H; (try clear w); intro gv w H))
    refine K.one H rfl rfl (by conv => lhs; whnf) (by rfl) (by rfl) ?_; clear H; (try clear w); intro g1 w H
    repeat' (first | (refine X.app H ?_; clear H; intro a3 c3 w H) | refine Z H ?_ | (refine Zc ?_ ?_ <;> intro hc <;> first | (exfalso; omega) | skip) | (refine Y ?_; try change C _ _ _ _ _ _) | (refine Zs H ?_; clear H; (try clear w); intro w H) | (refine Zn H ?_; clear H; (try clear w); (first | ((fail_if_success (have := bl1)); intro bl1 w H) | ((fail_if_success (have := bl2)); intro bl2 w H) | intro _ w H)) | (refine Ze H ?_; clear H; (try clear w); intro gv w H))
    have H' := H.arr (rs' := row 9 1 (.slice a3 (i + 1) c3) (i + 1) (strs ((List.range i).map (fun k => d.cur (f + k))) ++ [.string (bst (d.cur (f + i)))]) :: var bl2 86 zlog16 :: var bl1 54 [.slice a0 d.secs.length c0, .slice a1 d.pend.length c1, .bool d.off, .int .i64 lf, .slice a2 n2 c2] :: R)
    exact ⟨by (repeat (first | exact Agr.refl | exact Agr.hav | refine Agr.upd rfl ?_ | refine Agr.in rfl ?_)), 52 - (i + 1), by omega, i + 1, s1, a3, c3, rfl, by omega, rfl, hs1, by
      have e1 : strs ((List.range (i + 1)).map (fun k => d.cur (f + k))) = strs ((List.range i).map (fun k => d.cur (f + k))) ++ [.string (bst (d.cur (f + i)))] := by
        rw [List.range_succ, List.map_append, strs_app]; rfl
      rw [e1]; exact H'⟩
  · have hie : i = 52 := by omega
    subst hie
    obtain ⟨Ls, hLs⟩ : ∃ Ls, (List.range 52).map (fun k => d.cur (f + k)) = Ls := ⟨_, rfl⟩
    have hL : Ls.length = 52 := by rw [← hLs]; simp
    have hLk : ∀ k, k < 52 → secL Ls k = d.cur (f + k) := fun k hk => by
      unfold secL
      rw [← hLs, List.getElem?_map, List.getElem?_range hk]; rfl
    have hL64 : ∀ x ∈ Ls, x.length = 64 := fun x hx => by
      rw [← hLs] at hx
      obtain ⟨k, hk, rfl⟩ := List.mem_map.1 hx
      exact h64 k (List.mem_range.1 hk)
    rw [hLs] at H
    clear hLs
    have hoe : openM d ((f : Int), 52) = openC (secL Ls) := openC_eq (fun k hk => by rw [hsec k hk, hLk k hk])
    rw [hoe]
    obtain ⟨s2, hs2, H', hS⟩ := H.fixRow
    clear H
    have H := H'
    clear H'
    replace hR := hR.mono (hs1.trans hs2)
    repeat' (first | refine Z H ?_ | (refine Zc ?_ ?_ <;> intro hc <;> first | (exfalso; omega) | skip) | (refine Y ?_; try change C _ _ _ _ _ _) | (refine Zs H ?_; clear H; (try clear w); intro w H) | (refine Zn H ?_; clear H; (try clear w); (first | ((fail_if_success (have := bl1)); intro bl1 w H) | ((fail_if_success (have := bl2)); intro bl2 w H) | intro _ w H)) | (refine Ze H ?_; clear H; (try clear w); intro gv w H))
    have hSt := State16_s H hL hL64 (by rw [hL]; exact hS)
    refine X.call hSt ?_
    clear H hSt
    rintro _ w ⟨s3, cs, code, rfl, hs3, H, hres⟩
    refine ⟨_, rfl, ?_⟩
    replace hR := hR.mono hs3
    have hs := (hs1.trans hs2).trans hs3
    obtain ⟨e, h, u, pb, pn, qc, hcs, hfin⟩ : ∃ e h u pb pn qc, cs = logZ e h u pb pn qc ∧ ∀ cs', RefW s3 cs' d f pb pn qc e h u false → ((openC (secL Ls) = (none, code) ∧ code ≠ 0 ∧ RefW s3 cs' d f none 0 0 0 0 0 false) ∨ ∃ m pa pc, openC (secL Ls) = (some m, 0) ∧ code = 0 ∧ RefW s3 cs' d f pa 16 pc m.epoch m.home m.used false ∧ m.dead = false ∧ SlS s3 (.slice pa 16 pc) 1 16 (strs (pgsOf m.pages))) := by
      rcases hres with ⟨h1, h2, h3⟩ | ⟨m, pa, pc, h1, h2, h3, h4, h5⟩
      · exact ⟨_, _, _, _, _, _, h3, fun cs' hc => .inl ⟨h1, h2, hc⟩⟩
      · exact ⟨_, _, _, _, _, _, h3, fun cs' hc => .inr ⟨m, pa, pc, h1, h2, hc, h4, h5⟩⟩
    clear hres
    subst hcs
    repeat' (first | (refine X.stp [.slice a0 d.secs.length c0, .slice a1 d.pend.length c1, .bool d.off, .int .i64 lf, .slice a2 n2 c2, .int .i64 0, .slice pb pn qc, .int .u32 (e : Int), .int .i64 (h : Int), .int .i64 (u : Int), .bool false] H ?_; clear H; (try clear w); intro w H) | refine Z H ?_ | (refine Zc ?_ ?_ <;> intro hc <;> first | (exfalso; omega) | skip) | (refine Y ?_; try change C _ _ _ _ _ _) | (refine Zs H ?_; clear H; (try clear w); intro w H) | (refine Zn H ?_; clear H; (try clear w); (first | ((fail_if_success (have := bl1)); intro bl1 w H) | ((fail_if_success (have := bl2)); intro bl2 w H) | intro _ w H)) | (refine Ze H ?_; clear H; (try clear w); intro gv w H))
    first | (have hT : Holds _ _ (var bl2 _ _ :: _) := H; clear hT) | (replace H := H.up 1 rfl; (try simp only [List.set_cons_zero, List.set_cons_succ, List.eraseIdx_cons_zero, List.eraseIdx_cons_succ] at H); have hT : Holds _ _ (var bl2 _ _ :: _) := H; clear hT) | (replace H := H.up 2 rfl; (try simp only [List.set_cons_zero, List.set_cons_succ, List.eraseIdx_cons_zero, List.eraseIdx_cons_succ] at H); have hT : Holds _ _ (var bl2 _ _ :: _) := H; clear hT) | (replace H := H.up 3 rfl; (try simp only [List.set_cons_zero, List.set_cons_succ, List.eraseIdx_cons_zero, List.eraseIdx_cons_succ] at H); have hT : Holds _ _ (var bl2 _ _ :: _) := H; clear hT) | (replace H := H.up 4 rfl; (try simp only [List.set_cons_zero, List.set_cons_succ, List.eraseIdx_cons_zero, List.eraseIdx_cons_succ] at H); have hT : Holds _ _ (var bl2 _ _ :: _) := H; clear hT) | (replace H := H.up 5 rfl; (try simp only [List.set_cons_zero, List.set_cons_succ, List.eraseIdx_cons_zero, List.eraseIdx_cons_succ] at H); have hT : Holds _ _ (var bl2 _ _ :: _) := H; clear hT) | (replace H := H.up 6 rfl; (try simp only [List.set_cons_zero, List.set_cons_succ, List.eraseIdx_cons_zero, List.eraseIdx_cons_succ] at H); have hT : Holds _ _ (var bl2 _ _ :: _) := H; clear hT)
    exact ⟨_, resVT H rfl, s3, _, code, rfl, hs, H.arr, hfin _ ⟨a0, c0, a1, c1, lf, a2, n2, c2, rfl, hR⟩⟩
theorem Dead_l {bL bp e h u : Nat} {ps : List UInt8} {dd : Bool} (H : Holds s w (logW bL bp e h u ps dd :: R)) (hl : ps.length = 640) : Calls Tryd.prog 87 #[.pointer (some ⟨bL, 0, none⟩)] w fun y w' => y = .returned (.bool dd) ∧ Holds s w' (logW bL bp e h u ps dd :: R) := by
  have hg := get_dead (a := .pointer (some ⟨bp, 0, none⟩)) (b := .int .u32 (e : Int)) (c := .int .i64 (h : Int)) (d := .int .i64 (u : Int)) (v := .bool dd) hl
  unfold logW at *
  refine enter Tryd.func87 rfl Tryd.ntmps87 rfl ?_
  repeat' (first | (refine X.ld (v := .bool dd) H ?_ (hv := hg)) | refine Z H ?_ | (refine Zc ?_ ?_ <;> intro hc <;> first | (exfalso; omega) | skip) | (refine Y ?_; try change C _ _ _ _ _ _) | (refine Zs H ?_; clear H; (try clear w); intro w H) | (refine Zn H ?_; clear H; (try clear w); intro _ w H) | (refine Ze H ?_; clear H; (try clear w); intro gv w H))
  exact ⟨_, resT rfl, rfl, H⟩
set_option maxRecDepth 100000 in
set_option maxHeartbeats 1000000 in
theorem is16_s {bL bp e h u f pc : Nat} {hh : Nat} {ps : List UInt8} {dd : Bool} {d : DM} {cs : List Value} {pa : Option Addr} (H : Holds s w (logW bL bp e h u ps dd :: R)) (hl : ps.length = 640) (hR : RefW s cs d f pa 16 pc e hh u dd) (hS : SlS s (.slice pa 16 pc) 1 16 (strs (pgsOf ps))) : Calls Tryd.prog 44 #[.pointer (some ⟨bL, 0, none⟩), .agg cs.toArray] w fun y w' => y = .returned (.bool true) ∧ Holds s w' (logW bL bp e h u ps dd :: R) := by
  obtain ⟨a0, c0, a1, c1, lf, a2, n2, c2, rfl, hD⟩ := hR
  obtain ⟨g, o, c', hsv, _, _, hpp⟩ := posS hS (by decide) (by decide)
  cases hsv
  have hpin : ∀ k, k < 16 → Pin s g (o + k * 1) (.string (bst (getP ps k))) := fun k hk => by
    rw [Nat.mul_one]
    exact hpp k _ (by unfold strs pgsOf; rw [List.getElem?_map, List.getElem?_map, List.getElem?_range hk]; rfl)
  refine enter Tryd.func44 rfl Tryd.ntmps44 rfl ?_
  repeat' (first | refine Z H ?_ | (refine Zc ?_ ?_ <;> intro hc <;> first | (exfalso; omega) | skip) | (refine Y ?_; try change C _ _ _ _ _ _) | (refine Zs H ?_; clear H; (try clear w); intro w H) | (refine Zn H ?_; clear H; (try clear w); (first | ((fail_if_success (have := bl1)); intro bl1 w H) | intro _ w H)) | (refine Ze H ?_; clear H; (try clear w); intro gv w H))
  first | (have hT : Holds _ _ (logW bL _ _ _ _ _ _ :: _) := H; clear hT) | (replace H := H.up 1 rfl; (try simp only [List.set_cons_zero, List.set_cons_succ, List.eraseIdx_cons_zero, List.eraseIdx_cons_succ] at H); have hT : Holds _ _ (logW bL _ _ _ _ _ _ :: _) := H; clear hT) | (replace H := H.up 2 rfl; (try simp only [List.set_cons_zero, List.set_cons_succ, List.eraseIdx_cons_zero, List.eraseIdx_cons_succ] at H); have hT : Holds _ _ (logW bL _ _ _ _ _ _ :: _) := H; clear hT) | (replace H := H.up 3 rfl; (try simp only [List.set_cons_zero, List.set_cons_succ, List.eraseIdx_cons_zero, List.eraseIdx_cons_succ] at H); have hT : Holds _ _ (logW bL _ _ _ _ _ _ :: _) := H; clear hT) | (replace H := H.up 4 rfl; (try simp only [List.set_cons_zero, List.set_cons_succ, List.eraseIdx_cons_zero, List.eraseIdx_cons_succ] at H); have hT : Holds _ _ (logW bL _ _ _ _ _ _ :: _) := H; clear hT) | (replace H := H.up 5 rfl; (try simp only [List.set_cons_zero, List.set_cons_succ, List.eraseIdx_cons_zero, List.eraseIdx_cons_succ] at H); have hT : Holds _ _ (logW bL _ _ _ _ _ _ :: _) := H; clear hT) | (replace H := H.up 6 rfl; (try simp only [List.set_cons_zero, List.set_cons_succ, List.eraseIdx_cons_zero, List.eraseIdx_cons_succ] at H); have hT : Holds _ _ (logW bL _ _ _ _ _ _ :: _) := H; clear hT)
  refine C.loopS [4, 5, 6, 7, 8, 9, 10, 11, 12, 13, 14, 15, 16, 17, 18, 19, 20, 21, 22, 23, 24, 25, 26, 27, 28, 29] [5] rfl (fun k vs w => ∃ i : Nat, k = 16 - i ∧ i ≤ 16 ∧ vs = [.int .i64 (i : Int)] ∧ Holds s w (logW bL bp e h u ps dd :: var bl1 86 [.slice a0 d.secs.length c0, .slice a1 d.pend.length c1, .bool d.off, .int .i64 lf, .slice a2 n2 c2, .int .i64 (f : Int), .slice (some ⟨g, o, none⟩) 16 pc, .int .u32 (e : Int), .int .i64 (hh : Int), .int .i64 (u : Int), .bool dd] :: R)) 16 ⟨0, rfl, Nat.zero_le _, rfl, H⟩ ?_
  clear H
  rintro k vs hv w ⟨i, rfl, hi, rfl, H⟩
  by_cases hlt : i < 16
  · have pn := hpin i hlt
    repeat' (first | refine Z H ?_ | (refine Zc ?_ ?_ <;> intro hc <;> first | (exfalso; omega) | skip) | (refine Y ?_; try change C _ _ _ _ _ _) | (refine Zs H ?_; clear H; (try clear w); intro w H) | (refine Zn H ?_; clear H; (try clear w); (first | ((fail_if_success (have := bl1)); intro bl1 w H) | intro _ w H)) | (refine Ze H ?_; clear H; (try clear w); intro gv w H))
    (refine X.call (Page_l (n := i) H hl hlt) ?_; (try clear H); rintro _ w ⟨g2, rfl, H⟩; refine ⟨_, rfl, ?_⟩)
    repeat' (first | refine Z H ?_ | (refine Zc ?_ ?_ <;> intro hc <;> first | (exfalso; omega) | skip) | (refine Y ?_; try change C _ _ _ _ _ _) | (refine Zs H ?_; clear H; (try clear w); intro w H) | (refine Zn H ?_; clear H; (try clear w); (first | ((fail_if_success (have := bl1)); intro bl1 w H) | intro _ w H)) | (refine Ze H ?_; clear H; (try clear w); intro gv w H))
    refine C.drawn1 [0, 0, 0, 0, 1, 0, 1, 0, 0, 1, 0, 0] [0, 1, 3, 7, 15, 7, 39, 7, 231, 487, 1023, 2047] (by kernel_rfl) ?_; replace H := H.drew
    repeat' (first | (refine X.stro H ?_) | (refine K.ia (i := i) rfl rfl rfl rfl rfl (by omega) ?_) | refine Z H ?_ | (refine Zc ?_ ?_ <;> intro hc <;> first | (exfalso; omega) | skip) | (refine Y ?_; try change C _ _ _ _ _ _) | (refine Zs H ?_; clear H; (try clear w); intro w H) | (refine Zn H ?_; clear H; (try clear w); (first | ((fail_if_success (have := bl1)); intro bl1 w H) | intro _ w H)) | (refine Ze H ?_; clear H; (try clear w); intro gv w H))
    exact ⟨by (repeat (first | exact Agr.refl | exact Agr.hav | refine Agr.upd rfl ?_ | refine Agr.in rfl ?_)), 16 - (i + 1), by omega, i + 1, rfl, by omega, rfl, H.tail⟩
  · repeat' (first | refine Z H ?_ | (refine Zc ?_ ?_ <;> intro hc <;> first | (exfalso; omega) | skip) | (refine Y ?_; try change C _ _ _ _ _ _) | (refine Zs H ?_; clear H; (try clear w); intro w H) | (refine Zn H ?_; clear H; (try clear w); (first | ((fail_if_success (have := bl1)); intro bl1 w H) | intro _ w H)) | (refine Ze H ?_; clear H; (try clear w); intro gv w H))
    refine C.drawn2 [bl1] [0, 2, 0, 1, 0, 0, 0, 2, 0, 1, 0, 0, 0, 0, 2, 0, 1, 0, 0, 0] [2, 6, 7] [0, 1, 0, 4, 15, 31, 63, 127, 63, 319, 1023, 2047, 4095, 8191, 16383, 8191, 40959, 131071, 262143, 524287] (by kernel_rfl) ?_; replace H := H.drew; simp only [segL, List.take_succ_cons, List.take_zero, List.drop_succ_cons, List.drop_zero]; have H0 := H
    repeat' (first | refine Z H ?_ | (refine Zc ?_ ?_ <;> intro hc <;> first | (exfalso; omega) | skip) | (refine Y ?_; try change C _ _ _ _ _ _) | (refine Zs H ?_; clear H; (try clear w); intro w H) | (refine Zn H ?_; clear H; (try clear w); (first | ((fail_if_success (have := bl1)); intro bl1 w H) | intro _ w H)) | (refine Ze H ?_; clear H; (try clear w); intro gv w H))
    (refine X.call (Epoch_l H) ?_; (try clear H); rintro _ w ⟨rfl, H⟩; refine ⟨_, rfl, ?_⟩); refine L.nil ?_; refine ⟨rfl, rfl, (by repeat (first | exact subN_nil | refine subN_cons (by simp) ?_)), (by first | exact keep_same | (repeat (first | exact keepV H0 H | exact keepP H0 H | exact keep_nil | refine keep_cons ?_ ?_))), ?_⟩; clear H0; have H0 := H
    repeat' (first | refine Z H ?_ | (refine Zc ?_ ?_ <;> intro hc <;> first | (exfalso; omega) | skip) | (refine Y ?_; try change C _ _ _ _ _ _) | (refine Zs H ?_; clear H; (try clear w); intro w H) | (refine Zn H ?_; clear H; (try clear w); (first | ((fail_if_success (have := bl1)); intro bl1 w H) | intro _ w H)) | (refine Ze H ?_; clear H; (try clear w); intro gv w H))
    (refine X.call (Used_l H) ?_; (try clear H); rintro _ w ⟨rfl, H⟩; refine ⟨_, rfl, ?_⟩); refine L.nil ?_; refine ⟨rfl, rfl, (by repeat (first | exact subN_nil | refine subN_cons (by simp) ?_)), (by first | exact keep_same | (repeat (first | exact keepV H0 H | exact keepP H0 H | exact keep_nil | refine keep_cons ?_ ?_))), ?_⟩; clear H0; have H0 := H
    repeat' (first | refine Z H ?_ | (refine Zc ?_ ?_ <;> intro hc <;> first | (exfalso; omega) | skip) | (refine Y ?_; try change C _ _ _ _ _ _) | (refine Zs H ?_; clear H; (try clear w); intro w H) | (refine Zn H ?_; clear H; (try clear w); (first | ((fail_if_success (have := bl1)); intro bl1 w H) | intro _ w H)) | (refine Ze H ?_; clear H; (try clear w); intro gv w H))
    (refine X.call (Dead_l H hl) ?_; (try clear H); rintro _ w ⟨rfl, H⟩; refine ⟨_, rfl, ?_⟩); refine L.nil ?_; refine ⟨rfl, rfl, (by repeat (first | exact subN_nil | refine subN_cons (by simp) ?_)), (by first | exact keep_same | (repeat (first | exact keepV H0 H | exact keepP H0 H | exact keep_nil | refine keep_cons ?_ ?_))), ?_⟩; clear H0; have H0 := H
    repeat' (first | (refine K.cmpB rfl rfl rfl rfl rfl ?_) | refine Z H ?_ | (refine Zc ?_ ?_ <;> intro hc <;> first | (exfalso; omega) | skip) | (refine Y ?_; try change C _ _ _ _ _ _) | (refine Zs H ?_; clear H; (try clear w); intro w H) | (refine Zn H ?_; clear H; (try clear w); (first | ((fail_if_success (have := bl1)); intro bl1 w H) | intro _ w H)) | (refine Ze H ?_; clear H; (try clear w); intro gv w H))
    refine ⟨rfl, rfl, (by repeat (first | exact subN_nil | refine subN_cons (by simp) ?_)), (by first | exact keep_same | (repeat (first | exact keepV H0 H | exact keepP H0 H | exact keep_nil | refine keep_cons ?_ ?_))), ?_⟩; clear H0; have H0 := H
    repeat' (first | refine Z H ?_ | (refine Zc ?_ ?_ <;> intro hc <;> first | (exfalso; omega) | skip) | (refine Y ?_; try change C _ _ _ _ _ _) | (refine Zs H ?_; clear H; (try clear w); intro w H) | (refine Zn H ?_; clear H; (try clear w); (first | ((fail_if_success (have := bl1)); intro bl1 w H) | intro _ w H)) | (refine Ze H ?_; clear H; (try clear w); intro gv w H))
    exact ⟨_, resT rfl, by cases dd <;> rfl, H.arr⟩
end
end Go.Proofs.YtbknpbihgfphaaaDoor
set_option linter.unusedSimpArgs false
set_option linter.unusedVariables false
namespace Go.Proofs.YtbknpbihgfphaaaDoor
open Go Go.RowKit Go.Own
def wS (q : List (Nat × List UInt8)) : List St := q.map fun p => St.w p.1 p.2
def wP (f : Nat) (q : List (Nat × List UInt8)) : List (Nat × List UInt8) := q.map fun p => (f + p.1, p.2)
/-- behind a failure each sector is as it was or one of those writes -/
structure Torn (d d1 : DM) (ps : List (Nat × List UInt8)) : Prop where
  off : d1.off = true
  pend : d1.pend = []
  len : d1.secs.length = d.secs.length
  sec : ∀ k : Nat, d1.secs[k]?.getD [] = d.secs[k]?.getD [] ∨ ∃ b, (k, b) ∈ ps ∧ d1.secs[k]?.getD [] = b
theorem Torn.of {d d1 : DM} {ps qs : List (Nat × List UInt8)} (h1 : d1.off = true) (h2 : d1.pend = []) (h3 : ∃ sv, d1.secs = layS d.secs ps sv) (hq : ∀ p ∈ ps, p ∈ qs) : Torn d d1 qs := by
  obtain ⟨sv, h3⟩ := h3
  refine ⟨h1, h2, by rw [h3, layS_len], fun k => ?_⟩
  rw [h3]
  exact (layS_get d.secs ps sv k).imp id (fun ⟨b, hb, e⟩ => ⟨b, hq _ hb, e⟩)
theorem run_phase {N f : Nat} (hf : f + 52 ≤ N) (hN : N ≤ 1000) (r : List St) : ∀ (q : List (Nat × List UInt8)) (d : DM), d.off = false → d.secs.length = N → (∀ p ∈ q, p.1 < 52 ∧ p.2.length = 64) →
    (∃ d1, d1.off = false ∧ d1.pend = [] ∧ d1.secs = layAll d.secs (d.pend ++ wP f q) ∧ run ((f : Int), 52) (wS q ++ .f :: r) d = run ((f : Int), 52) r d1) ∨ (∃ d1, Torn d d1 (d.pend ++ wP f q) ∧ run ((f : Int), 52) (wS q ++ .f :: r) d = (d1, 9))
  | [], d, ho, hl, _ => by
    change (∃ d1 : DM, _ ∧ _ ∧ d1.secs = layAll d.secs (d.pend ++ []) ∧ run ((f : Int), 52) (.f :: r) d = _) ∨ (∃ d1, Torn d d1 (d.pend ++ []) ∧ run ((f : Int), 52) (.f :: r) d = _)
    rw [List.append_nil]
    rcases flush_on ho with ⟨h1, h2, h3, h4⟩ | ⟨h1, h2, h3, h4⟩
    · exact .inl ⟨_, h2, h3, h4, run_fok _ h1⟩
    · exact .inr ⟨_, Torn.of h2 h3 h4 (fun _ h => h), (run_fno _ (by rw [h1]; decide)).trans (Prod.ext rfl h1)⟩
  | (a, b) :: q, d, ho, hl, hq => by
    obtain ⟨ha, hb⟩ := hq (a, b) (by simp)
    dsimp only at ha hb
    have hrun : wS ((a, b) :: q) ++ .f :: r = .w a b :: (wS q ++ .f :: r) := rfl
    have hwp : d.pend ++ wP f ((a, b) :: q) = (d.pend ++ [(f + a, b)]) ++ wP f q := by rw [List.append_assoc]; rfl
    rw [hrun, hwp]
    have hpw := pwrite_on (c := 52) ho hl ha hf hN hb
    rw [show ((52 : Nat) : Int) = 52 from rfl] at hpw
    rcases hpw with ⟨h1, h2, h3, h4⟩ | ⟨h1, h2, h3, h4⟩
    · rw [run_ok _ h1]
      have ih := run_phase hf hN r q _ h2 (by rw [h3]; exact hl) (fun p hp => hq p (by simp [hp]))
      rw [h3, h4] at ih
      refine ih.imp id (fun ⟨d1, ht, e⟩ => ⟨d1, ⟨ht.off, ht.pend, by rw [ht.len, h3], fun k => ?_⟩, e⟩)
      have := ht.sec k
      rw [h3] at this
      exact this
    · exact .inr ⟨_, Torn.of h2 h3 h4 (fun p hp => by simp [hp]), (run_no _ (by rw [h1]; decide)).trans (Prod.ext rfl h1)⟩
theorem fold_val {k : Nat} {b : List UInt8} : ∀ (q : List (Nat × List UInt8)) (c : List UInt8), (∀ p ∈ q, p.1 = k → p.2 = b) → ((∃ p ∈ q, p.1 = k) ∨ c = b) → q.foldl (fun c p => if p.1 = k then p.2 else c) c = b
  | [], c, _, h => h.resolve_left (fun ⟨p, hp, _⟩ => by simp at hp)
  | p :: r, c, hq, h => by
    rw [List.foldl_cons]
    refine fold_val r _ (fun p hp => hq p (by simp [hp])) ?_
    by_cases hk : p.1 = k
    · rw [if_pos hk]; exact .inr (hq p (by simp) hk)
    · rw [if_neg hk]
      refine h.imp (fun ⟨p', hp, e⟩ => ?_) id
      rcases List.mem_cons.1 hp with rfl | hp
      · exact absurd e hk
      · exact ⟨p', hp, e⟩
/-- the sectors of a part -/
def secF (f : Nat) (d : DM) (k : Nat) : List UInt8 := d.secs[f + k]?.getD []
theorem lay_in {N f : Nat} {d d1 : DM} {q : List (Nat × List UInt8)} (hs : d1.secs = layAll d.secs ([] ++ wP f q)) (hl : d.secs.length = N) {k : Nat} (hk : f + k < N) {b : List UInt8} (h1 : ∀ p ∈ q, p.1 = k → p.2 = b) (h2 : (∃ p ∈ q, p.1 = k) ∨ secF f d k = b) : secF f d1 k = b := by
  unfold secF
  rw [hs, List.nil_append, lay_cur0 _ _ _ (by rw [hl]; exact hk)]
  refine fold_val _ _ (fun p hp e => ?_) (h2.imp (fun ⟨p, hp, e⟩ => ⟨(f + p.1, p.2), List.mem_map.2 ⟨p, hp, rfl⟩, by dsimp only; omega⟩) id)
  obtain ⟨p', hp', rfl⟩ := List.mem_map.1 hp
  dsimp only at e
  exact h1 p' hp' (by omega)
theorem Torn.at' {f : Nat} {d d1 : DM} {q : List (Nat × List UInt8)} (h : Torn d d1 ([] ++ wP f q)) (k : Nat) : secF f d1 k = secF f d k ∨ ∃ b, (k, b) ∈ q ∧ secF f d1 k = b := by
  refine (h.sec (f + k)).imp id (fun ⟨b, hb, e⟩ => ?_)
  rw [List.nil_append] at hb
  obtain ⟨p, hp, he⟩ := List.mem_map.1 hb
  have h1 := (Prod.mk.inj he).1
  have h2 := (Prod.mk.inj he).2
  have h3 : p.1 = k := by omega
  exact ⟨b, by rw [← h3, ← h2]; exact hp, e⟩
def hW (e h : Nat) (ps : List UInt8) (n i : Nat) : List (Nat × List UInt8) := (List.range' i n).map fun i => (2 + 16 * h + i, pageB e i ps)
theorem homeFrom_eq (e h : Nat) (ps : List UInt8) : ∀ n i, homeFrom e h ps n i = wS (hW e h ps n i) ++ .f :: (wS [(e % 2, headB e h)] ++ .f :: [])
  | 0, i => rfl
  | n + 1, i => by rw [homeFrom, homeFrom_eq e h ps n (i + 1)]; rfl
theorem hW_mem {e h n i : Nat} {ps : List UInt8} {p : Nat × List UInt8} (hp : p ∈ hW e h ps n i) : ∃ j, i ≤ j ∧ j < i + n ∧ p = (2 + 16 * h + j, pageB e j ps) := by
  obtain ⟨j, hj, rfl⟩ := List.mem_map.1 hp
  have := List.mem_range'_1.1 hj
  exact ⟨j, this.1, this.2, rfl⟩
theorem hW_has {e h n i j : Nat} {ps : List UInt8} (h1 : i ≤ j) (h2 : j < i + n) : (2 + 16 * h + j, pageB e j ps) ∈ hW e h ps n i := List.mem_map.2 ⟨j, List.mem_range'_1.2 ⟨h1, h2⟩, rfl⟩
def rW (e : Nat) : Nat → List Ch → List (Nat × List UInt8)
  | _, [] => []
  | k, c :: r => (34 + k, recB e k c) :: rW e (k + 1) r
theorem recSteps_eq (e : Nat) : ∀ (l : List Ch) (k : Nat), recSteps e k l = wS (rW e k l) ++ .f :: (wS [(34 + (k + l.length), markB e (k + l.length))] ++ .f :: [])
  | [], k => rfl
  | c :: r, k => by
    rw [recSteps, recSteps_eq e r (k + 1), List.length_cons, show k + 1 + r.length = k + (r.length + 1) by omega]; rfl
theorem rW_mem {e : Nat} : ∀ {l : List Ch} {k : Nat} {p : Nat × List UInt8}, p ∈ rW e k l → ∃ i, ∃ hi : i < l.length, p = (34 + (k + i), recB e (k + i) l[i])
  | [], k, p, h => by simp [rW] at h
  | c :: r, k, p, h => by
    rcases List.mem_cons.1 h with rfl | h
    · exact ⟨0, by simp, rfl⟩
    · obtain ⟨i, hi, rfl⟩ := rW_mem h
      exact ⟨i + 1, by rw [List.length_cons]; omega, by rw [show k + 1 + i = k + (i + 1) by omega]; rfl⟩
theorem rW_has {e : Nat} : ∀ {l : List Ch} {k i : Nat} (hi : i < l.length), (34 + (k + i), recB e (k + i) l[i]) ∈ rW e k l
  | c :: r, k, 0, hi => List.mem_cons_self
  | c :: r, k, i + 1, hi => by
    refine List.mem_cons_of_mem _ ?_
    rw [List.length_cons] at hi
    have := rW_has (e := e) (l := r) (k := k + 1) (i := i) (by omega)
    rw [show k + 1 + i = k + (i + 1) by omega] at this
    exact this
/-- a log that stands on a disk that is on -/
structure WInv (N f : Nat) (d : DM) (m : WL) : Prop where
  off : d.off = false
  pend : d.pend = []
  len : d.secs.length = N
  log : LgC (secF f d) m
structure WOff (N f : Nat) (d : DM) : Prop where
  off : d.off = true
  pend : d.pend = []
  len : d.secs.length = N
theorem WInv.opens {N f : Nat} {d : DM} {m : WL} (h : WInv N f d m) (hf : f + 52 ≤ N) (hN : N ≤ 1000) : openM d ((f : Int), 52) = (some m, 0) ∧ ∀ k : Nat, k < 52 → (pread d ((f : Int), 52) (k : Int)).2 = 0 := by
  have hr : ∀ k : Nat, k < 52 → pread d ((f : Int), 52) (k : Int) = (d.cur (f + k), 0) := fun k hk => by
    have e : placeM (f : Int) 52 (k : Int) = (((f + k : Nat) : Int), 0) := place_inN (c := 52) hk (by omega)
    have hib : d.inB ((f + k : Nat) : Int) = true := by simp only [DM.inB, decide_eq_true_eq]; rw [h.len]; omega
    unfold pread
    simp only
    rw [e]
    simp only [if_true]
    unfold DM.read
    rw [if_pos hib, if_neg (by rw [h.off]; decide), Int.toNat_natCast]
  refine ⟨h.log.opens (fun k hk => ?_), fun k hk => by rw [hr k hk]⟩
  unfold sec
  rw [hr k hk, cur_nil h.pend]
  rfl
theorem WInv.home {N f : Nat} {d : DM} {m : WL} (h : WInv N f d m) (hf : f + 52 ≤ N) (hN : N ≤ 1000) (he : m.epoch ≠ 4294967295) :
    ((run ((f : Int), 52) (homeSteps (m.epoch + 1) (1 - m.home) m.pages) d).2 = 0 ∧ WInv N f (run ((f : Int), 52) (homeSteps (m.epoch + 1) (1 - m.home) m.pages) d).1 ⟨m.epoch + 1, 1 - m.home, 0, m.pages, false⟩) ∨
    ((run ((f : Int), 52) (homeSteps (m.epoch + 1) (1 - m.home) m.pages) d).2 = 9 ∧ WOff N f (run ((f : Int), 52) (homeSteps (m.epoch + 1) (1 - m.home) m.pages) d).1 ∧ ∃ m2, m2.pages = m.pages ∧ LgC (secF f (run ((f : Int), 52) (homeSteps (m.epoch + 1) (1 - m.home) m.pages) d).1) m2) := by
  have hlog := h.log
  have hhm := hlog.home
  unfold homeSteps
  rw [homeFrom_eq]
  have hok : ∀ p ∈ hW (m.epoch + 1) (1 - m.home) m.pages 16 0, p.1 < 52 ∧ p.2.length = 64 := fun p hp => by
    obtain ⟨j, _, hj, rfl⟩ := hW_mem hp
    exact ⟨by dsimp only; omega, secW_len (by rw [List.length_append, getP_len hlog.plen (by omega)]; simp)⟩
  rcases run_phase hf hN (wS [((m.epoch + 1) % 2, headB (m.epoch + 1) (1 - m.home))] ++ .f :: []) _ d h.off h.len hok with ⟨d1, a1, a2, a3, a4⟩ | ⟨d1, t, a4⟩
  · rw [a4]
    rw [h.pend] at a3
    have hl1 : d1.secs.length = N := by rw [a3, layAll_len]; exact h.len
    have hout : ∀ k, k < 52 → (k < 2 + 16 * (1 - m.home) ∨ 2 + 16 * (1 - m.home) + 16 ≤ k) → secF f d1 k = secF f d k := fun k hk ho => by
      refine lay_in a3 h.len (by omega) (fun p hp e => ?_) (.inr rfl)
      obtain ⟨j, _, hj, rfl⟩ := hW_mem hp
      dsimp only at e
      omega
    have hin : ∀ i, i < 16 → secF f d1 (2 + 16 * (1 - m.home) + i) = pageB (m.epoch + 1) i m.pages := fun i hi => by
      refine lay_in a3 h.len (by omega) (fun p hp e => ?_) (.inl ⟨_, hW_has (Nat.zero_le _) (by omega), rfl⟩)
      obtain ⟨j, _, hj, rfl⟩ := hW_mem hp
      dsimp only at e
      have : j = i := by omega
      subst this; rfl
    have hlog1 : LgC (secF f d1) m := hlog.home_any hout
    have hok2 : ∀ p ∈ [((m.epoch + 1) % 2, headB (m.epoch + 1) (1 - m.home))], p.1 < 52 ∧ p.2.length = 64 := fun p hp => by
      rw [List.mem_singleton] at hp
      subst hp
      exact ⟨by dsimp only; omega, secW_len (by simp)⟩
    have hnext : ∀ d2 : DM, secF f d2 ((m.epoch + 1) % 2) = headB (m.epoch + 1) (1 - m.home) → (∀ k, k < 52 → k ≠ (m.epoch + 1) % 2 → secF f d2 k = secF f d1 k) → LgC (secF f d2) ⟨m.epoch + 1, 1 - m.home, 0, m.pages, false⟩ := fun d2 e1 e2 =>
      hlog1.next he (fun i hi => by rw [e2 _ (by omega) (by omega)]; exact hin i hi) e1 (e2 _ (by omega) (by omega)) (fun j hj => e2 _ (by omega) (by omega))
    rcases run_phase hf hN [] _ d1 a1 hl1 hok2 with ⟨d2, b1, b2, b3, b4⟩ | ⟨d2, t, b4⟩
    · rw [b4]
      rw [a2] at b3
      refine .inl ⟨rfl, b1, b2, by rw [run, b3, layAll_len]; exact hl1, hnext d2 ?_ (fun k hk hne => ?_)⟩
      · exact lay_in b3 hl1 (by omega) (fun p hp e => by rw [List.mem_singleton] at hp; subst hp; rfl) (.inl ⟨_, List.mem_singleton.2 rfl, rfl⟩)
      · exact lay_in b3 hl1 (by omega) (fun p hp e => by rw [List.mem_singleton] at hp; subst hp; exact absurd e.symm hne) (.inr rfl)
    · rw [b4]
      rw [a2] at t
      refine .inr ⟨rfl, ⟨t.off, t.pend, by rw [t.len]; exact hl1⟩, ?_⟩
      have hoth : ∀ k, k < 52 → k ≠ (m.epoch + 1) % 2 → secF f d2 k = secF f d1 k := fun k hk hne => (t.at' k).resolve_right (fun ⟨b, hb, _⟩ => by rw [List.mem_singleton] at hb; cases hb; exact hne rfl)
      rcases t.at' ((m.epoch + 1) % 2) with e | ⟨b, hb, e⟩
      · refine ⟨m, rfl, hlog1.home_any (fun k hk _ => ?_)⟩
        by_cases hne : k = (m.epoch + 1) % 2
        · rw [hne]; exact e
        · exact hoth k hk hne
      · rw [List.mem_singleton] at hb
        cases hb
        exact ⟨⟨m.epoch + 1, 1 - m.home, 0, m.pages, false⟩, rfl, hnext d2 e hoth⟩
  · rw [a4]
    rw [h.pend] at t
    refine .inr ⟨rfl, ⟨t.off, t.pend, by rw [t.len]; exact h.len⟩, m, rfl, hlog.home_any (fun k hk ho => ?_)⟩
    refine (t.at' k).resolve_right (fun ⟨b, hb, _⟩ => ?_)
    obtain ⟨j, _, hj, e⟩ := hW_mem hb
    have := (Prod.mk.inj e).1
    omega
theorem WInv.recs {N f : Nat} {d : DM} {m : WL} {l : List Ch} (h : WInv N f d m) (hf : f + 52 ≤ N) (hN : N ≤ 1000) (hl : ∀ ch ∈ l, ch.Ok) (hu : m.used + l.length + 1 ≤ 18) :
    ((run ((f : Int), 52) (recSteps m.epoch m.used l) d).2 = 0 ∧ WInv N f (run ((f : Int), 52) (recSteps m.epoch m.used l) d).1 ⟨m.epoch, m.home, m.used + l.length + 1, applyL m.pages l, false⟩) ∨
    ((run ((f : Int), 52) (recSteps m.epoch m.used l) d).2 = 9 ∧ WOff N f (run ((f : Int), 52) (recSteps m.epoch m.used l) d).1 ∧ ∃ m2, (m2.pages = m.pages ∨ m2.pages = applyL m.pages l) ∧ LgC (secF f (run ((f : Int), 52) (recSteps m.epoch m.used l) d).1) m2) := by
  have hlog := h.log
  rw [recSteps_eq]
  have hok : ∀ p ∈ rW m.epoch m.used l, p.1 < 52 ∧ p.2.length = 64 := fun p hp => by
    obtain ⟨j, hj, rfl⟩ := rW_mem hp
    exact ⟨by dsimp only; omega, secW_len (by rw [List.length_append, (hl _ (List.getElem_mem hj)).2.2]; simp)⟩
  have hval : ∀ (i : Nat) (hi : i < l.length), ∀ p ∈ rW m.epoch m.used l, p.1 = 34 + (m.used + i) → p.2 = recB m.epoch (m.used + i) l[i] := fun i hi p hp e => by
    obtain ⟨j, hj, rfl⟩ := rW_mem hp
    dsimp only at e
    have : j = i := by omega
    subst this; rfl
  rcases run_phase hf hN (wS [(34 + (m.used + l.length), markB m.epoch (m.used + l.length))] ++ .f :: []) _ d h.off h.len hok with ⟨d1, a1, a2, a3, a4⟩ | ⟨d1, t, a4⟩
  · rw [a4]
    rw [h.pend] at a3
    have hl1 : d1.secs.length = N := by rw [a3, layAll_len]; exact h.len
    have hin : ∀ i (hi : i < l.length), secF f d1 (34 + (m.used + i)) = recB m.epoch (m.used + i) l[i] := fun i hi => lay_in a3 h.len (by omega) (hval i hi) (.inl ⟨_, rW_has hi, rfl⟩)
    have hlog1 : LgC (secF f d1) m := hlog.recs_any hl hu (fun k hk => by
      by_cases hex : ∃ i, i < l.length ∧ k = 34 + (m.used + i)
      · obtain ⟨i, hi, rfl⟩ := hex
        exact .inr ⟨i, hi, rfl, hin i hi⟩
      · refine .inl (lay_in a3 h.len (by omega) (fun p hp e => ?_) (.inr rfl))
        obtain ⟨j, hj, rfl⟩ := rW_mem hp
        exact absurd ⟨j, hj, e.symm⟩ hex)
    have hok2 : ∀ p ∈ [(34 + (m.used + l.length), markB m.epoch (m.used + l.length))], p.1 < 52 ∧ p.2.length = 64 := fun p hp => by
      rw [List.mem_singleton] at hp
      subst hp
      exact ⟨by dsimp only; omega, secW_len (by simp)⟩
    have hnext : ∀ d2 : DM, secF f d2 (34 + (m.used + l.length)) = markB m.epoch (m.used + l.length) → (∀ k, k < 52 → k ≠ 34 + (m.used + l.length) → secF f d2 k = secF f d1 k) → LgC (secF f d2) ⟨m.epoch, m.home, m.used + l.length + 1, applyL m.pages l, false⟩ := fun d2 e1 e2 => hlog1.mark hl hu hin e1 e2
    rcases run_phase hf hN [] _ d1 a1 hl1 hok2 with ⟨d2, b1, b2, b3, b4⟩ | ⟨d2, t, b4⟩
    · rw [b4]
      rw [a2] at b3
      refine .inl ⟨rfl, b1, b2, by rw [run, b3, layAll_len]; exact hl1, hnext d2 ?_ (fun k hk hne => ?_)⟩
      · exact lay_in b3 hl1 (by omega) (fun p hp e => by rw [List.mem_singleton] at hp; subst hp; rfl) (.inl ⟨_, List.mem_singleton.2 rfl, rfl⟩)
      · exact lay_in b3 hl1 (by omega) (fun p hp e => by rw [List.mem_singleton] at hp; subst hp; exact absurd e.symm hne) (.inr rfl)
    · rw [b4]
      rw [a2] at t
      refine .inr ⟨rfl, ⟨t.off, t.pend, by rw [t.len]; exact hl1⟩, ?_⟩
      have hoth : ∀ k, k < 52 → k ≠ 34 + (m.used + l.length) → secF f d2 k = secF f d1 k := fun k hk hne => (t.at' k).resolve_right (fun ⟨b, hb, _⟩ => by rw [List.mem_singleton] at hb; cases hb; exact hne rfl)
      rcases t.at' (34 + (m.used + l.length)) with e | ⟨b, hb, e⟩
      · refine ⟨m, .inl rfl, hlog1.home_any (fun k hk _ => ?_)⟩
        by_cases hne : k = 34 + (m.used + l.length)
        · rw [hne]; exact e
        · exact hoth k hk hne
      · rw [List.mem_singleton] at hb
        cases hb
        exact ⟨_, .inr rfl, hnext d2 e hoth⟩
  · rw [a4]
    rw [h.pend] at t
    refine .inr ⟨rfl, ⟨t.off, t.pend, by rw [t.len]; exact h.len⟩, m, .inl rfl, hlog.recs_any hl hu (fun k hk => ?_)⟩
    refine (t.at' k).imp id (fun ⟨b, hb, e⟩ => ?_)
    obtain ⟨j, hj, e'⟩ := rW_mem hb
    cases e'
    exact ⟨j, hj, rfl, e⟩
/-- what pages come to -/
def nextL (ps : List UInt8) (l : List Ch) : List UInt8 := if validM l = true then applyL ps l else ps
/-- how a commit ends -/
def Ends (N f : Nat) (d : DM) (m : WL) (l : List Ch) (r : DM × WL × Int) : Prop :=
  (r.2.2 = 0 ∧ WInv N f r.1 r.2.1 ∧ r.2.1.pages = nextL m.pages l) ∨ ((r.2.2 = 1 ∨ r.2.2 = 5) ∧ r.1 = d ∧ r.2.1 = m) ∨
  (r.2.2 = 9 ∧ WOff N f r.1 ∧ r.2.1.pages = m.pages ∧ r.2.1.pages.length = 640 ∧ ∃ m2, (m2.pages = m.pages ∨ m2.pages = nextL m.pages l) ∧ LgC (secF f r.1) m2)
theorem WInv.recM {N f : Nat} {d : DM} {m : WL} {l : List Ch} (h : WInv N f d m) (hf : f + 52 ≤ N) (hN : N ≤ 1000) (hv : validM l = true) (hu : m.used + l.length + 1 ≤ 18) : ((recM d ((f : Int), 52) m l).2.2 = 0 ∧ WInv N f (recM d ((f : Int), 52) m l).1 (recM d ((f : Int), 52) m l).2.1 ∧ (recM d ((f : Int), 52) m l).2.1.pages = nextL m.pages l) ∨ ((recM d ((f : Int), 52) m l).2.2 = 9 ∧ WOff N f (recM d ((f : Int), 52) m l).1 ∧ (recM d ((f : Int), 52) m l).2.1.pages = m.pages ∧ (recM d ((f : Int), 52) m l).2.1.pages.length = 640 ∧ ∃ m2, (m2.pages = m.pages ∨ m2.pages = nextL m.pages l) ∧ LgC (secF f (recM d ((f : Int), 52) m l).1) m2) := by
  have hl := (validM_ok hv).2
  have hn : nextL m.pages l = applyL m.pages l := if_pos hv
  unfold Go.Proofs.YtbknpbihgfphaaaDoor.recM
  rcases h.recs hf hN hl hu with ⟨h1, h2⟩ | ⟨h1, h2, m2, h3, h4⟩
  · rw [if_pos h1]; exact .inl ⟨rfl, h2, hn.symm⟩
  · rw [if_neg (by rw [h1]; decide)]; exact .inr ⟨h1, h2, rfl, h.log.plen, m2, by rw [hn]; exact h3, h4⟩
theorem WInv.commit {N f : Nat} {d : DM} {m : WL} (l : List Ch) (h : WInv N f d m) (hf : f + 52 ≤ N) (hN : N ≤ 1000) : Ends N f d m l (commitM d ((f : Int), 52) m l) := by
  have hd := h.log.dead
  unfold commitM
  rw [if_neg (by rw [hd]; decide)]
  by_cases hv : validM l = false
  · rw [if_pos hv]; exact .inr (.inl ⟨.inl rfl, rfl, rfl⟩)
  rw [if_neg hv]
  have hv1 : validM l = true := by cases hq : validM l with | true => rfl | false => exact absurd hq hv
  have hn : nextL m.pages l = applyL m.pages l := if_pos hv1
  obtain ⟨hv16, hok⟩ := validM_ok hv1
  by_cases hl : l.length = 0
  · rw [if_pos hl]
    have : l = [] := List.length_eq_zero_iff.1 hl
    subst this
    exact .inl ⟨rfl, h, hn.symm⟩
  rw [if_neg hl]
  by_cases hfull : 18 < m.used + l.length + 1
  · rw [if_pos hfull]
    by_cases hmax : m.epoch = 4294967295
    · rw [if_pos hmax]; exact .inr (.inl ⟨.inr rfl, rfl, rfl⟩)
    rw [if_neg hmax]
    rcases h.home hf hN hmax with ⟨h1, h2⟩ | ⟨h1, h2, m2, h3, h4⟩
    · rw [if_pos h1]
      exact (h2.recM hf hN hv1 (by dsimp only; omega)).imp id .inr
    · rw [if_neg (by rw [h1]; decide)]; exact .inr (.inr ⟨h1, h2, rfl, h.log.plen, m2, .inl h3, h4⟩)
  · rw [if_neg hfull]
    exact (h.recM hf hN hv1 (by omega)).imp id .inr
end Go.Proofs.YtbknpbihgfphaaaDoor
set_option linter.unusedSimpArgs false
set_option linter.unusedVariables false
namespace Go.Proofs.YtbknpbihgfphaaaDoor
open Go Go.RowKit Go.Own
theorem recSteps_len (e : Nat) : ∀ (l : List Ch) (k : Nat), (recSteps e k l).length = l.length + 3
  | [], _ => rfl
  | c :: r, k => by rw [recSteps, List.length_cons, recSteps_len e r, List.length_cons]
theorem recM_pend (d : DM) (x : Ext) (m : WL) (l : List Ch) : (recM d x m l).1.pend.length ≤ d.pend.length + (l.length + 3) := by
  have h := run_pend x (recSteps m.epoch m.used l) d
  rw [recSteps_len] at h
  unfold recM
  split <;> exact h
theorem commit_pend (d : DM) (x : Ext) (m : WL) (l : List Ch) : (commitM d x m l).1.pend.length ≤ d.pend.length + 40 := by
  unfold commitM
  by_cases hv : validM l = true
  · have hl := (validM_ok hv).1
    have h1 := run_pend x (homeSteps (m.epoch + 1) (1 - m.home) m.pages) d
    rw [homeSteps_len] at h1
    have h2 := recM_pend (run x (homeSteps (m.epoch + 1) (1 - m.home) m.pages) d).1 x ⟨m.epoch + 1, 1 - m.home, 0, m.pages, false⟩ l
    have h3 := recM_pend d x m l
    repeat' split
    all_goals first | omega | (simp only; omega) | (dsimp only; omega)
  · have hv' : validM l = false := by cases hq : validM l with | true => exact absurd hq hv | false => rfl
    rw [hv']
    split
    · simp
    · rw [if_pos rfl]; simp
end Go.Proofs.YtbknpbihgfphaaaDoor

/- WalFull, walked. -/
import Derived.Test.YtbknpbihgfphaaaDoorFvXc
set_option linter.unusedSimpArgs false
set_option linter.unusedVariables false
namespace Go.Proofs.YtbknpbihgfphaaaDoor
open Go Go.RowKit Go.Own
def secFS (E i : Nat) : List FS := [
/- 0 -/ FS.v 38 [] (.int .u32 (E : Int)),
/- 1 -/ FS.v 39 [] (.int .i64 (i : Int)),
/- 2 -/ FS.v 40 [1] (.int .u8 (i : Int)),
/- 3 -/ FS.b 41 [2] [UInt8.ofNat i],
/- 4 -/ FS.v 42 [3] (.string (bst [UInt8.ofNat i])),
/- 5 -/ FS.v 43 [] (.string (bst (List.replicate 40 0))),
/- 6 -/ FS.v 44 [4, 5] (.string (bst ([UInt8.ofNat i] ++ List.replicate 40 0))),
/- 7 -/ FS.v 45 [0, 6] (.string (bst (pageB E i z640))),
/- 8 -/ FS.v 11 [7] (.string (bst (pageB E i z640)))]
/-- what the document's Commit gives -/
def GotC (f : Nat) (r : DM × WL × Int) (s : Ro) (cs : List Value) : Prop := ∃ pa pc, RefW s cs r.1 f pa 16 pc r.2.1.epoch r.2.1.home r.2.1.used r.2.1.dead ∧ SlS s (.slice pa 16 pc) 1 16 (strs (pgsOf r.2.1.pages))
theorem GotC.mono {f : Nat} {r : DM × WL × Int} {s s' : Ro} {cs : List Value} (hs : s.Le s') (h : GotC f r s cs) : GotC f r s' cs := by
  obtain ⟨pa, pc, h1, h2⟩ := h
  exact ⟨pa, pc, h1.mono hs, h2.mono hs⟩
def ChV (l : List Ch) (s : Ro) (v : Value) : Prop := ∃ cs, SlS s v 2 l.length cs ∧ ChS s cs l
theorem ChV.mono {l : List Ch} {s s' : Ro} {v : Value} (hs : s.Le s') (h : ChV l s v) : ChV l s' v := by
  obtain ⟨cs, h1, h2⟩ := h
  exact ⟨cs, h1.mono hs, h2.mono hs⟩
def TupC (f : Nat) (r : DM × WL × Int) (s : Ro) (v : Value) : Prop := ∃ cs, v = .tuple #[.agg cs.toArray, .int .i64 r.2.2] ∧ GotC f r s cs
theorem TupC.mono {f : Nat} {r : DM × WL × Int} {s s' : Ro} {v : Value} (hs : s.Le s') (h : TupC f r s v) : TupC f r s' v := by
  obtain ⟨cs, h1, h2⟩ := h
  exact ⟨cs, h1, h2.mono hs⟩
def AggC (f : Nat) (r : DM × WL × Int) (s : Ro) (v : Value) : Prop := ∃ cs, v = .agg cs.toArray ∧ GotC f r s cs
theorem AggC.mono {f : Nat} {r : DM × WL × Int} {s s' : Ro} {v : Value} (hs : s.Le s') (h : AggC f r s v) : AggC f r s' v := by
  obtain ⟨cs, h1, h2⟩ := h
  exact ⟨cs, h1, h2.mono hs⟩
theorem GotC.cells {f : Nat} {r : DM × WL × Int} {s : Ro} {cs : List Value} (h : GotC f r s cs) : ∃ x0 m0 y0 x1 m1 y1 bo li x2 m2 y2 gf pa pn pc e hh u dd, cs = [.slice x0 m0 y0, .slice x1 m1 y1, .bool bo, .int .i64 li, .slice x2 m2 y2, .int .i64 gf, .slice pa pn pc, .int .u32 e, .int .i64 hh, .int .i64 u, .bool dd] := by
  obtain ⟨pa, pc, ⟨a0, c0, a1, c1, lf, a2, n2, c2, rfl, _⟩, _⟩ := h
  exact ⟨_, _, _, _, _, _, _, _, _, _, _, _, _, _, _, _, _, _, _, rfl⟩
def comF2 (cs act : List Value) (l : List Ch) (f : Nat) (r : DM × WL × Int) : List FS := [
/- 0 -/ FS.v 126 [] (.agg cs.toArray),
/- 1 -/ FS.v 127 [] (.agg act.toArray),
/- 2 -/ FS.f 128 [1] (ChV l) ChV.mono,
/- 3 -/ FS.f 129 [0, 2] (TupC f r) TupC.mono,
/- 4 -/ FS.f 125 [3] (TupC f r) TupC.mono,
/- 5 -/ FS.f 130 [4] (AggC f r) AggC.mono,
/- 6 -/ FS.v 131 [4] (.int .i64 r.2.2),
/- 7 -/ FS.new 21 86 zlog16,
/- 8 -/ FS.put2 21 130 7 [7, 5] 86]
theorem build_actF (n a : Int) (f : Int) (w : World) : (Instr.build 78 [(1, .int .i64 n), (2, .int .i64 a), (4, .int .u8 f)].toArray).run Tryd.prog w = .ok (.agg #[.int .i64 0, .int .i64 n, .int .i64 a, .int .i64 0, .int .u8 f, .slice none 0 0]) w := by kernel_rfl
section
variable {s : Ro} {w : World} {R : List Asn}
set_option maxRecDepth 100000 in
set_option maxHeartbeats 1000000 in
theorem wfull_walk {less : Nat} {fl : List UInt8} {va : Option Addr} {vc : Nat} (hN : Nib s) (H : Holds s w []) (hl : SlS s (.slice va fl.length vc) 1 fl.length (u8s fl)) (hless : less < 2 ^ 32) : Calls Tryd.prog 8 #[.slice va fl.length vc, .int .u32 (less : Int)] w fun e w' => e = .returned (.bool true) ∧ Fin s w' := by
  have hE := epF_lt less
  have hEd : 4294967295 - less % 3 = epF less := rfl
  generalize hmm : less % 3 = mm at *
  refine enter Tryd.func8 rfl Tryd.ntmps8 rfl ?_
  repeat' (first | refine Z H ?_ | (refine Zc ?_ ?_ <;> intro hc <;> first | (exfalso; omega) | skip) | (refine Y ?_; try change C _ _ _ _ _ _) | (refine Zs H ?_; clear H; (try clear w); intro w H) | (refine Zn H ?_; clear H; (try clear w); (first | ((fail_if_success (have := bl1)); intro bl1 w H) | ((fail_if_success (have := bl2)); intro bl2 w H) | ((fail_if_success (have := bl3)); intro bl3 w H) | intro _ w H)) | (refine Ze H ?_; clear H; (try clear w); intro gv w H))
  refine X.call (part16_s (n := 0) hN H (by decide)) ?_
  clear H
  rintro _ w ⟨s1, b, bp, v, rfl, hs1, hp, hR, H⟩
  refine ⟨_, rfl, ?_⟩
  have hRc := hR
  obtain ⟨a0, c0, a1, c1, lf, a2, n2, c2, rfl⟩ := refCellsW hRc
  repeat' (first | (refine B.rem (a := less) (b := 3) ?_; rw [hmm]) | (refine B.sub (a := 4294967295) (b := mm) ?_ (hb := by omega); rw [hEd]) | refine Z H ?_ | (refine Zc ?_ ?_ <;> intro hc <;> first | (exfalso; omega) | skip) | (refine Y ?_; try change C _ _ _ _ _ _) | (refine Zs H ?_; clear H; (try clear w); intro w H) | (refine Zn H ?_; clear H; (try clear w); (first | ((fail_if_success (have := bl1)); intro bl1 w H) | ((fail_if_success (have := bl2)); intro bl2 w H) | ((fail_if_success (have := bl3)); intro bl3 w H) | intro _ w H)) | (refine Ze H ?_; clear H; (try clear w); intro gv w H))
  repeat' (first | refine Z H ?_ | (refine Zc ?_ ?_ <;> intro hc <;> first | (exfalso; omega) | skip) | (refine Y ?_; try change C _ _ _ _ _ _) | (refine Zs H ?_; clear H; (try clear w); intro w H) | (refine Zn H ?_; clear H; (try clear w); (first | ((fail_if_success (have := bl1)); intro bl1 w H) | ((fail_if_success (have := bl2)); intro bl2 w H) | ((fail_if_success (have := bl3)); intro bl3 w H) | intro _ w H)) | (refine Ze H ?_; clear H; (try clear w); intro gv w H))
  generalize hF : epF less = F at *
  replace H : Holds s1 w (var bl1 54 [.slice a0 (fullD F 0).secs.length c0, .slice a1 (fullD F 0).pend.length c1, .bool (fullD F 0).off, .int .i64 lf, .slice a2 n2 c2] :: dsk b (fullD F 0) :: []) := H
  replace hR : RefS s1 (.agg [.slice a0 (fullD F 0).secs.length c0, .slice a1 (fullD F 0).pend.length c1, .bool (fullD F 0).off, .int .i64 lf, .slice a2 n2 c2].toArray) (fullD F 0) := hR
  refine C.loopS [10, 11, 12, 13, 34, 35, 36, 37, 38, 39, 40, 41, 42, 43, 44, 45, 46, 47, 48, 49, 50, 51, 52, 53, 54, 55, 56, 57, 58, 59, 60] [10] rfl (fun k vs w => ∃ i : Nat, ∃ s' a0 c0 a1 c1 lf a2 n2 c2, k = 16 - i ∧ i ≤ 16 ∧ vs = [.int .i64 (i : Int)] ∧ s1.Le s' ∧ RefS s' (.agg [.slice a0 (fullD F i).secs.length c0, .slice a1 (fullD F i).pend.length c1, .bool (fullD F i).off, .int .i64 lf, .slice a2 n2 c2].toArray) (fullD F i) ∧ Holds s' w (var bl1 54 [.slice a0 (fullD F i).secs.length c0, .slice a1 (fullD F i).pend.length c1, .bool (fullD F i).off, .int .i64 lf, .slice a2 n2 c2] :: dsk b (fullD F i) :: [])) 16 ⟨0, s1, a0, c0, a1, c1, lf, a2, n2, c2, rfl, Nat.zero_le _, rfl, Ro.Le.refl _, hR, H⟩ ?_
  clear H hR hRc
  rintro k vs hv w ⟨i, s2, a0, c0, a1, c1, lf, a2, n2, c2, rfl, hi, rfl, hs2, hR, H⟩
  have hpd := fullD_pend F i
  by_cases hlt : i < 16
  · have wi : i % 2 ^ 8 = i := Nat.mod_eq_of_lt (by omega)
    have hpg : secW 80 F ([UInt8.ofNat i] ++ List.replicate 40 0) = pageB F i z640 := by unfold pageB; rw [zpage i hlt]
    have h64 := pageB_len F i hlt
    have e2 : (2 : Int) + (i : Int) = ((2 + i : Nat) : Int) := by omega
    repeat' (first | refine Z H ?_ | (refine Zc ?_ ?_ <;> intro hc <;> first | (exfalso; omega) | skip) | (refine Y ?_; try change C _ _ _ _ _ _) | (refine Zs H ?_; clear H; (try clear w); intro w H) | (refine Zn H ?_; clear H; (try clear w); (first | ((fail_if_success (have := bl1)); intro bl1 w H) | ((fail_if_success (have := bl2)); intro bl2 w H) | ((fail_if_success (have := bl3)); intro bl3 w H) | intro _ w H)) | (refine Ze H ?_; clear H; (try clear w); intro gv w H))
    refine C.flow (secFS F i) [8] [0, 1, 2, 3, 4, 5, 6, 7, 8] H (by kernel_rfl) rfl rfl ?_ ?_
    · repeat' (first | exact StepsF.nil | refine StepsF.cons ?_ ?_)
      · intro s1 h w E hs1; (conv => whnf); intro H; replace H : Holds s1 w (var bl1 54 [.slice a0 (fullD F i).secs.length c0, .slice a1 (fullD F i).pend.length c1, .bool (fullD F i).off, .int .i64 lf, .slice a2 n2 c2] :: dsk b (fullD F i) :: ([] ++ E)) := H
        repeat' (first | refine Z H ?_ | (refine Zc ?_ ?_ <;> intro hc <;> first | (exfalso; omega) | skip) | (refine Y ?_; try change C _ _ _ _ _ _) | (refine Zs H ?_; clear H; (try clear w); intro w H) | (refine Zn H ?_; clear H; (try clear w); (first | ((fail_if_success (have := bl1)); intro bl1 w H) | ((fail_if_success (have := bl2)); intro bl2 w H) | ((fail_if_success (have := bl3)); intro bl3 w H) | intro _ w H)) | (refine Ze H ?_; clear H; (try clear w); intro gv w H))
        exact ⟨rfl, by (repeat (first | exact Agr.refl | exact Agr.hav | refine Agr.upd rfl ?_ | refine Agr.in rfl ?_)), s1, Ro.Le.refl _, rfl, H⟩
      · intro s1 h w E hs1; (conv => whnf); intro H; replace H : Holds s1 w (var bl1 54 [.slice a0 (fullD F i).secs.length c0, .slice a1 (fullD F i).pend.length c1, .bool (fullD F i).off, .int .i64 lf, .slice a2 n2 c2] :: dsk b (fullD F i) :: ([] ++ E)) := H
        repeat' (first | refine Z H ?_ | (refine Zc ?_ ?_ <;> intro hc <;> first | (exfalso; omega) | skip) | (refine Y ?_; try change C _ _ _ _ _ _) | (refine Zs H ?_; clear H; (try clear w); intro w H) | (refine Zn H ?_; clear H; (try clear w); (first | ((fail_if_success (have := bl1)); intro bl1 w H) | ((fail_if_success (have := bl2)); intro bl2 w H) | ((fail_if_success (have := bl3)); intro bl3 w H) | intro _ w H)) | (refine Ze H ?_; clear H; (try clear w); intro gv w H))
        exact ⟨rfl, by (repeat (first | exact Agr.refl | exact Agr.hav | refine Agr.upd rfl ?_ | refine Agr.in rfl ?_)), s1, Ro.Le.refl _, rfl, H⟩
      · intro s1 h w E hs1; (conv => whnf); rintro _ rfl; (conv => whnf); intro H; replace H : Holds s1 w (var bl1 54 [.slice a0 (fullD F i).secs.length c0, .slice a1 (fullD F i).pend.length c1, .bool (fullD F i).off, .int .i64 lf, .slice a2 n2 c2] :: dsk b (fullD F i) :: ([] ++ E)) := H
        refine B.conv Tryd.underlying3 ?_
        rw [wi]
        repeat' (first | refine Z H ?_ | (refine Zc ?_ ?_ <;> intro hc <;> first | (exfalso; omega) | skip) | (refine Y ?_; try change C _ _ _ _ _ _) | (refine Zs H ?_; clear H; (try clear w); intro w H) | (refine Zn H ?_; clear H; (try clear w); (first | ((fail_if_success (have := bl1)); intro bl1 w H) | ((fail_if_success (have := bl2)); intro bl2 w H) | ((fail_if_success (have := bl3)); intro bl3 w H) | intro _ w H)) | (refine Ze H ?_; clear H; (try clear w); intro gv w H))
        exact ⟨rfl, by (repeat (first | exact Agr.refl | exact Agr.hav | refine Agr.upd rfl ?_ | refine Agr.in rfl ?_)), s1, Ro.Le.refl _, rfl, H⟩
      · intro s1 h w E hs1; (conv => whnf); rintro _ rfl; (conv => whnf); intro H; replace H : Holds s1 w (var bl1 54 [.slice a0 (fullD F i).secs.length c0, .slice a1 (fullD F i).pend.length c1, .bool (fullD F i).off, .int .i64 lf, .slice a2 n2 c2] :: dsk b (fullD F i) :: ([] ++ E)) := H
        rw [u8_nat (by omega : i < 256)]
        refine K.one H rfl rfl (by conv => lhs; whnf) (by rfl) (by rfl) ?_; clear H; (try clear w); intro g1 w H
        obtain ⟨s2, hs2, H, hS⟩ := H.fixRow
        repeat' (first | refine Z H ?_ | (refine Zc ?_ ?_ <;> intro hc <;> first | (exfalso; omega) | skip) | (refine Y ?_; try change C _ _ _ _ _ _) | (refine Zs H ?_; clear H; (try clear w); intro w H) | (refine Zn H ?_; clear H; (try clear w); (first | ((fail_if_success (have := bl1)); intro bl1 w H) | ((fail_if_success (have := bl2)); intro bl2 w H) | ((fail_if_success (have := bl3)); intro bl3 w H) | intro _ w H)) | (refine Ze H ?_; clear H; (try clear w); intro gv w H))
        exact ⟨rfl, by (repeat (first | exact Agr.refl | exact Agr.hav | refine Agr.upd rfl ?_ | refine Agr.in rfl ?_)), s2, hs2, ⟨_, _, rfl, hS⟩, H⟩
      · intro s1 h w E hs1; (conv => whnf); rintro _ ⟨aq, cq, rfl, hSq⟩; (conv => whnf); intro H; replace H : Holds s1 w (var bl1 54 [.slice a0 (fullD F i).secs.length c0, .slice a1 (fullD F i).pend.length c1, .bool (fullD F i).off, .int .i64 lf, .slice a2 n2 c2] :: dsk b (fullD F i) :: ([] ++ E)) := H
        repeat' (first | (refine X.str (l := [UInt8.ofNat i]) H ?_) | refine Z H ?_ | (refine Zc ?_ ?_ <;> intro hc <;> first | (exfalso; omega) | skip) | (refine Y ?_; try change C _ _ _ _ _ _) | (refine Zs H ?_; clear H; (try clear w); intro w H) | (refine Zn H ?_; clear H; (try clear w); (first | ((fail_if_success (have := bl1)); intro bl1 w H) | ((fail_if_success (have := bl2)); intro bl2 w H) | ((fail_if_success (have := bl3)); intro bl3 w H) | intro _ w H)) | (refine Ze H ?_; clear H; (try clear w); intro gv w H))
        exact ⟨rfl, by (repeat (first | exact Agr.refl | exact Agr.hav | refine Agr.upd rfl ?_ | refine Agr.in rfl ?_)), s1, Ro.Le.refl _, rfl, H⟩
      · intro s1 h w E hs1; (conv => whnf); intro H; replace H : Holds s1 w (var bl1 54 [.slice a0 (fullD F i).secs.length c0, .slice a1 (fullD F i).pend.length c1, .bool (fullD F i).off, .int .i64 lf, .slice a2 n2 c2] :: dsk b (fullD F i) :: ([] ++ E)) := H
        (refine X.call (Noughts16_s (n := 40) H (by decide)) ?_; (try clear H); rintro _ w ⟨rfl, _, H⟩; refine ⟨_, rfl, ?_⟩)
        repeat' (first | refine Z H ?_ | (refine Zc ?_ ?_ <;> intro hc <;> first | (exfalso; omega) | skip) | (refine Y ?_; try change C _ _ _ _ _ _) | (refine Zs H ?_; clear H; (try clear w); intro w H) | (refine Zn H ?_; clear H; (try clear w); (first | ((fail_if_success (have := bl1)); intro bl1 w H) | ((fail_if_success (have := bl2)); intro bl2 w H) | ((fail_if_success (have := bl3)); intro bl3 w H) | intro _ w H)) | (refine Ze H ?_; clear H; (try clear w); intro gv w H))
        exact ⟨rfl, by (repeat (first | exact Agr.refl | exact Agr.hav | refine Agr.upd rfl ?_ | refine Agr.in rfl ?_)), s1, Ro.Le.refl _, rfl, H⟩
      · intro s1 h w E hs1; (conv => whnf); rintro _ rfl; (conv => whnf); rintro _ rfl; (conv => whnf); intro H; replace H : Holds s1 w (var bl1 54 [.slice a0 (fullD F i).secs.length c0, .slice a1 (fullD F i).pend.length c1, .bool (fullD F i).off, .int .i64 lf, .slice a2 n2 c2] :: dsk b (fullD F i) :: ([] ++ E)) := H
        refine J.cat (a := bst [UInt8.ofNat i]) (b := bst (List.replicate 40 0)) ?_ (hl := by rw [bst_size, bst_size]; simp)
        rw [bst_app]
        repeat' (first | refine Z H ?_ | (refine Zc ?_ ?_ <;> intro hc <;> first | (exfalso; omega) | skip) | (refine Y ?_; try change C _ _ _ _ _ _) | (refine Zs H ?_; clear H; (try clear w); intro w H) | (refine Zn H ?_; clear H; (try clear w); (first | ((fail_if_success (have := bl1)); intro bl1 w H) | ((fail_if_success (have := bl2)); intro bl2 w H) | ((fail_if_success (have := bl3)); intro bl3 w H) | intro _ w H)) | (refine Ze H ?_; clear H; (try clear w); intro gv w H))
        exact ⟨rfl, by (repeat (first | exact Agr.refl | exact Agr.hav | refine Agr.upd rfl ?_ | refine Agr.in rfl ?_)), s1, Ro.Le.refl _, rfl, H⟩
      · intro s1 h w E hs1; (conv => whnf); rintro _ rfl; (conv => whnf); rintro _ rfl; (conv => whnf); intro H; replace H : Holds s1 w (var bl1 54 [.slice a0 (fullD F i).secs.length c0, .slice a1 (fullD F i).pend.length c1, .bool (fullD F i).off, .int .i64 lf, .slice a2 n2 c2] :: dsk b (fullD F i) :: ([] ++ E)) := H
        (refine X.call (Sector16_s (c := 80) (e := F) (m := [UInt8.ofNat i] ++ List.replicate 40 0) H hE (by simp)) ?_; (try clear H); rintro _ w ⟨s3, rfl, hs3, H⟩; refine ⟨_, rfl, ?_⟩)
        rw [hpg]
        repeat' (first | refine Z H ?_ | (refine Zc ?_ ?_ <;> intro hc <;> first | (exfalso; omega) | skip) | (refine Y ?_; try change C _ _ _ _ _ _) | (refine Zs H ?_; clear H; (try clear w); intro w H) | (refine Zn H ?_; clear H; (try clear w); (first | ((fail_if_success (have := bl1)); intro bl1 w H) | ((fail_if_success (have := bl2)); intro bl2 w H) | ((fail_if_success (have := bl3)); intro bl3 w H) | intro _ w H)) | (refine Ze H ?_; clear H; (try clear w); intro gv w H))
        exact ⟨rfl, by (repeat (first | exact Agr.refl | exact Agr.hav | refine Agr.upd rfl ?_ | refine Agr.in rfl ?_)), s3, hs3, rfl, H⟩
      · intro s1 h w E hs1; (conv => whnf); rintro _ rfl; (conv => whnf); intro H; replace H : Holds s1 w (var bl1 54 [.slice a0 (fullD F i).secs.length c0, .slice a1 (fullD F i).pend.length c1, .bool (fullD F i).off, .int .i64 lf, .slice a2 n2 c2] :: dsk b (fullD F i) :: ([] ++ E)) := H
        repeat' (first | refine Z H ?_ | (refine Zc ?_ ?_ <;> intro hc <;> first | (exfalso; omega) | skip) | (refine Y ?_; try change C _ _ _ _ _ _) | (refine Zs H ?_; clear H; (try clear w); intro w H) | (refine Zn H ?_; clear H; (try clear w); (first | ((fail_if_success (have := bl1)); intro bl1 w H) | ((fail_if_success (have := bl2)); intro bl2 w H) | ((fail_if_success (have := bl3)); intro bl3 w H) | intro _ w H)) | (refine Ze H ?_; clear H; (try clear w); intro gv w H))
        exact ⟨rfl, by (repeat (first | exact Agr.refl | exact Agr.hav | refine Agr.upd rfl ?_ | refine Agr.in rfl ?_)), s1, Ro.Le.refl _, rfl, H⟩
    · intro s1 h w hs1; (conv => whnf); rintro _ rfl; (conv => whnf); intro H; replace H : Holds s1 w (var bl1 54 [.slice a0 (fullD F i).secs.length c0, .slice a1 (fullD F i).pend.length c1, .bool (fullD F i).off, .int .i64 lf, .slice a2 n2 c2] :: dsk b (fullD F i) :: []) := H
      refine L.nil ⟨rfl, ?_⟩
      repeat' (first | refine Z H ?_ | (refine Zc ?_ ?_ <;> intro hc <;> first | (exfalso; omega) | skip) | (refine Y ?_; try change C _ _ _ _ _ _) | (refine Zs H ?_; clear H; (try clear w); intro w H) | (refine Zn H ?_; clear H; (try clear w); (first | ((fail_if_success (have := bl1)); intro bl1 w H) | ((fail_if_success (have := bl2)); intro bl2 w H) | ((fail_if_success (have := bl3)); intro bl3 w H) | intro _ w H)) | (refine Ze H ?_; clear H; (try clear w); intro gv w H))
      have hfr := fullD_free F i
      have hpw : pwrite (fullD F i) (((0 : Nat) : Int), 52) ((2 + i : Nat) : Int) (pageB F i z640) = (fullD F (i + 1), 0) := by
        have := hfr.pwrite (f := 0) (c := 52) (n := 2 + i) (by omega) (by decide) (by decide) h64
        rw [show ((52 : Nat) : Int) = 52 from rfl] at this
        rw [this, Nat.zero_add]; rfl
      have hw : (fullD F i).write ((2 + i : Nat) : Int) (pageB F i z640) = (fullD F (i + 1), 0) := by
        have := pwrite_inW (d := fullD F i) (f := 0) (n := 2 + i) (l := pageB F i z640) (by omega) (by decide)
        rw [hpw, Nat.zero_add] at this
        exact this.symm
      rw [e2]
      refine X.bts (l := pageB F i z640) H ?_ Tryd.underlying5 (hl := by rw [h64]; decide)
      clear H
      intro s3 gb cb w hs3 H hSb
      repeat' (first | refine Z H ?_ | (refine Zc ?_ ?_ <;> intro hc <;> first | (exfalso; omega) | skip) | (refine Y ?_; try change C _ _ _ _ _ _) | (refine Zs H ?_; clear H; (try clear w); intro w H) | (refine Zn H ?_; clear H; (try clear w); (first | ((fail_if_success (have := bl1)); intro bl1 w H) | ((fail_if_success (have := bl2)); intro bl2 w H) | ((fail_if_success (have := bl3)); intro bl3 w H) | intro _ w H)) | (refine Ze H ?_; clear H; (try clear w); intro gv w H))
      first | (have hT : Holds _ _ (dsk b _ :: _) := H; clear hT) | (replace H := H.up 1 rfl; (try simp only [List.set_cons_zero, List.set_cons_succ, List.eraseIdx_cons_zero, List.eraseIdx_cons_succ] at H); have hT : Holds _ _ (dsk b _ :: _) := H; clear hT) | (replace H := H.up 2 rfl; (try simp only [List.set_cons_zero, List.set_cons_succ, List.eraseIdx_cons_zero, List.eraseIdx_cons_succ] at H); have hT : Holds _ _ (dsk b _ :: _) := H; clear hT) | (replace H := H.up 3 rfl; (try simp only [List.set_cons_zero, List.set_cons_succ, List.eraseIdx_cons_zero, List.eraseIdx_cons_succ] at H); have hT : Holds _ _ (dsk b _ :: _) := H; clear hT) | (replace H := H.up 4 rfl; (try simp only [List.set_cons_zero, List.set_cons_succ, List.eraseIdx_cons_zero, List.eraseIdx_cons_succ] at H); have hT : Holds _ _ (dsk b _ :: _) := H; clear hT) | (replace H := H.up 5 rfl; (try simp only [List.set_cons_zero, List.set_cons_succ, List.eraseIdx_cons_zero, List.eraseIdx_cons_succ] at H); have hT : Holds _ _ (dsk b _ :: _) := H; clear hT) | (replace H := H.up 6 rfl; (try simp only [List.set_cons_zero, List.set_cons_succ, List.eraseIdx_cons_zero, List.eraseIdx_cons_succ] at H); have hT : Holds _ _ (dsk b _ :: _) := H; clear hT)
      have hWp := Write_p (a := ((2 + i : Nat) : Int)) H (hp.mono ((hs2.trans hs1).trans hs3)) (by unfold I64; omega) (.ro hSb) (by omega)
      rw [hpw] at hWp
      (refine X.call (hWp) ?_; (try clear H); rintro _ w ⟨rfl, H⟩; refine ⟨_, rfl, ?_⟩)
      clear hWp
      repeat' (first | refine Z H ?_ | (refine Zc ?_ ?_ <;> intro hc <;> first | (exfalso; omega) | skip) | (refine Y ?_; try change C _ _ _ _ _ _) | (refine Zs H ?_; clear H; (try clear w); intro w H) | (refine Zn H ?_; clear H; (try clear w); (first | ((fail_if_success (have := bl1)); intro bl1 w H) | ((fail_if_success (have := bl2)); intro bl2 w H) | ((fail_if_success (have := bl3)); intro bl3 w H) | intro _ w H)) | (refine Ze H ?_; clear H; (try clear w); intro gv w H))
      rw [e2]
      have hWr := Write_r (n := ((2 + i : Nat) : Int)) (b := pageB F i z640) H (hR.mono (hs1.trans hs3)) (by omega) (by omega)
      rw [hw] at hWr
      refine X.call hWr ?_
      clear H hWr
      rintro _ w ⟨s4, v', rfl, hs4, hR', H⟩
      refine ⟨_, rfl, ?_⟩
      have hRc := hR'
      obtain ⟨b0, k0, b1, k1, lf', b2, m2, k2, rfl⟩ := refCellsW hRc
      dsimp only
      repeat' (first | refine Z H ?_ | (refine Zc ?_ ?_ <;> intro hc <;> first | (exfalso; omega) | skip) | (refine Y ?_; try change C _ _ _ _ _ _) | (refine Zs H ?_; clear H; (try clear w); intro w H) | (refine Zn H ?_; clear H; (try clear w); (first | ((fail_if_success (have := bl1)); intro bl1 w H) | ((fail_if_success (have := bl2)); intro bl2 w H) | ((fail_if_success (have := bl3)); intro bl3 w H) | intro _ w H)) | (refine Ze H ?_; clear H; (try clear w); intro gv w H))
      exact ⟨by (repeat (first | exact Agr.refl | exact Agr.hav | refine Agr.upd rfl ?_ | refine Agr.in rfl ?_)), 16 - (i + 1), by omega, i + 1, s4, b0, k0, b1, k1, lf', b2, m2, k2, rfl, by omega, rfl, hs2.trans (hs1.trans (hs3.trans hs4)), hR', H.arr⟩
  · have hie : i = 16 := by omega
    subst hie
    have hhd : secW 72 F [0] = headB F 0 := rfl
    generalize hF2 : F % 2 = F2 at *
    have h64 : (headB F 0).length = 64 := secW_len (by simp)
    have hfr := fullD_free F 16
    have hpw : pwrite (fullD F 16) (((0 : Nat) : Int), 52) ((F2 : Nat) : Int) (headB F 0) = (fullE F, 0) := by
      have := hfr.pwrite (f := 0) (c := 52) (n := F2) (by omega) (by decide) (by decide) h64
      rw [show ((52 : Nat) : Int) = 52 from rfl] at this
      rw [this, Nat.zero_add, ← hF2]; rfl
    have hw : (fullD F 16).write ((F2 : Nat) : Int) (headB F 0) = (fullE F, 0) := by
      have := pwrite_inW (d := fullD F 16) (f := 0) (n := F2) (l := headB F 0) (by omega) (by decide)
      rw [hpw, Nat.zero_add] at this
      exact this.symm
    have hwF := IntWalk.i64_in ((F2 : Nat) : Int) (by omega)
    repeat' (first | refine Z H ?_ | (refine Zc ?_ ?_ <;> intro hc <;> first | (exfalso; omega) | skip) | (refine Y ?_; try change C _ _ _ _ _ _) | (refine Zs H ?_; clear H; (try clear w); intro w H) | (refine Zn H ?_; clear H; (try clear w); (first | ((fail_if_success (have := bl1)); intro bl1 w H) | ((fail_if_success (have := bl2)); intro bl2 w H) | ((fail_if_success (have := bl3)); intro bl3 w H) | intro _ w H)) | (refine Ze H ?_; clear H; (try clear w); intro gv w H))
    (refine X.call (Sector16_s (c := 72) (e := F) (m := [0]) H hE (by decide)) ?_; (try clear H); rintro _ w ⟨s3, rfl, hs3, H⟩; refine ⟨_, rfl, ?_⟩)
    rw [hhd]
    repeat' (first | (refine B.rem (a := F) (b := 2) ?_; rw [hF2]) | (refine K.convI Tryd.underlying32 rfl rfl rfl ?_; rw [hwF]) | refine Z H ?_ | (refine Zc ?_ ?_ <;> intro hc <;> first | (exfalso; omega) | skip) | (refine Y ?_; try change C _ _ _ _ _ _) | (refine Zs H ?_; clear H; (try clear w); intro w H) | (refine Zn H ?_; clear H; (try clear w); (first | ((fail_if_success (have := bl1)); intro bl1 w H) | ((fail_if_success (have := bl2)); intro bl2 w H) | ((fail_if_success (have := bl3)); intro bl3 w H) | intro _ w H)) | (refine Ze H ?_; clear H; (try clear w); intro gv w H))
    refine X.bts (l := headB F 0) H ?_ Tryd.underlying5 (hl := by rw [h64]; decide)
    clear H
    intro s4 gb cb w hs4 H hSb
    repeat' (first | refine Z H ?_ | (refine Zc ?_ ?_ <;> intro hc <;> first | (exfalso; omega) | skip) | (refine Y ?_; try change C _ _ _ _ _ _) | (refine Zs H ?_; clear H; (try clear w); intro w H) | (refine Zn H ?_; clear H; (try clear w); (first | ((fail_if_success (have := bl1)); intro bl1 w H) | ((fail_if_success (have := bl2)); intro bl2 w H) | ((fail_if_success (have := bl3)); intro bl3 w H) | intro _ w H)) | (refine Ze H ?_; clear H; (try clear w); intro gv w H))
    first | (have hT : Holds _ _ (dsk b _ :: _) := H; clear hT) | (replace H := H.up 1 rfl; (try simp only [List.set_cons_zero, List.set_cons_succ, List.eraseIdx_cons_zero, List.eraseIdx_cons_succ] at H); have hT : Holds _ _ (dsk b _ :: _) := H; clear hT) | (replace H := H.up 2 rfl; (try simp only [List.set_cons_zero, List.set_cons_succ, List.eraseIdx_cons_zero, List.eraseIdx_cons_succ] at H); have hT : Holds _ _ (dsk b _ :: _) := H; clear hT) | (replace H := H.up 3 rfl; (try simp only [List.set_cons_zero, List.set_cons_succ, List.eraseIdx_cons_zero, List.eraseIdx_cons_succ] at H); have hT : Holds _ _ (dsk b _ :: _) := H; clear hT) | (replace H := H.up 4 rfl; (try simp only [List.set_cons_zero, List.set_cons_succ, List.eraseIdx_cons_zero, List.eraseIdx_cons_succ] at H); have hT : Holds _ _ (dsk b _ :: _) := H; clear hT) | (replace H := H.up 5 rfl; (try simp only [List.set_cons_zero, List.set_cons_succ, List.eraseIdx_cons_zero, List.eraseIdx_cons_succ] at H); have hT : Holds _ _ (dsk b _ :: _) := H; clear hT) | (replace H := H.up 6 rfl; (try simp only [List.set_cons_zero, List.set_cons_succ, List.eraseIdx_cons_zero, List.eraseIdx_cons_succ] at H); have hT : Holds _ _ (dsk b _ :: _) := H; clear hT)
    have hWp := Write_p (a := ((F2 : Nat) : Int)) H (hp.mono ((hs2.trans hs3).trans hs4)) (by unfold I64; omega) (.ro hSb) (by omega)
    rw [hpw] at hWp
    (refine X.call (hWp) ?_; (try clear H); rintro _ w ⟨rfl, H⟩; refine ⟨_, rfl, ?_⟩)
    clear hWp
    repeat' (first | (refine B.rem (a := F) (b := 2) ?_; rw [hF2]) | (refine K.convI Tryd.underlying32 rfl rfl rfl ?_; rw [hwF]) | refine Z H ?_ | (refine Zc ?_ ?_ <;> intro hc <;> first | (exfalso; omega) | skip) | (refine Y ?_; try change C _ _ _ _ _ _) | (refine Zs H ?_; clear H; (try clear w); intro w H) | (refine Zn H ?_; clear H; (try clear w); (first | ((fail_if_success (have := bl1)); intro bl1 w H) | ((fail_if_success (have := bl2)); intro bl2 w H) | ((fail_if_success (have := bl3)); intro bl3 w H) | intro _ w H)) | (refine Ze H ?_; clear H; (try clear w); intro gv w H))
    have hWr := Write_r (n := ((F2 : Nat) : Int)) (b := headB F 0) H (hR.mono (hs3.trans hs4)) (by omega) (by omega)
    rw [hw] at hWr
    refine X.call hWr ?_
    clear H hWr
    rintro _ w ⟨s5, v', rfl, hs5, hR', H⟩
    refine ⟨_, rfl, ?_⟩
    have hRc := hR'
    obtain ⟨b0, k0, b1, k1, lf', b2, m2, k2, rfl⟩ := refCellsW hRc
    dsimp only
    clear hpw hw hR
    repeat' (first | refine Z H ?_ | (refine Zc ?_ ?_ <;> intro hc <;> first | (exfalso; omega) | skip) | (refine Y ?_; try change C _ _ _ _ _ _) | (refine Zs H ?_; clear H; (try clear w); intro w H) | (refine Zn H ?_; clear H; (try clear w); (first | ((fail_if_success (have := bl1)); intro bl1 w H) | ((fail_if_success (have := bl2)); intro bl2 w H) | ((fail_if_success (have := bl3)); intro bl3 w H) | intro _ w H)) | (refine Ze H ?_; clear H; (try clear w); intro gv w H))
    first | (have hT : Holds _ _ (dsk b _ :: _) := H; clear hT) | (replace H := H.up 1 rfl; (try simp only [List.set_cons_zero, List.set_cons_succ, List.eraseIdx_cons_zero, List.eraseIdx_cons_succ] at H); have hT : Holds _ _ (dsk b _ :: _) := H; clear hT) | (replace H := H.up 2 rfl; (try simp only [List.set_cons_zero, List.set_cons_succ, List.eraseIdx_cons_zero, List.eraseIdx_cons_succ] at H); have hT : Holds _ _ (dsk b _ :: _) := H; clear hT) | (replace H := H.up 3 rfl; (try simp only [List.set_cons_zero, List.set_cons_succ, List.eraseIdx_cons_zero, List.eraseIdx_cons_succ] at H); have hT : Holds _ _ (dsk b _ :: _) := H; clear hT) | (replace H := H.up 4 rfl; (try simp only [List.set_cons_zero, List.set_cons_succ, List.eraseIdx_cons_zero, List.eraseIdx_cons_succ] at H); have hT : Holds _ _ (dsk b _ :: _) := H; clear hT) | (replace H := H.up 5 rfl; (try simp only [List.set_cons_zero, List.set_cons_succ, List.eraseIdx_cons_zero, List.eraseIdx_cons_succ] at H); have hT : Holds _ _ (dsk b _ :: _) := H; clear hT) | (replace H := H.up 6 rfl; (try simp only [List.set_cons_zero, List.set_cons_succ, List.eraseIdx_cons_zero, List.eraseIdx_cons_succ] at H); have hT : Holds _ _ (dsk b _ :: _) := H; clear hT)
    have hs15 := hs2.trans (hs3.trans (hs4.trans hs5))
    have hon : ∀ k : Nat, k < 52 → (pread (fullE F) (((0 : Nat) : Int), 52) (k : Int)).2 = 0 := fun k hk => by
      have := (fullE_free F).pread (f := 0) (c := 52) hk (by decide) (by decide)
      rw [show ((52 : Nat) : Int) = 52 from rfl] at this
      rw [this]
    have hop := full_aw less
    rw [hF] at hop
    refine X.call (Open_l (x := (((0 : Nat) : Int), 52)) (hN.mono (hs1.trans hs15)) H (hp.mono hs15) rfl hon) ?_
    clear H
    rintro _ w ⟨s6, hs6, hcase⟩
    obtain ⟨m, bL, ho, rfl, H⟩ := hcase.resolve_right (fun ⟨c, ho, _⟩ => by rw [hop] at ho; cases ho)
    clear hcase
    refine ⟨_, rfl, ?_⟩
    rw [hop] at ho
    cases ho
    have hwf : (fullE F).Wf := Holds.wf H.tail
    have hfl := (fullE_free F).len
    repeat' (first | refine Z H ?_ | (refine Zc ?_ ?_ <;> intro hc <;> first | (exfalso; omega) | skip) | (refine Y ?_; try change C _ _ _ _ _ _) | (refine Zs H ?_; clear H; (try clear w); intro w H) | (refine Zn H ?_; clear H; (try clear w); (first | ((fail_if_success (have := bl1)); intro bl1 w H) | ((fail_if_success (have := bl2)); intro bl2 w H) | ((fail_if_success (have := bl3)); intro bl3 w H) | intro _ w H)) | (refine Ze H ?_; clear H; (try clear w); intro gv w H))
    have hpe := fullE_pend F
    have hO := Open16_s (d := fullE F) (f := 0) H (hR'.mono hs6) (fullE_free F).off (by omega) (by omega) hwf (by omega)
    refine X.call hO ?_
    clear H hO
    rintro _ w ⟨s7, cs, code, rfl, hs7, H, hres⟩
    refine ⟨_, rfl, ?_⟩
    obtain ⟨m', pa, pc, ho', rfl, hRW, hmd, hSp⟩ := hres.resolve_left (fun ⟨h1, _, _⟩ => by rw [hop] at h1; cases h1)
    clear hres
    rw [hop] at ho'
    cases ho'
    generalize hm0 : (⟨F, 0, 0, z640, false⟩ : WL) = m0 at *
    have hRW0 := hRW
    obtain ⟨g0, q0, g1, q1, lfg, g2, ng2, q2, rfl, hD⟩ := hRW0
    repeat' (first | refine Z H ?_ | (refine Zc ?_ ?_ <;> intro hc <;> first | (exfalso; omega) | skip) | (refine Y ?_; try change C _ _ _ _ _ _) | (refine Zs H ?_; clear H; (try clear w); intro w H) | (refine Zn H ?_; clear H; (try clear w); (first | ((fail_if_success (have := bl1)); intro bl1 w H) | ((fail_if_success (have := bl2)); intro bl2 w H) | ((fail_if_success (have := bl3)); intro bl3 w H) | intro _ w H)) | (refine Ze H ?_; clear H; (try clear w); intro gv w H))
    first | (have hT : Holds _ _ (logW bL _ _ _ _ _ _ :: _) := H; clear hT) | (replace H := H.up 1 rfl; (try simp only [List.set_cons_zero, List.set_cons_succ, List.eraseIdx_cons_zero, List.eraseIdx_cons_succ] at H); have hT : Holds _ _ (logW bL _ _ _ _ _ _ :: _) := H; clear hT) | (replace H := H.up 2 rfl; (try simp only [List.set_cons_zero, List.set_cons_succ, List.eraseIdx_cons_zero, List.eraseIdx_cons_succ] at H); have hT : Holds _ _ (logW bL _ _ _ _ _ _ :: _) := H; clear hT) | (replace H := H.up 3 rfl; (try simp only [List.set_cons_zero, List.set_cons_succ, List.eraseIdx_cons_zero, List.eraseIdx_cons_succ] at H); have hT : Holds _ _ (logW bL _ _ _ _ _ _ :: _) := H; clear hT) | (replace H := H.up 4 rfl; (try simp only [List.set_cons_zero, List.set_cons_succ, List.eraseIdx_cons_zero, List.eraseIdx_cons_succ] at H); have hT : Holds _ _ (logW bL _ _ _ _ _ _ :: _) := H; clear hT) | (replace H := H.up 5 rfl; (try simp only [List.set_cons_zero, List.set_cons_succ, List.eraseIdx_cons_zero, List.eraseIdx_cons_succ] at H); have hT : Holds _ _ (logW bL _ _ _ _ _ _ :: _) := H; clear hT) | (replace H := H.up 6 rfl; (try simp only [List.set_cons_zero, List.set_cons_succ, List.eraseIdx_cons_zero, List.eraseIdx_cons_succ] at H); have hT : Holds _ _ (logW bL _ _ _ _ _ _ :: _) := H; clear hT)
    rw [hmd] at H
    have hps0 : m0.pages.length = 640 := by rw [← hm0]; exact List.length_replicate
    (refine X.call (is16_s H hps0 hRW hSp) ?_; (try clear H); rintro _ w ⟨rfl, H⟩; refine ⟨_, rfl, ?_⟩)
    have hgd := good_full less
    rw [hF, hm0] at hgd
    have hs17 := hs15.trans (hs6.trans hs7)
    clear hm0 hop hmd hD hfl hwf hon
    generalize fullE F = d0 at *
    repeat' (first | refine Z H ?_ | (refine Zc ?_ ?_ <;> intro hc <;> first | (exfalso; omega) | skip) | (refine Y ?_; try change C _ _ _ _ _ _) | (refine Zs H ?_; clear H; (try clear w); intro w H) | (refine Zn H ?_; clear H; (try clear w); (first | ((fail_if_success (have := bl1)); intro bl1 w H) | ((fail_if_success (have := bl2)); intro bl2 w H) | ((fail_if_success (have := bl3)); intro bl3 w H) | intro _ w H)) | (refine Ze H ?_; clear H; (try clear w); intro gv w H))
    have H' : Holds s7 w (logW bL bp m0.epoch m0.home m0.used m0.pages false :: dsk b d0 :: var bl2 86 [.slice g0 d0.secs.length q0, .slice g1 d0.pend.length q1, .bool d0.off, .int .i64 lfg, .slice g2 ng2 q2, .int .i64 ((0 : Nat) : Int), .slice pa 16 pc, .int .u32 (m0.epoch : Int), .int .i64 (m0.home : Int), .int .i64 (m0.used : Int), .bool false] :: []) := H.arr
    clear H
    refine C.loopS [4, 19, 20, 21, 22, 101, 102, 103, 104, 105, 106, 107, 108, 109, 110, 111, 112, 113, 114, 115, 116, 117, 118, 119, 120, 121, 122, 123, 124, 125, 126, 127, 128, 129, 130, 131, 132, 133, 134, 135, 136, 137, 138, 139, 140, 141, 142, 143, 144] [19] rfl (fun k vs w => ∃ i : Nat, ∃ s' d m pa pc g0 q0 g1 q1 lfg g2 ng2 q2, k = fl.length - i ∧ i ≤ fl.length ∧ i ≤ 24 ∧ vs = [.int .i64 (i : Int)] ∧ s7.Le s' ∧ GoodW 0 d m ∧ d.pend.length ≤ 200 + 40 * i ∧ RefW s' [.slice g0 d.secs.length q0, .slice g1 d.pend.length q1, .bool d.off, .int .i64 lfg, .slice g2 ng2 q2, .int .i64 ((0 : Nat) : Int), .slice pa 16 pc, .int .u32 (m.epoch : Int), .int .i64 (m.home : Int), .int .i64 (m.used : Int), .bool false] d 0 pa 16 pc m.epoch m.home m.used false ∧ SlS s' (.slice pa 16 pc) 1 16 (strs (pgsOf m.pages)) ∧ Holds s' w (logW bL bp m.epoch m.home m.used m.pages false :: dsk b d :: var bl2 86 [.slice g0 d.secs.length q0, .slice g1 d.pend.length q1, .bool d.off, .int .i64 lfg, .slice g2 ng2 q2, .int .i64 ((0 : Nat) : Int), .slice pa 16 pc, .int .u32 (m.epoch : Int), .int .i64 (m.home : Int), .int .i64 (m.used : Int), .bool false] :: [])) fl.length ⟨0, s7, d0, m0, pa, pc, g0, q0, g1, q1, lfg, g2, ng2, q2, rfl, Nat.zero_le _, Nat.zero_le _, rfl, Ro.Le.refl _, hgd, by omega, hRW, hSp, H'⟩ ?_
    clear H' hgd hRW hSp hpe hps0
    clear hR' hRc
    rintro k vs hv w ⟨i, s8, d, m, pa, pc, g0, q0, g1, q1, lfg, g2, ng2, q2, rfl, hi, hi24, rfl, hs8, hG, hdp, hRW, hSp, H⟩
    have hs18 := hs17.trans hs8
    by_cases hlt : i < fl.length ∧ i < 24
    · obtain ⟨hlt, hlt24⟩ := hlt
      obtain ⟨gf, o, c', hv', _, _, hpf⟩ := elemS1 (hl.mono (hs1.trans hs18)) (by omega)
      cases hv'
      have pn : Pin s8 gf (o + i * 1) (.int .u8 (fl[i].toNat : Int)) := by rw [Nat.mul_one]; exact hpf i hlt
      generalize fl[i] = x at *
      have hx8 : x.toNat < 256 := x.toNat_lt
      have hr5 : ((x.toNat : Nat) : Int).tmod 5 = ((x.toNat % 5 : Nat) : Int) := by rw [Int.ofNat_tmod]; rfl
      have hr16 : ((i : Nat) : Int).tmod 16 = ((i % 16 : Nat) : Int) := by rw [Int.ofNat_tmod]; rfl
      obtain ⟨nn, hnn⟩ : ∃ nn, 1 + x.toNat % 5 = nn := ⟨_, rfl⟩
      obtain ⟨aa, haa⟩ : ∃ aa, i % 16 = aa := ⟨_, rfl⟩
      have en : (1 : Int) + ((x.toNat % 5 : Nat) : Int) = (nn : Int) := by omega
      rw [haa] at hr16
      have hwx := IntWalk.i64_in ((x.toNat : Nat) : Int) (by omega)
      repeat' (first | refine Z H ?_ | (refine Zc ?_ ?_ <;> intro hc <;> first | (exfalso; omega) | skip) | (refine Y ?_; try change C _ _ _ _ _ _) | (refine Zs H ?_; clear H; (try clear w); intro w H) | (refine Zn H ?_; clear H; (try clear w); (first | ((fail_if_success (have := bl1)); intro bl1 w H) | ((fail_if_success (have := bl2)); intro bl2 w H) | ((fail_if_success (have := bl3)); intro bl3 w H) | intro _ w H)) | (refine Ze H ?_; clear H; (try clear w); intro gv w H))
      refine C.drawn1 [0, 0, 0, 1, 0, 0, 0, 0, 0, 0, 0, 0, 1, 0, 2, 3] [0, 0, 3, 7, 15, 31, 63, 0, 128, 0, 0, 1536, 3584, 8191, 0, 32767] (by kernel_rfl) ?_; replace H := H.drew
      repeat' (first | (refine K.ia (i := i) rfl rfl rfl rfl rfl (by omega) ?_) | (refine K.convI Tryd.underlying5 rfl rfl rfl ?_; rw [hwx]) | (refine K.rem rfl rfl rfl rfl (by decide) ?_; first | rw [hr5, en] | rw [hr5] | rw [hr16]) | refine Z H ?_ | (refine Zc ?_ ?_ <;> intro hc <;> first | (exfalso; omega) | skip) | (refine Y ?_; try change C _ _ _ _ _ _) | (refine Zs H ?_; clear H; (try clear w); intro w H) | (refine Zn H ?_; clear H; (try clear w); (first | ((fail_if_success (have := bl1)); intro bl1 w H) | ((fail_if_success (have := bl2)); intro bl2 w H) | ((fail_if_success (have := bl3)); intro bl3 w H) | intro _ w H)) | (refine Ze H ?_; clear H; (try clear w); intro gv w H))
      rw [en]
      refine K.build [(1, .int .i64 (nn : Int)), (2, .int .i64 (aa : Int)), (4, .int .u8 (x.toNat : Int))] _ (build_actF nn aa x.toNat) rfl rfl rfl ?_
      obtain ⟨chs, hchs⟩ : ∃ chs, chsM (nn : Int) (aa : Int) 0 x = chs := ⟨_, rfl⟩
      have hcl : chs.length ≤ 18 := by rw [← hchs]; unfold chsM; rw [List.length_map, List.length_range]; exact Nat.min_le_right _ _
      have hG2 := hG.commit chs (by decide)
      have hP2 := commit_pend d (((0 : Nat) : Int), 52) m chs
      obtain ⟨r, hcm⟩ : ∃ r, commitM d (((0 : Nat) : Int), 52) m chs = r := ⟨_, rfl⟩
      rw [hcm] at hG2 hP2
      repeat' (first | refine Z H ?_ | (refine Zc ?_ ?_ <;> intro hc <;> first | (exfalso; omega) | skip) | (refine Y ?_; try change C _ _ _ _ _ _) | (refine Zs H ?_; clear H; (try clear w); intro w H) | (refine Zn H ?_; clear H; (try clear w); (first | ((fail_if_success (have := bl1)); intro bl1 w H) | ((fail_if_success (have := bl2)); intro bl2 w H) | ((fail_if_success (have := bl3)); intro bl3 w H) | intro _ w H)) | (refine Ze H ?_; clear H; (try clear w); intro gv w H))
      have H' : Holds s8 w (logW bL bp m.epoch m.home m.used m.pages false :: dsk b d :: var bl2 86 [.slice g0 d.secs.length q0, .slice g1 d.pend.length q1, .bool d.off, .int .i64 lfg, .slice g2 ng2 q2, .int .i64 ((0 : Nat) : Int), .slice pa 16 pc, .int .u32 (m.epoch : Int), .int .i64 (m.home : Int), .int .i64 (m.used : Int), .bool false] :: var bl3 78 [.int .i64 0, .int .i64 (nn : Int), .int .i64 (aa : Int), .int .i64 0, .int .u8 (x.toNat : Int), .slice none 0 0] :: []) := H.arr
      clear H
      refine C.flow (comF2 [.slice g0 d.secs.length q0, .slice g1 d.pend.length q1, .bool d.off, .int .i64 lfg, .slice g2 ng2 q2, .int .i64 ((0 : Nat) : Int), .slice pa 16 pc, .int .u32 (m.epoch : Int), .int .i64 (m.home : Int), .int .i64 (m.used : Int), .bool false] [.int .i64 0, .int .i64 (nn : Int), .int .i64 (aa : Int), .int .i64 0, .int .u8 (x.toNat : Int), .slice none 0 0] chs 0 r) [5, 6, 8] [0, 1, 2, 3, 4, 5, 6, 8] H' (by kernel_rfl) rfl rfl ?_ ?_
      clear H'
      · repeat' (first | exact StepsF.nil | refine StepsF.cons ?_ ?_)
        · intro s1 h w E hs1; (conv => whnf); intro H; replace H : Holds s1 w (logW bL bp m.epoch m.home m.used m.pages false :: dsk b d :: var bl2 86 [.slice g0 d.secs.length q0, .slice g1 d.pend.length q1, .bool d.off, .int .i64 lfg, .slice g2 ng2 q2, .int .i64 ((0 : Nat) : Int), .slice pa 16 pc, .int .u32 (m.epoch : Int), .int .i64 (m.home : Int), .int .i64 (m.used : Int), .bool false] :: var bl3 78 [.int .i64 0, .int .i64 (nn : Int), .int .i64 (aa : Int), .int .i64 0, .int .u8 (x.toNat : Int), .slice none 0 0] :: ([] ++ E)) := H
          repeat' (first | refine Z H ?_ | (refine Zc ?_ ?_ <;> intro hc <;> first | (exfalso; omega) | skip) | (refine Y ?_; try change C _ _ _ _ _ _) | (refine Zs H ?_; clear H; (try clear w); intro w H) | (refine Zn H ?_; clear H; (try clear w); (first | ((fail_if_success (have := bl1)); intro bl1 w H) | ((fail_if_success (have := bl2)); intro bl2 w H) | ((fail_if_success (have := bl3)); intro bl3 w H) | intro _ w H)) | (refine Ze H ?_; clear H; (try clear w); intro gv w H))
          exact ⟨rfl, by (repeat (first | exact Agr.refl | exact Agr.hav | refine Agr.upd rfl ?_ | refine Agr.in rfl ?_)), s1, Ro.Le.refl _, rfl, H⟩
        · intro s1 h w E hs1; (conv => whnf); intro H; replace H : Holds s1 w (logW bL bp m.epoch m.home m.used m.pages false :: dsk b d :: var bl2 86 [.slice g0 d.secs.length q0, .slice g1 d.pend.length q1, .bool d.off, .int .i64 lfg, .slice g2 ng2 q2, .int .i64 ((0 : Nat) : Int), .slice pa 16 pc, .int .u32 (m.epoch : Int), .int .i64 (m.home : Int), .int .i64 (m.used : Int), .bool false] :: var bl3 78 [.int .i64 0, .int .i64 (nn : Int), .int .i64 (aa : Int), .int .i64 0, .int .u8 (x.toNat : Int), .slice none 0 0] :: ([] ++ E)) := H
          repeat' (first | refine Z H ?_ | (refine Zc ?_ ?_ <;> intro hc <;> first | (exfalso; omega) | skip) | (refine Y ?_; try change C _ _ _ _ _ _) | (refine Zs H ?_; clear H; (try clear w); intro w H) | (refine Zn H ?_; clear H; (try clear w); (first | ((fail_if_success (have := bl1)); intro bl1 w H) | ((fail_if_success (have := bl2)); intro bl2 w H) | ((fail_if_success (have := bl3)); intro bl3 w H) | intro _ w H)) | (refine Ze H ?_; clear H; (try clear w); intro gv w H))
          exact ⟨rfl, by (repeat (first | exact Agr.refl | exact Agr.hav | refine Agr.upd rfl ?_ | refine Agr.in rfl ?_)), s1, Ro.Le.refl _, rfl, H⟩
        · intro s1 h w E hs1; (conv => whnf); rintro _ rfl; (conv => whnf); intro H; replace H : Holds s1 w (logW bL bp m.epoch m.home m.used m.pages false :: dsk b d :: var bl2 86 [.slice g0 d.secs.length q0, .slice g1 d.pend.length q1, .bool d.off, .int .i64 lfg, .slice g2 ng2 q2, .int .i64 ((0 : Nat) : Int), .slice pa 16 pc, .int .u32 (m.epoch : Int), .int .i64 (m.home : Int), .int .i64 (m.used : Int), .bool false] :: var bl3 78 [.int .i64 0, .int .i64 (nn : Int), .int .i64 (aa : Int), .int .i64 0, .int .u8 (x.toNat : Int), .slice none 0 0] :: ([] ++ E)) := H
          refine X.call (Changes_s (dx := 0) (N := (nn : Int)) (At := (aa : Int)) (off := 0) (fill := x) (kv := .slice none 0 0) H (by unfold I64; omega) (by unfold I64; omega) rfl) ?_
          clear H
          rintro _ w ⟨s9, v9, cs9, rfl, hs9, hS9, hC9, H⟩
          refine ⟨_, rfl, ?_⟩
          rw [hchs] at hS9 hC9
          repeat' (first | refine Z H ?_ | (refine Zc ?_ ?_ <;> intro hc <;> first | (exfalso; omega) | skip) | (refine Y ?_; try change C _ _ _ _ _ _) | (refine Zs H ?_; clear H; (try clear w); intro w H) | (refine Zn H ?_; clear H; (try clear w); (first | ((fail_if_success (have := bl1)); intro bl1 w H) | ((fail_if_success (have := bl2)); intro bl2 w H) | ((fail_if_success (have := bl3)); intro bl3 w H) | intro _ w H)) | (refine Ze H ?_; clear H; (try clear w); intro gv w H))
          exact ⟨rfl, by (repeat (first | exact Agr.refl | exact Agr.hav | refine Agr.upd rfl ?_ | refine Agr.in rfl ?_)), s9, hs9, ⟨cs9, hS9, hC9⟩, H⟩
        · intro s1 h w E hs1; (conv => whnf); rintro _ rfl; (conv => whnf); rintro v9 ⟨cs9, hS9, hC9⟩; (conv => whnf); intro H; replace H : Holds s1 w (logW bL bp m.epoch m.home m.used m.pages false :: dsk b d :: var bl2 86 [.slice g0 d.secs.length q0, .slice g1 d.pend.length q1, .bool d.off, .int .i64 lfg, .slice g2 ng2 q2, .int .i64 ((0 : Nat) : Int), .slice pa 16 pc, .int .u32 (m.epoch : Int), .int .i64 (m.home : Int), .int .i64 (m.used : Int), .bool false] :: var bl3 78 [.int .i64 0, .int .i64 (nn : Int), .int .i64 (aa : Int), .int .i64 0, .int .u8 (x.toNat : Int), .slice none 0 0] :: ([] ++ E)) := H
          have hCm := Commit16_s (m := m) (f := 0) (l := chs) H (by rw [hG.dead]; exact hRW.mono hs1) (hSp.mono hs1) hG.ep hG.home hG.used hG.pages hS9 hC9 (by omega) (by decide) (by omega)
          rw [hcm] at hCm
          refine X.call hCm ?_
          clear H hCm
          rintro _ w ⟨s9, cs', pa', pc', rfl, hs9, hR9, hS9', H⟩
          refine ⟨_, rfl, ?_⟩
          repeat' (first | refine Z H ?_ | (refine Zc ?_ ?_ <;> intro hc <;> first | (exfalso; omega) | skip) | (refine Y ?_; try change C _ _ _ _ _ _) | (refine Zs H ?_; clear H; (try clear w); intro w H) | (refine Zn H ?_; clear H; (try clear w); (first | ((fail_if_success (have := bl1)); intro bl1 w H) | ((fail_if_success (have := bl2)); intro bl2 w H) | ((fail_if_success (have := bl3)); intro bl3 w H) | intro _ w H)) | (refine Ze H ?_; clear H; (try clear w); intro gv w H))
          exact ⟨rfl, by (repeat (first | exact Agr.refl | exact Agr.hav | refine Agr.upd rfl ?_ | refine Agr.in rfl ?_)), s9, hs9, ⟨cs', rfl, pa', pc', hR9, hS9'⟩, H⟩
        · intro s1 h w E hs1; (conv => whnf); rintro _ ⟨cs9, rfl, hG9⟩; (conv => whnf); intro H; replace H : Holds s1 w (logW bL bp m.epoch m.home m.used m.pages false :: dsk b d :: var bl2 86 [.slice g0 d.secs.length q0, .slice g1 d.pend.length q1, .bool d.off, .int .i64 lfg, .slice g2 ng2 q2, .int .i64 ((0 : Nat) : Int), .slice pa 16 pc, .int .u32 (m.epoch : Int), .int .i64 (m.home : Int), .int .i64 (m.used : Int), .bool false] :: var bl3 78 [.int .i64 0, .int .i64 (nn : Int), .int .i64 (aa : Int), .int .i64 0, .int .u8 (x.toNat : Int), .slice none 0 0] :: ([] ++ E)) := H
          repeat' (first | refine Z H ?_ | (refine Zc ?_ ?_ <;> intro hc <;> first | (exfalso; omega) | skip) | (refine Y ?_; try change C _ _ _ _ _ _) | (refine Zs H ?_; clear H; (try clear w); intro w H) | (refine Zn H ?_; clear H; (try clear w); (first | ((fail_if_success (have := bl1)); intro bl1 w H) | ((fail_if_success (have := bl2)); intro bl2 w H) | ((fail_if_success (have := bl3)); intro bl3 w H) | intro _ w H)) | (refine Ze H ?_; clear H; (try clear w); intro gv w H))
          exact ⟨rfl, by (repeat (first | exact Agr.refl | exact Agr.hav | refine Agr.upd rfl ?_ | refine Agr.in rfl ?_)), s1, Ro.Le.refl _, ⟨cs9, rfl, hG9⟩, H⟩
        · intro s1 h w E hs1; (conv => whnf); rintro _ ⟨cs9, rfl, hG9⟩; (conv => whnf); intro H; replace H : Holds s1 w (logW bL bp m.epoch m.home m.used m.pages false :: dsk b d :: var bl2 86 [.slice g0 d.secs.length q0, .slice g1 d.pend.length q1, .bool d.off, .int .i64 lfg, .slice g2 ng2 q2, .int .i64 ((0 : Nat) : Int), .slice pa 16 pc, .int .u32 (m.epoch : Int), .int .i64 (m.home : Int), .int .i64 (m.used : Int), .bool false] :: var bl3 78 [.int .i64 0, .int .i64 (nn : Int), .int .i64 (aa : Int), .int .i64 0, .int .u8 (x.toNat : Int), .slice none 0 0] :: ([] ++ E)) := H
          repeat' (first | refine Z H ?_ | (refine Zc ?_ ?_ <;> intro hc <;> first | (exfalso; omega) | skip) | (refine Y ?_; try change C _ _ _ _ _ _) | (refine Zs H ?_; clear H; (try clear w); intro w H) | (refine Zn H ?_; clear H; (try clear w); (first | ((fail_if_success (have := bl1)); intro bl1 w H) | ((fail_if_success (have := bl2)); intro bl2 w H) | ((fail_if_success (have := bl3)); intro bl3 w H) | intro _ w H)) | (refine Ze H ?_; clear H; (try clear w); intro gv w H))
          exact ⟨rfl, by (repeat (first | exact Agr.refl | exact Agr.hav | refine Agr.upd rfl ?_ | refine Agr.in rfl ?_)), s1, Ro.Le.refl _, ⟨cs9, rfl, hG9⟩, H⟩
        · intro s1 h w E hs1; (conv => whnf); rintro _ ⟨cs9, rfl, hG9⟩; (conv => whnf); intro H; replace H : Holds s1 w (logW bL bp m.epoch m.home m.used m.pages false :: dsk b d :: var bl2 86 [.slice g0 d.secs.length q0, .slice g1 d.pend.length q1, .bool d.off, .int .i64 lfg, .slice g2 ng2 q2, .int .i64 ((0 : Nat) : Int), .slice pa 16 pc, .int .u32 (m.epoch : Int), .int .i64 (m.home : Int), .int .i64 (m.used : Int), .bool false] :: var bl3 78 [.int .i64 0, .int .i64 (nn : Int), .int .i64 (aa : Int), .int .i64 0, .int .u8 (x.toNat : Int), .slice none 0 0] :: ([] ++ E)) := H
          repeat' (first | refine Z H ?_ | (refine Zc ?_ ?_ <;> intro hc <;> first | (exfalso; omega) | skip) | (refine Y ?_; try change C _ _ _ _ _ _) | (refine Zs H ?_; clear H; (try clear w); intro w H) | (refine Zn H ?_; clear H; (try clear w); (first | ((fail_if_success (have := bl1)); intro bl1 w H) | ((fail_if_success (have := bl2)); intro bl2 w H) | ((fail_if_success (have := bl3)); intro bl3 w H) | intro _ w H)) | (refine Ze H ?_; clear H; (try clear w); intro gv w H))
          exact ⟨rfl, by (repeat (first | exact Agr.refl | exact Agr.hav | refine Agr.upd rfl ?_ | refine Agr.in rfl ?_)), s1, Ro.Le.refl _, rfl, H⟩
        · intro s1 h w E hs1; (conv => whnf); intro H; replace H : Holds s1 w (logW bL bp m.epoch m.home m.used m.pages false :: dsk b d :: var bl2 86 [.slice g0 d.secs.length q0, .slice g1 d.pend.length q1, .bool d.off, .int .i64 lfg, .slice g2 ng2 q2, .int .i64 ((0 : Nat) : Int), .slice pa 16 pc, .int .u32 (m.epoch : Int), .int .i64 (m.home : Int), .int .i64 (m.used : Int), .bool false] :: var bl3 78 [.int .i64 0, .int .i64 (nn : Int), .int .i64 (aa : Int), .int .i64 0, .int .u8 (x.toNat : Int), .slice none 0 0] :: ([] ++ E)) := H
          repeat' (first | refine Z H ?_ | (refine Zc ?_ ?_ <;> intro hc <;> first | (exfalso; omega) | skip) | (refine Y ?_; try change C _ _ _ _ _ _) | (refine Zs H ?_; clear H; (try clear w); intro w H) | (refine Zn H ?_; clear H; (try clear w); (first | ((fail_if_success (have := bl1)); intro bl1 w H) | ((fail_if_success (have := bl2)); intro bl2 w H) | ((fail_if_success (have := bl3)); intro bl3 w H) | intro _ w H)) | (refine Ze H ?_; clear H; (try clear w); intro gv w H))
          exact ⟨rfl, by (repeat (first | exact Agr.refl | exact Agr.hav | refine Agr.upd rfl ?_ | refine Agr.in rfl ?_)), s1, Ro.Le.refl _, ⟨_, rfl⟩, H⟩
        · intro s1 h w E hs1; (conv => whnf)
          rintro _ ⟨b4, rfl⟩; (conv => whnf)
          rintro v1 ⟨cs9, rfl, hG9⟩; (conv => whnf)
          obtain ⟨x0, m0, y0, x1, m1, y1, bo, li, x2, m2, y2, gf, xa, xn, xc, xe, xh, xu, xd, rfl⟩ := hG9.cells
          intro H
          replace H : Holds s1 w (var b4 86 zlog16 :: logW bL bp m.epoch m.home m.used m.pages false :: dsk b d :: var bl2 86 [.slice g0 d.secs.length q0, .slice g1 d.pend.length q1, .bool d.off, .int .i64 lfg, .slice g2 ng2 q2, .int .i64 ((0 : Nat) : Int), .slice pa 16 pc, .int .u32 (m.epoch : Int), .int .i64 (m.home : Int), .int .i64 (m.used : Int), .bool false] :: var bl3 78 [.int .i64 0, .int .i64 (nn : Int), .int .i64 (aa : Int), .int .i64 0, .int .u8 (x.toNat : Int), .slice none 0 0] :: ([] ++ E)) := H
          repeat' (first | refine Z H ?_ | (refine Zc ?_ ?_ <;> intro hc <;> first | (exfalso; omega) | skip) | (refine Y ?_; try change C _ _ _ _ _ _) | (refine Zs H ?_; clear H; (try clear w); intro w H) | (refine Zn H ?_; clear H; (try clear w); (first | ((fail_if_success (have := bl1)); intro bl1 w H) | ((fail_if_success (have := bl2)); intro bl2 w H) | ((fail_if_success (have := bl3)); intro bl3 w H) | intro _ w H)) | (refine Ze H ?_; clear H; (try clear w); intro gv w H))
          exact ⟨rfl, by (repeat (first | exact Agr.refl | exact Agr.hav | refine Agr.upd rfl ?_ | refine Agr.in rfl ?_)), s1, Ro.Le.refl _, ⟨b4, rfl⟩, H⟩
      · intro s9 h w hs9; (conv => whnf)
        rintro v1 ⟨cs9, rfl, hG9⟩; (conv => whnf)
        rintro _ rfl; (conv => whnf)
        rintro _ ⟨br, rfl⟩; (conv => whnf)
        intro H
        replace H : Holds s9 w (var br 86 cs9 :: logW bL bp m.epoch m.home m.used m.pages false :: dsk b d :: var bl2 86 [.slice g0 d.secs.length q0, .slice g1 d.pend.length q1, .bool d.off, .int .i64 lfg, .slice g2 ng2 q2, .int .i64 ((0 : Nat) : Int), .slice pa 16 pc, .int .u32 (m.epoch : Int), .int .i64 (m.home : Int), .int .i64 (m.used : Int), .bool false] :: var bl3 78 [.int .i64 0, .int .i64 (nn : Int), .int .i64 (aa : Int), .int .i64 0, .int .u8 (x.toNat : Int), .slice none 0 0] :: []) := H
        change L _ _ _ _ [_] _ _
        repeat' (first | refine Z H ?_ | (refine Zc ?_ ?_ <;> intro hc <;> first | (exfalso; omega) | skip) | (refine Y ?_; try change C _ _ _ _ _ _) | (refine Zs H ?_; clear H; (try clear w); intro w H) | (refine Zn H ?_; clear H; (try clear w); (first | ((fail_if_success (have := bl1)); intro bl1 w H) | ((fail_if_success (have := bl2)); intro bl2 w H) | ((fail_if_success (have := bl3)); intro bl3 w H) | intro _ w H)) | (refine Ze H ?_; clear H; (try clear w); intro gv w H))
        refine ⟨rfl, ?_⟩
        change C _ _ _ _ _ _
        obtain ⟨pa2, pc2, hR2, hS2⟩ := hG9
        obtain ⟨r0, r1, r2⟩ := r
        dsimp only at hG2 hP2 hR2 hS2 ⊢
        rw [hG2.dead] at hR2
        have hRc := hR2
        obtain ⟨h0, k0, h1, k1, lfh, h2, nh2, k2, rfl, hD2⟩ := hRc
        repeat' (first | refine Z H ?_ | (refine Zc ?_ ?_ <;> intro hc <;> first | (exfalso; omega) | skip) | (refine Y ?_; try change C _ _ _ _ _ _) | (refine Zs H ?_; clear H; (try clear w); intro w H) | (refine Zn H ?_; clear H; (try clear w); (first | ((fail_if_success (have := bl1)); intro bl1 w H) | ((fail_if_success (have := bl2)); intro bl2 w H) | ((fail_if_success (have := bl3)); intro bl3 w H) | intro _ w H)) | (refine Ze H ?_; clear H; (try clear w); intro gv w H))
        refine X.call (Changes_s (dx := 0) (N := (nn : Int)) (At := (aa : Int)) (off := 0) (fill := x) (kv := .slice none 0 0) H (by unfold I64; omega) (by unfold I64; omega) rfl) ?_
        clear H
        rintro _ w ⟨s10, v10, cs10, rfl, hs10, hS10, hC10, H⟩
        refine ⟨_, rfl, ?_⟩
        rw [hchs] at hS10 hC10
        repeat' (first | refine Z H ?_ | (refine Zc ?_ ?_ <;> intro hc <;> first | (exfalso; omega) | skip) | (refine Y ?_; try change C _ _ _ _ _ _) | (refine Zs H ?_; clear H; (try clear w); intro w H) | (refine Zn H ?_; clear H; (try clear w); (first | ((fail_if_success (have := bl1)); intro bl1 w H) | ((fail_if_success (have := bl2)); intro bl2 w H) | ((fail_if_success (have := bl3)); intro bl3 w H) | intro _ w H)) | (refine Ze H ?_; clear H; (try clear w); intro gv w H))
        first | (have hT : Holds _ _ (dsk b _ :: _) := H; clear hT) | (replace H := H.up 1 rfl; (try simp only [List.set_cons_zero, List.set_cons_succ, List.eraseIdx_cons_zero, List.eraseIdx_cons_succ] at H); have hT : Holds _ _ (dsk b _ :: _) := H; clear hT) | (replace H := H.up 2 rfl; (try simp only [List.set_cons_zero, List.set_cons_succ, List.eraseIdx_cons_zero, List.eraseIdx_cons_succ] at H); have hT : Holds _ _ (dsk b _ :: _) := H; clear hT) | (replace H := H.up 3 rfl; (try simp only [List.set_cons_zero, List.set_cons_succ, List.eraseIdx_cons_zero, List.eraseIdx_cons_succ] at H); have hT : Holds _ _ (dsk b _ :: _) := H; clear hT) | (replace H := H.up 4 rfl; (try simp only [List.set_cons_zero, List.set_cons_succ, List.eraseIdx_cons_zero, List.eraseIdx_cons_succ] at H); have hT : Holds _ _ (dsk b _ :: _) := H; clear hT) | (replace H := H.up 5 rfl; (try simp only [List.set_cons_zero, List.set_cons_succ, List.eraseIdx_cons_zero, List.eraseIdx_cons_succ] at H); have hT : Holds _ _ (dsk b _ :: _) := H; clear hT) | (replace H := H.up 6 rfl; (try simp only [List.set_cons_zero, List.set_cons_succ, List.eraseIdx_cons_zero, List.eraseIdx_cons_succ] at H); have hT : Holds _ _ (dsk b _ :: _) := H; clear hT)
        first | (have hT : Holds _ _ (logW bL _ _ _ _ _ _ :: _) := H; clear hT) | (replace H := H.up 1 rfl; (try simp only [List.set_cons_zero, List.set_cons_succ, List.eraseIdx_cons_zero, List.eraseIdx_cons_succ] at H); have hT : Holds _ _ (logW bL _ _ _ _ _ _ :: _) := H; clear hT) | (replace H := H.up 2 rfl; (try simp only [List.set_cons_zero, List.set_cons_succ, List.eraseIdx_cons_zero, List.eraseIdx_cons_succ] at H); have hT : Holds _ _ (logW bL _ _ _ _ _ _ :: _) := H; clear hT) | (replace H := H.up 3 rfl; (try simp only [List.set_cons_zero, List.set_cons_succ, List.eraseIdx_cons_zero, List.eraseIdx_cons_succ] at H); have hT : Holds _ _ (logW bL _ _ _ _ _ _ :: _) := H; clear hT) | (replace H := H.up 4 rfl; (try simp only [List.set_cons_zero, List.set_cons_succ, List.eraseIdx_cons_zero, List.eraseIdx_cons_succ] at H); have hT : Holds _ _ (logW bL _ _ _ _ _ _ :: _) := H; clear hT) | (replace H := H.up 5 rfl; (try simp only [List.set_cons_zero, List.set_cons_succ, List.eraseIdx_cons_zero, List.eraseIdx_cons_succ] at H); have hT : Holds _ _ (logW bL _ _ _ _ _ _ :: _) := H; clear hT) | (replace H := H.up 6 rfl; (try simp only [List.set_cons_zero, List.set_cons_succ, List.eraseIdx_cons_zero, List.eraseIdx_cons_succ] at H); have hT : Holds _ _ (logW bL _ _ _ _ _ _ :: _) := H; clear hT)
        have hs8e := hs9.trans hs10
        have hCm := Commit_l (m := m) (x := (((0 : Nat) : Int), 52)) (hN.mono (hs1.trans (hs18.trans hs8e))) (by rw [hG.dead]; exact H) (hp.mono (hs18.trans hs8e)) hG.ep hG.home hG.used hG.pages hS10 hC10 (by omega) (by omega)
        rw [hcm] at hCm
        dsimp only at hCm
        rw [hG2.dead] at hCm
        (refine X.call (hCm) ?_; (try clear H); rintro _ w ⟨rfl, H⟩; refine ⟨_, rfl, ?_⟩)
        clear hCm
        repeat' (first | refine Z H ?_ | (refine Zc ?_ ?_ <;> intro hc <;> first | (exfalso; omega) | skip) | (refine Y ?_; try change C _ _ _ _ _ _) | (refine Zs H ?_; clear H; (try clear w); intro w H) | (refine Zn H ?_; clear H; (try clear w); (first | ((fail_if_success (have := bl1)); intro bl1 w H) | ((fail_if_success (have := bl2)); intro bl2 w H) | ((fail_if_success (have := bl3)); intro bl3 w H) | intro _ w H)) | (refine Ze H ?_; clear H; (try clear w); intro gv w H))
        (refine X.call (is16_s H hG2.pages (hR2.mono hs10) (hS2.mono hs10)) ?_; (try clear H); rintro _ w ⟨rfl, H⟩; refine ⟨_, rfl, ?_⟩)
        repeat' (first | refine Z H ?_ | (refine Zc ?_ ?_ <;> intro hc <;> first | (exfalso; omega) | skip) | (refine Y ?_; try change C _ _ _ _ _ _) | (refine Zs H ?_; clear H; (try clear w); intro w H) | (refine Zn H ?_; clear H; (try clear w); (first | ((fail_if_success (have := bl1)); intro bl1 w H) | ((fail_if_success (have := bl2)); intro bl2 w H) | ((fail_if_success (have := bl3)); intro bl3 w H) | intro _ w H)) | (refine Ze H ?_; clear H; (try clear w); intro gv w H))
        exact ⟨by (repeat (first | exact Agr.refl | exact Agr.hav | refine Agr.upd rfl ?_ | refine Agr.in rfl ?_)), fl.length - (i + 1), by omega, i + 1, s10, r0, r1, pa2, pc2, h0, k0, h1, k1, lfh, h2, nh2, k2, rfl, by omega, by omega, rfl, hs8.trans hs8e, hG2, by omega, hR2.mono hs10, hS2.mono hs10, H.arr⟩
    · have hoff := hG.fr.off
      repeat' (first | refine Z H ?_ | (refine Zc ?_ ?_ <;> intro hc <;> first | (exfalso; omega) | skip) | (refine Y ?_; try change C _ _ _ _ _ _) | (refine Zs H ?_; clear H; (try clear w); intro w H) | (refine Zn H ?_; clear H; (try clear w); (first | ((fail_if_success (have := bl1)); intro bl1 w H) | ((fail_if_success (have := bl2)); intro bl2 w H) | ((fail_if_success (have := bl3)); intro bl3 w H) | intro _ w H)) | (refine Ze H ?_; clear H; (try clear w); intro gv w H))
      all_goals
        first | (have hT : Holds _ _ (dsk b _ :: _) := H; clear hT) | (replace H := H.up 1 rfl; (try simp only [List.set_cons_zero, List.set_cons_succ, List.eraseIdx_cons_zero, List.eraseIdx_cons_succ] at H); have hT : Holds _ _ (dsk b _ :: _) := H; clear hT) | (replace H := H.up 2 rfl; (try simp only [List.set_cons_zero, List.set_cons_succ, List.eraseIdx_cons_zero, List.eraseIdx_cons_succ] at H); have hT : Holds _ _ (dsk b _ :: _) := H; clear hT) | (replace H := H.up 3 rfl; (try simp only [List.set_cons_zero, List.set_cons_succ, List.eraseIdx_cons_zero, List.eraseIdx_cons_succ] at H); have hT : Holds _ _ (dsk b _ :: _) := H; clear hT) | (replace H := H.up 4 rfl; (try simp only [List.set_cons_zero, List.set_cons_succ, List.eraseIdx_cons_zero, List.eraseIdx_cons_succ] at H); have hT : Holds _ _ (dsk b _ :: _) := H; clear hT) | (replace H := H.up 5 rfl; (try simp only [List.set_cons_zero, List.set_cons_succ, List.eraseIdx_cons_zero, List.eraseIdx_cons_succ] at H); have hT : Holds _ _ (dsk b _ :: _) := H; clear hT) | (replace H := H.up 6 rfl; (try simp only [List.set_cons_zero, List.set_cons_succ, List.eraseIdx_cons_zero, List.eraseIdx_cons_succ] at H); have hT : Holds _ _ (dsk b _ :: _) := H; clear hT)
        (refine X.call (On_s H) ?_; (try clear H); rintro _ w ⟨rfl, H⟩; refine ⟨_, rfl, ?_⟩)
        rw [hoff]
        repeat' (first | refine Z H ?_ | (refine Zc ?_ ?_ <;> intro hc <;> first | (exfalso; omega) | skip) | (refine Y ?_; try change C _ _ _ _ _ _) | (refine Zs H ?_; clear H; (try clear w); intro w H) | (refine Zn H ?_; clear H; (try clear w); (first | ((fail_if_success (have := bl1)); intro bl1 w H) | ((fail_if_success (have := bl2)); intro bl2 w H) | ((fail_if_success (have := bl3)); intro bl3 w H) | intro _ w H)) | (refine Ze H ?_; clear H; (try clear w); intro gv w H))
        (refine X.call (awake16 (hN.mono (hs1.trans hs18)) H) ?_; (try clear H); rintro _ w ⟨s12, rfl, hs12, H⟩; refine ⟨_, rfl, ?_⟩)
        repeat' (first | refine Z H ?_ | (refine Zc ?_ ?_ <;> intro hc <;> first | (exfalso; omega) | skip) | (refine Y ?_; try change C _ _ _ _ _ _) | (refine Zs H ?_; clear H; (try clear w); intro w H) | (refine Zn H ?_; clear H; (try clear w); (first | ((fail_if_success (have := bl1)); intro bl1 w H) | ((fail_if_success (have := bl2)); intro bl2 w H) | ((fail_if_success (have := bl3)); intro bl3 w H) | intro _ w H)) | (refine Ze H ?_; clear H; (try clear w); intro gv w H))
        exact ⟨_, resT rfl, rfl, H.done ((hs1.trans hs18).trans hs12)⟩
theorem rdg_bytes8 {P : Program} {w : World} {t e : TypeId} {v : Value} (hu : P.underlying t = some (.slice e)) (he : P.underlying e = some (.int .u8)) (hc : P.cellsOf e = 1) (h : Rdg P w t [v]) : ∃ l : List UInt8, Sl w v 1 l.length (u8s l) ∧ l.length * P.bytesOf e ≤ reachBytes := by
  obtain ⟨l, h1, h2, h3⟩ := rdg_ints hu he hc h
  have he : l.map (Value.int .u8) = u8s (l.map fun n => UInt8.ofNat n.toNat) := by
    unfold u8s
    rw [List.map_map]
    refine List.map_congr_left fun n hn => ?_
    obtain ⟨x, hx⟩ := wf_u8 (h2 n hn)
    have hxe : n = (x.toNat : Int) := by unfold u8 at hx; exact (Value.int.inj hx).2
    subst hxe
    show Value.int .u8 (x.toNat : Int) = u8 (UInt8.ofNat ((x.toNat : Int)).toNat)
    rw [Int.toNat_natCast, ofNat8]; rfl
  refine ⟨l.map fun n => UInt8.ofNat n.toNat, ?_, by rw [List.length_map]; exact h3⟩
  rw [List.length_map, ← he]
  exact h1
theorem wfull_rdg {w : World} {a : Option Addr} {n c : Nat} {z : Int} (hN : Nib (startRo w)) (g : Rdg Tryd.prog w 37 [.slice a n c]) (g' : Rdg Tryd.prog w 32 [.int .u32 z]) : Calls Tryd.prog 8 #[.slice a n c, .int .u32 z] w fun e w' => e = .returned (.bool true) ∧ Only [] w w' := by
  obtain ⟨l, h1, _⟩ := rdg_bytes8 Tryd.underlying37 Tryd.underlying5 (by kernel_rfl) g
  have h2 := SlS.start h1
  obtain ⟨va, vc, hv, _⟩ := formS h2
  cases hv
  obtain ⟨n1, e1, w1⟩ := rdg_int Tryd.underlying32 g'
  cases e1
  have hb := bounds_u32 w1
  obtain ⟨m, rfl⟩ := Int.eq_ofNat_of_zero_le hb.1
  exact (wfull_walk hN (Holds.start w) h2 (by omega)).mono fun e w' h => ⟨h.1, h.2.only⟩
end
end Go.Proofs.YtbknpbihgfphaaaDoor

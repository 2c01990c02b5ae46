/- Squeezed copy of the texts Pj. -/
import Derived.Test.YtgilmcpdpggikaaGreatDoorCPi
import Derived.Test.YtgilmcpdpggikaaGreatDoorCWv
set_option maxRecDepth 100000
set_option maxHeartbeats 1000000
set_option linter.unusedSimpArgs false
set_option linter.unusedVariables false
namespace Go.Proofs.YtgilmcpdpggikaaGreatDoor
open Go Go.RowKit Go.Own
section
variable {P : Program} {e : Env} {w : World} {s : Ro} {rs : List Asn}
theorem resTTVT' {fn : Func} {r ty k t u v : Nat} [T : RowC P ty k] {b t' : Nat} {cs : List Value} {f : List Value → List Asn} (H : Holds s w rs) (h : fn.results = #[.tmp t, .tmp u, .cell r ty, .tmp v]) (hr : e r = .pointer (some ⟨b, 0, none⟩) := by rfl) (V : PutV rs b t' cs f := by infer_instance) (hn : cs.length = k := by rfl) : ResE P fn e w (.tuple #[e t, e u, .agg cs.toArray, e v]) := fun a ha => by
 obtain ⟨i, hi, _⟩ := V.ix
 have hr' : a.tmps.getD r undef = .pointer (some ⟨b, 0, none⟩) := by rw [← hr, ← ha]; rfl
 rw [Array.getD_eq_getD_getElem?] at hr'
 have := run_cell (P := P) (ty := ty) (off := 0) H hi hn
 subst ha
 simp [results, h, hr', asAddr, this, envOf]
end
abbrev X5 : Ext := (((5 : Nat) : Int), 52)
structure PI (K : Nat) (d : DM) (m : WL) (t : TR) (hs : List Hd) : Prop where
 inv : WInv 60 5 d m
 arm : d.armed = false
 ep : m.epoch ≤ K
 ok : t.Ok
 chk : checkM t = true
 hok : HOk hs
theorem sync_ends5 {N f : Nat} {d : DM} {m : WL} {t : TR} (ht : t.Ok) (hc : checkM t = true) (h : WInv N f d m) (hf : f + 52 ≤ N) (hN : N ≤ 1000) (he : m.epoch ≠ 4294967295) : SEnds N f m t (syncM d ((f : Int), 52) m t) := sync_ends (c := 52) ht hc h hf hN (Nat.le_refl _) he
theorem PI.sync {K : Nat} {d : DM} {m : WL} {t : TR} {hs : List Hd} (h : PI K d m t hs) (hK : K < 4294967295) : (syncM d X5 m t).2.2 = 0 ∧ PI (K + 1) (syncM d X5 m t).1 (syncM d X5 m t).2.1 t hs ∧ (syncM d X5 m t).2.1.pages = flatT t := by
 have hep := h.ep
 have he : m.epoch ≠ 4294967295 := by omega
 obtain ⟨h1, h2⟩ := sync_free h.ok h.chk h.inv (by decide) h.arm he
 rcases sync_ends5 h.ok h.chk h.inv (by decide) (by decide) he with ⟨k1, k2, k3, k4⟩ | ⟨k1, _⟩
 ·have k5 : (syncM d X5 m t).2.1.epoch ≤ m.epoch + 1 := k4
  exact ⟨h1, ⟨k2, h2, by omega, h.ok, h.chk, h.hok⟩, k3⟩
 ·rw [h1] at k1; cases k1
theorem PI.start {hs : List Hd} (hh : HOk hs) : PI 1 (fmtD 5) awM TR.new hs := ⟨fmt_inv (by decide), (fmt_free (f := 5) (by decide)).2.arm, Nat.le_refl _, TR.ok_new, check_new, hh⟩
def ap1 : TR := (makeM TR.new sA 2).1
def ah1 : List Hd := (openF ap1 (List.replicate 4 Hd.zero) sA).1
def ap2 : TR := (writeF ap1 8 ah1 0 [104, 105]).1
def ah2 : List Hd := (writeF ap1 8 ah1 0 [104, 105]).2.1
def ah3 : List Hd := (closeF ah2 0).1
theorem ap1_e : (makeM TR.new sA 2).2 = 0 := by decide +kernel
theorem ap2_o : (openF ap1 (List.replicate 4 Hd.zero) sA).2 = (0, 0) := by decide +kernel
theorem ap3_w : (writeF ap1 8 ah1 0 [104, 105]).2.2 = 0 := by decide +kernel
theorem ap4_c : (chgM z640 ap2).length = 3 := by decide +kernel
theorem ap5_r : remF ap2 ah2 sA = (ap2, 172) := by decide +kernel
theorem ap6_c : (closeF ah2 0).2 = 0 := by decide +kernel
theorem ap7_r : (remF ap2 ah3 sA).2 = 0 := by decide +kernel
theorem build_b2 (x y : Int) (w : World) : (Instr.buildSlice 30 2 [(0, .int .u8 x), (1, .int .u8 y)].toArray).run Tryz.prog w = .ok (.slice (some ⟨w.heap.size, 0, none⟩) 2 2) (w.alloc (.cells [.int .u8 x, .int .u8 y].toArray 5)) := by kernel_rfl
section
variable {w : World} {s : Ro} {R : List Asn}
theorem Format_p18 {b bp : Nat} {d : DM} {x : Ext} (hN : Nib s) (H : Holds s w (dsk b d :: R)) (hp : PartS s bp b x) (hx : 52 ≤ x.2) (hpl : d.pend.length ≤ 10000) : Calls Tryz.prog 36 #[.pointer (some ⟨bp, 0, none⟩)] w fun y w' => y = .returned (.int .i64 (run x formatSteps d).2) ∧ Holds s w' (dsk b (run x formatSteps d).1 :: R) := by
 refine enter Tryz.func36 rfl Tryz.ntmps36 rfl ?_
 refine Gq8 H ?_
 (refine X.call (Format_g hN H hp hx hpl) ?_; (try clear H); rintro _ w ⟨rfl, H⟩; refine ⟨_, rfl, ?_⟩)
 refine Gq8 H ?_
 exact ⟨_, resT rfl, rfl, H⟩
theorem part18_s (hN : Nib s) (H : Holds s w R) : Calls Tryz.prog 30 #[] w fun y w' => ∃ s' b bp v, y = .returned (.tuple #[.pointer (some ⟨b, 0, none⟩), .pointer (some ⟨bp, 0, none⟩), v, .bool true]) ∧ s.Le s' ∧ PartS s' bp b X5 ∧ RefS s' v (fmtD 5) ∧ Holds s' w' (dsk b (fmtD 5) :: R) := by
 obtain ⟨hf0, hfr⟩ := fmt_free (f := 5) (by omega)
 refine enter Tryz.func30 rfl Tryz.ntmps30 rfl ?_
 (refine Gq8 H ?_; clear H; (try clear w); intro _ w H)
 refine X.call (New_r (n := 60) H (by decide) (by decide)) ?_
 clear H
 rintro _ w ⟨s1, v1, rfl, hs1, hR, H⟩
 refine ⟨_, rfl, ?_⟩
 have hRc := hR
 obtain ⟨a0, c0, a1, c1, lf, a2, n2, c2, rfl⟩ := refCellsW hRc
 (refine Gq8 H ?_; clear H; (try clear w); intro _ w H)
 (refine X.call (New_s (n := 60) H (by decide) (by decide)) ?_; (try clear H); rintro _ w ⟨b, rfl, H⟩; refine ⟨_, rfl, ?_⟩)
 repeat' (first | (refine K.build [(0, .int .i64 5), (1, .int .i64 52)] (.agg #[.int .i64 5, .int .i64 52]) (build_ext' _ _) rfl rfl rfl ?_) | refine Go8 H ?_ | (refine Gs8 H ?_; clear H; (try clear w); intro w H) | (refine Gn H ?_; clear H; (try clear w); intro _ w H))
 replace H : Holds _ _ (dsk b _ :: _) := tp H
 have hNw := New_p1 (x := X5) H (by unfold I64; simp only; omega) (by unfold liesM; simp [DM.new])
 (refine X.call (hNw) ?_; (try clear H); rintro _ w ⟨s2, bp, rfl, hs2, hp, H⟩; refine ⟨_, rfl, ?_⟩)
 clear hNw
 refine Gq8 H ?_
 replace H : Holds _ _ (dsk b _ :: _) := tp H
 have hFp := Format_p18 (hN.mono (hs1.trans hs2)) H hp (by decide) (by simp [DM.new])
 rw [hf0, show (run X5 formatSteps (DM.new 60)).1 = fmtD 5 from rfl] at hFp
 (refine X.call (hFp) ?_; (try clear H); rintro _ w ⟨rfl, H⟩; refine ⟨_, rfl, ?_⟩)
 clear hFp
 refine Gq8 H ?_
 have hFs := Format_s (f := 5) H (hR.mono hs2) (by omega) (by simp [DM.new])
 rw [hf0, show (run (((5 : Nat) : Int), 52) formatSteps (DM.new 60)).1 = fmtD 5 from rfl] at hFs
 refine X.call hFs ?_
 clear H hFs
 rintro _ w ⟨s3, v3, rfl, hs3, hR3, H⟩
 refine ⟨_, rfl, ?_⟩
 have hRc := hR3
 obtain ⟨b0, k0, b1, k1, lf2, b2, n3, k2, rfl⟩ := refCellsW hRc
 (refine Gq8 H ?_; clear H; (try clear w); intro w H)
 refine C.drawn1 [0, 0, 1, 0, 0, 0, 0, 3, 0] [0, 0, 0, 0, 8, 1, 35, 103, 255] (by kernel_rfl) ?_; replace H := H.drew
 (refine Gq8 H ?_; clear H; (try clear w); intro w H)
 exact ⟨_, resTTVT' H rfl, s3, b, bp, _, rfl, (hs1.trans hs2).trans hs3, hp.mono hs3, hR3, H.arr⟩
theorem awake18 (hN : Nib s) (H : Holds s w R) : Calls Tryz.prog 13 #[] w fun y w' => ∃ s', y = .returned (.bool true) ∧ s.Le s' ∧ Holds s' w' R := by
 have hPI := PI.start HOk.rep
 obtain ⟨hop, hon⟩ := hPI.inv.opens (by decide) (by decide)
 have h44 : (List.replicate 4 Hd.zero).length = 4 := rfl
 have o1 : ap1.Ok := ok_make TR.ok_new
 have k1 : checkM ap1 = true := check_make TR.ok_new ap1_e
 have hh1 : HOk ah1 := HOk.rep.open
 have T2 : T3 ap1 8 ap2 := T3.write o1 k1
 have hh2 : HOk ah2 := hh1.write
 have hh3 : HOk ah3 := hh2.close
 have o2 := T2.ok
 have k2 := T2.chk
 have hP2 : PI 1 (fmtD 5) awM ap2 ah2 := ⟨hPI.inv, hPI.arm, hPI.ep, o2, k2, hh2⟩
 obtain ⟨hs0, hP3, hpg⟩ := hP2.sync (by decide)
 have hcs := chg_self o2 k2
 have e4 : (chgM awM.pages ap2).length = 3 := ap4_c
 refine enter Tryz.func13 rfl Tryz.ntmps13 rfl ?_
 refine Gq8 H ?_
 refine X.call (part18_s hN H) ?_
 clear H
 rintro _ w ⟨s1, b, bp, v, rfl, hs1, hp, hR, H⟩
 refine ⟨_, rfl, ?_⟩
 obtain ⟨a0, c0, a1, c1, lf, a2, n2, c2, rfl⟩ := refCellsW hR
 (refine Gq8 H ?_; clear H; (try clear w); intro _ w H)
 replace H : Holds _ _ (dsk b _ :: _) := tp H
 have hMt := Mount_f (q := 8) (x := X5) (hN.mono hs1) H hp (by decide) hon hop hPI.inv.log.plen tree_blank TR.ok_new (by decide)
 (refine X.call (hMt) ?_; (try clear H); rintro _ w ⟨s2, bF, bL, rfl, hs2, H⟩; refine ⟨_, rfl, ?_⟩)
 clear hMt
 refine Gq8 H ?_
 have hM := Make_f (p := sA) (k := 2) H TR.ok_new h44
 rw [becM, if_pos ap1_e, ap1_e, show (makeM TR.new sA 2).1 = ap1 from rfl] at hM
 (refine X.call (hM) ?_; (try clear H); rintro _ w ⟨rfl, H⟩; refine ⟨_, rfl, ?_⟩)
 clear hM
 refine Gq8 H ?_
 have hM := Open_f (p := sA) H o1 h44
 rw [ap2_o, show (openF ap1 (List.replicate 4 Hd.zero) sA).1 = ah1 from rfl] at hM
 (refine X.call (hM) ?_; (try clear H); rintro _ w ⟨rfl, H⟩; refine ⟨_, rfl, ?_⟩)
 clear hM
 refine Gq8 H ?_
 refine K.lit [(0, .int .u8 104), (1, .int .u8 105)] 5 1 [.int .u8 104, .int .u8 105] H (build_b2 _ _) rfl rfl rfl rfl (by decide) ?_
 clear H
 intro g2 w H
 refine X.convB [104, 105] H ?_
 clear H
 intro w H
 obtain ⟨s3, hs3, H, hr1⟩ := Holds.fixBrow (l := [104, 105]) H
 refine Gq8 H ?_
 replace H : Holds _ _ (fsV bF bL _ _ _ :: _) := tp H
 have hM := Write_f (n := 0) (b := [104, 105]) H o1 k1 hh1 hr1 (by decide)
 rw [ap3_w, show (writeF ap1 8 ah1 0 [104, 105]).1 = ap2 from rfl, show (writeF ap1 8 ah1 0 [104, 105]).2.1 = ah2 from rfl] at hM
 (refine X.call (hM) ?_; (try clear H); rintro _ w ⟨rfl, H⟩; refine ⟨_, rfl, ?_⟩)
 clear hM
 refine Gq8 H ?_
 have H' := H.arr (rs' := fsV bF bL ap2 8 ah2 :: logM bL bp awM :: dsk b (fmtD 5) :: R)
 clear H
 have hM := Changed_f H' o2 k2 hPI.inv.log.plen
 clear H'
 rw [e4] at hM
 (refine X.call (hM) ?_; (try clear H); rintro _ w ⟨s4, rfl, hs4, H⟩; refine ⟨_, rfl, ?_⟩)
 clear hM
 refine Gq8 H ?_
 have hle4 := ((hs1.trans hs2).trans hs3).trans hs4
 have hM := Sync_f (x := X5) (hN.mono hle4) H o2 k2 (hp.mono ((hs2.trans hs3).trans hs4)) hPI.inv.log.ep hPI.inv.log.home hPI.inv.log.used hPI.inv.log.plen (by rw [hPI.inv.pend]; decide)
 rw [hs0] at hM
 generalize syncM (fmtD 5) X5 awM ap2 = r at *
 obtain ⟨d2, m2, code⟩ := r
 dsimp only at hM hs0 hP3 hpg
 (refine X.call (hM) ?_; (try clear H); rintro _ w ⟨s5, rfl, hs5, H⟩; refine ⟨_, rfl, ?_⟩)
 clear hM
 refine Gq8 H ?_
 have hM := Changed_f H o2 k2 hP3.inv.log.plen
 rw [show (chgM m2.pages ap2).length = 0 by rw [hpg, hcs]; rfl] at hM
 (refine X.call (hM) ?_; (try clear H); rintro _ w ⟨s6, rfl, hs6, H⟩; refine ⟨_, rfl, ?_⟩)
 clear hM
 refine Gq8 H ?_
 have hM := Remove_f (p := sA) H o2 hh2.1
 rw [ap5_r] at hM
 (refine X.call (hM) ?_; (try clear H); rintro _ w ⟨rfl, H⟩; refine ⟨_, rfl, ?_⟩)
 clear hM
 refine Gq8 H ?_
 have hM := Close_f (n := 0) H o2 hh2.1
 rw [ap6_c, show (closeF ah2 0).1 = ah3 from rfl] at hM
 (refine X.call (hM) ?_; (try clear H); rintro _ w ⟨rfl, H⟩; refine ⟨_, rfl, ?_⟩)
 clear hM
 refine Gq8 H ?_
 have hM := Remove_f (p := sA) H o2 hh3.1
 rw [ap7_r] at hM
 (refine X.call (hM) ?_; (try clear H); rintro _ w ⟨rfl, H⟩; refine ⟨_, rfl, ?_⟩)
 clear hM
 refine Gq8 H ?_
 exact ⟨_, resT rfl, s6, rfl, (hle4.trans hs5).trans hs6, H.arr⟩
end
end Go.Proofs.YtgilmcpdpggikaaGreatDoor

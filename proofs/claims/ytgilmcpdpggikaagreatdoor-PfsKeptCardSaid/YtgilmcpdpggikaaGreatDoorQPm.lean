/- Squeezed copy of the texts Pm. -/
import Derived.Test.YtgilmcpdpggikaaGreatDoorQPk
set_option maxRecDepth 100000
set_option maxHeartbeats 1000000
set_option linter.unusedSimpArgs false
set_option linter.unusedVariables false
namespace Go.Proofs.YtgilmcpdpggikaaGreatDoor
open Go Go.RowKit Go.Own
open Go.ChangeShapes Go.WideShapes Go.ChangeAt
theorem sync_idle {d : DM} {x : Ext} {m : WL} {t : TR} (ht : t.Ok) (hc : checkM t = true) (hp : m.pages = flatT t) (hd : m.dead = false) : syncM d x m t = (d, m, 0) := by
 unfold syncM
 rw [hp, chg_self ht hc]
 simp [hd]
section
variable {w : World} {s : Ro} {R : List Asn}
theorem kept_walk {l : List A18} {most : Int} {va : Option Addr} {vc : Nat} (hN : Nib s) (H : Holds s w []) (hl : SlS s (.slice va l.length vc) 7 l.length (l.flatMap A18.cells)) (hok : ∀ a ∈ l, a.Ok s) : Calls Tryz.prog 6 #[.slice va l.length vc, .int .i64 most] w fun e w' => e = .returned (.bool true) ∧ Fin s w' := by
 have hq := quotaM_in most
 have h44 : (List.replicate 4 Hd.zero).length = 4 := rfl
 refine enter Tryz.func6 rfl Tryz.ntmps6 rfl ?_
 refine Gq7 H ?_
 (refine X.call (played_w (most := 8) hN H hl hok) ?_; (try clear H); rintro _ w ⟨s1, b, bp, bF, bL, d, m, t, hs, rfl, hs1, hp, hPI, H⟩; refine ⟨_, rfl, ?_⟩)
 rw [show quotaM 8 = 8 from rfl] at H
 have ht := hPI.ok
 have hct := hPI.chk
 have h4 := hPI.hok.1
 refine Gq7 H ?_
 obtain ⟨hs0, hP2, hpg⟩ := hPI.sync (by decide)
 have hM := Sync_f (x := X5) (hN.mono hs1) H ht hct hp hPI.inv.log.ep hPI.inv.log.home hPI.inv.log.used hPI.inv.log.plen (by rw [hPI.inv.pend]; decide)
 rw [hs0] at hM
 generalize syncM d X5 m t = r at *
 obtain ⟨d2, m2, code⟩ := r
 dsimp only at hM hs0 hP2 hpg
 (refine X.call (hM) ?_; (try clear H); rintro _ w ⟨s2, rfl, hs2, H⟩; refine ⟨_, rfl, ?_⟩)
 clear hM hPI
 have hcs := chg_self ht hct
 have hid := sync_idle (d := d2) (x := X5) ht hct hpg hP2.inv.log.dead
 have hpl := hP2.inv.log.plen
 refine Gq7 H ?_
 have hM := Changed_f H ht hct hpl
 have hc0 : (chgM m2.pages t).length = 0 := by rw [hpg, hcs]; rfl
 rw [hc0] at hM
 (refine X.call (hM) ?_; (try clear H); rintro _ w ⟨s3, rfl, hs3, H⟩; refine ⟨_, rfl, ?_⟩)
 clear hM
 have hle3 := (hs1.trans hs2).trans hs3
 refine Gq7 H ?_
 replace H : Holds _ _ (dsk b _ :: _) := tp H
 (refine X.call (Image_s H) ?_; (try clear H); rintro _ w ⟨t1, a1, c1, rfl, H⟩; refine ⟨_, rfl, ?_⟩)
 refine Gq7 H ?_
 have H' : Holds s3 w (fsV bF bL t 8 hs :: logM bL bp m2 :: dsk b d2 :: []) := H.arr
 clear H
 have H := H'
 clear H'
 have hM := Sync_f (x := X5) (hN.mono hle3) H ht hct (hp.mono (hs2.trans hs3)) hP2.inv.log.ep hP2.inv.log.home hP2.inv.log.used hP2.inv.log.plen (by rw [hP2.inv.pend]; decide)
 rw [hid] at hM
 dsimp only at hM
 (refine X.call (hM) ?_; (try clear H); rintro _ w ⟨s4, rfl, hs4, H⟩; refine ⟨_, rfl, ?_⟩)
 clear hM
 have hpl0 : d2.pend.length = 0 := by rw [hP2.inv.pend]; rfl
 refine Gq7 H ?_
 replace H : Holds _ _ (dsk b _ :: _) := tp H
 (refine X.call (Image_s H) ?_; (try clear H); rintro _ w ⟨t2, a2, c2, rfl, H⟩; refine ⟨_, rfl, ?_⟩)
 refine Gq7 H ?_
 replace H : Holds _ _ (dsk b _ :: _) := tp H
 (refine X.call (Waiting_s H (by omega)) ?_; (try clear H); rintro _ w ⟨a3, c3, rfl, H⟩; refine ⟨_, rfl, ?_⟩)
 have H' : Holds s4 w (dsk b d2 :: fsV bF bL t 8 hs :: logM bL bp m2 :: []) := H.arr
 clear H
 have H := H'
 clear H'
 refine Gq7 H ?_
 (refine X.call (quota_s (n := most) H) ?_; (try clear H); rintro _ w ⟨rfl, H⟩; refine ⟨_, rfl, ?_⟩)
 refine Gq7 H ?_
 obtain ⟨hop, hon⟩ := hP2.inv.opens (by decide) (by decide)
 have hle4 := hle3.trans hs4
 have hMt := Mount_f (q := quotaM most) (x := X5) (hN.mono hle4) H (hp.mono ((hs2.trans hs3).trans hs4)) (by decide) hon hop hP2.inv.log.plen (by rw [hpg]; exact tree_flat ht hct) ht hq
 (refine X.call (hMt) ?_; (try clear H); rintro _ w ⟨s5, bF2, bL2, rfl, hs5, H⟩; refine ⟨_, rfl, ?_⟩)
 clear hMt hon hop
 refine Gq7 H ?_
 (refine X.call (Tree_f H ht h44) ?_; (try clear H); rintro _ w ⟨rfl, H⟩; refine ⟨_, rfl, ?_⟩)
 refine Gq7 H ?_
 have H' : Holds s5 w (fsV bF bL t 8 hs :: fsV bF2 bL2 t (quotaM most) (List.replicate 4 Hd.zero) :: logM bL2 bp m2 :: []) := H.arr
 clear H
 (refine X.call (Tree_f H' ht h4) ?_; (try clear H); rintro _ w ⟨rfl, H⟩; refine ⟨_, rfl, ?_⟩)
 clear H'
 repeat' (first | (refine X.eqA (eq_tree 9995 ht ht) guard_tree ?_; rw [decide_eq_true rfl]) | refine Go7 H ?_ | (refine Gs7 H ?_; clear H; (try clear w); intro w H) | (refine Gn H ?_; clear H; (try clear w); intro _ w H))
 have H' : Holds s5 w (fsV bF2 bL2 t (quotaM most) (List.replicate 4 Hd.zero) :: logM bL2 bp m2 :: []) := H.arr
 clear H
 have hM := Changed_f H' ht hct hpl
 clear H'
 rw [hc0] at hM
 (refine X.call (hM) ?_; (try clear H); rintro _ w ⟨s6, rfl, hs6, H⟩; refine ⟨_, rfl, ?_⟩)
 clear hM
 refine Gq7 H ?_
 (refine X.call (awake18 (hN.mono ((hle4.trans hs5).trans hs6)) H) ?_; (try clear H); rintro _ w ⟨s7, rfl, hs7, H⟩; refine ⟨_, rfl, ?_⟩)
 refine Gq7 H ?_
 exact ⟨_, resT rfl, rfl, H.done (((hle4.trans hs5).trans hs6).trans hs7)⟩
theorem kept_rdg {w : World} {a : Option Addr} {n c : Nat} {z : Int} (hN : Nib (startRo w)) (g : Rdg Tryz.prog w 22 [.slice a n c]) (_ : Rdg Tryz.prog w 3 [.int .i64 z]) : Calls Tryz.prog 6 #[.slice a n c, .int .i64 z] w fun e w' => e = .returned (.bool true) ∧ Only [] w w' := by
 obtain ⟨l, h1, h2⟩ := acts18_of g
 obtain ⟨va, vc, hv, _⟩ := formS h1
 cases hv
 exact (kept_walk hN (Holds.start w) h1 h2).mono fun e w' h => ⟨h.1, h.2.only⟩
end
end Go.Proofs.YtgilmcpdpggikaaGreatDoor

/- Squeezed copy of the texts Pl. -/
import Derived.Test.YtgilmcpdpggikaaGreatDoorQPk
set_option maxRecDepth 100000
set_option maxHeartbeats 1000000
set_option linter.unusedSimpArgs false
set_option linter.unusedVariables false
namespace Go.Proofs.YtgilmcpdpggikaaGreatDoor
open Go Go.RowKit Go.Own
open Go.ChangeShapes Go.WideShapes Go.ChangeAt
theorem PI.mono {K L : Nat} {d : DM} {m : WL} {t : TR} {hs : List Hd} (h : PI K d m t hs) (hk : K ≤ L) : PI L d m t hs := ⟨h.inv, h.arm, Nat.le_trans h.ep hk, h.ok, h.chk, h.hok⟩
section
variable {w : World} {s : Ro} {R : List Asn}
theorem quota_walk {l l2 : List A18} {most : Int} {va va2 : Option Addr} {vc vc2 : Nat} (hN : Nib s) (H : Holds s w []) (hl : SlS s (.slice va l.length vc) 7 l.length (l.flatMap A18.cells)) (hok : ∀ a ∈ l, a.Ok s) (hl2 : SlS s (.slice va2 l2.length vc2) 7 l2.length (l2.flatMap A18.cells)) (hok2 : ∀ a ∈ l2, a.Ok s) : Calls Tryz.prog 5 #[.slice va l.length vc, .int .i64 most, .slice va2 l2.length vc2] w fun e w' => e = .returned (.bool true) ∧ Fin s w' := by
 have hq := quotaM_in most
 have h44 : (List.replicate 4 Hd.zero).length = 4 := rfl
 refine enter Tryz.func5 rfl Tryz.ntmps5 rfl ?_
 refine Gq7 H ?_
 (refine X.call (played_w (most := 8) hN H hl hok) ?_; (try clear H); rintro _ w ⟨s1, b, bp, bF, bL, d, m, t, hs, rfl, hs1, hp, hPI, H⟩; refine ⟨_, rfl, ?_⟩)
 rw [show quotaM 8 = 8 from rfl] at H
 have ht := hPI.ok
 have hct := hPI.chk
 refine Gq7 H ?_
 obtain ⟨hs0, hP2, hpg⟩ := hPI.sync (by decide)
 have hM := Sync_f (x := X5) (hN.mono hs1) H ht hct hp hPI.inv.log.ep hPI.inv.log.home hPI.inv.log.used hPI.inv.log.plen (by rw [hPI.inv.pend]; decide)
 rw [hs0] at hM
 generalize syncM d X5 m t = r at *
 obtain ⟨d2, m2, code⟩ := r
 dsimp only at hM hs0 hP2 hpg
 (refine X.call (hM) ?_; (try clear H); rintro _ w ⟨s2, rfl, hs2, H⟩; refine ⟨_, rfl, ?_⟩)
 clear hM
 refine Gq7 H ?_
 (refine X.call (quota_s (n := most) H) ?_; (try clear H); rintro _ w ⟨rfl, H⟩; refine ⟨_, rfl, ?_⟩)
 refine Gq7 H ?_
 obtain ⟨hop, hon⟩ := hP2.inv.opens (by decide) (by decide)
 replace H : Holds _ _ (dsk b _ :: _) := tp H
 have hMt := Mount_f (q := quotaM most) (x := X5) (hN.mono (hs1.trans hs2)) H (hp.mono hs2) (by decide) hon hop hP2.inv.log.plen (by rw [hpg]; exact tree_flat ht hct) ht hq
 (refine X.call (hMt) ?_; (try clear H); rintro _ w ⟨s3, bF2, bL2, rfl, hs3, H⟩; refine ⟨_, rfl, ?_⟩)
 clear hMt hon hop
 have H' : Holds s3 w (fsV bF2 bL2 t (quotaM most) (List.replicate 4 Hd.zero) :: logM bL2 bp m2 :: dsk b d2 :: []) := H.arr
 clear H
 have H := H'
 clear H'
 have hP3 : PI 32 d2 m2 t (List.replicate 4 Hd.zero) := ⟨hP2.inv, hP2.arm, hP2.ep, ht, hct, HOk.rep⟩
 have hle3 := (hs1.trans hs2).trans hs3
 have hle13 := hs2.trans hs3
 have hut : (usedM t : Int) = usedN t := by rw [usedM, if_neg (by simp [hct])]
 refine Gq7 H ?_
 (refine X.call (Tree_f H ht h44) ?_; (try clear H); rintro _ w ⟨rfl, H⟩; refine ⟨_, rfl, ?_⟩)
 refine Gq7 H ?_
 have hU := Used_s H ht
 rw [hut] at hU
 (refine X.call (hU) ?_; (try clear H); rintro _ w ⟨rfl, H⟩; refine ⟨_, rfl, ?_⟩)
 clear hU
 repeat' (first | (refine X.ldF H ?_) | (refine X.stF H ?_; clear H; (try clear w); intro w H) | (refine X.ldFq H ?_) | (refine X.lenL ?_) | (refine X.lv H ?_) | (refine X.lp H ?_) | (refine X.ldT H ?_) | (refine X.stT H ?_; clear H; (try clear w); intro w H) | (refine K.build [] _ build_tree0 rfl rfl rfl ?_) | (refine X.eqL ?_ ?_ <;> intro hc <;> first | (exfalso; first | exact absurd hc (by assumption) | exact absurd (by assumption) hc) | skip) | ((fail_if_success (with_reducible show C _ _ _ (Code.seq (Code.seq (Code.region 8 _ _) _) _) _ _)); refine Z H ?_) | (refine Zc ?_ ?_ <;> intro hc <;> first | (exfalso; omega) | skip) | (refine Y ?_; try change C _ _ _ _ _ _) | (refine Zs H ?_; clear H; (try clear w); intro w H) | (refine Zn H ?_; clear H; (try clear w); intro _ w H) | (refine Ze H ?_; clear H; (try clear w); intro gv w H))
 refine C.cut [12, 39, 40, 41, 42, 43, 44] [12] rfl (fun vs w => ∃ B : Int, vs = [.int .i64 B] ∧ (usedN t : Int) ≤ B ∧ quotaM most ≤ B ∧ Holds s3 w (fsV bF2 bL2 t (quotaM most) (List.replicate 4 Hd.zero) :: logM bL2 bp m2 :: dsk b d2 :: [])) ?_ ?_
 ·refine Gq7 H ?_
  (refine X.call (quota_s (n := most) H) ?_; (try clear H); rintro _ w ⟨rfl, H⟩; refine ⟨_, rfl, ?_⟩)
  by_cases hlt : (usedN t : Int) < quotaM most
  ·refine Gq7 H ?_
   (refine X.call (quota_s (n := most) H) ?_; (try clear H); rintro _ w ⟨rfl, H⟩; refine ⟨_, rfl, ?_⟩)
   refine Gq7 H ?_
   exact ⟨agr, _, rfl, by omega, by omega, H⟩
  ·refine Gq7 H ?_
   exact ⟨agr, _, rfl, by omega, by omega, H⟩
 clear H
 rintro vs hv w ⟨B, rfl, hB1, hB2, H⟩
 clear hP2 hPI hpg hs0
 generalize quotaM most = q at *
 generalize List.replicate 4 Hd.zero = hs00 at *
 refine Gq7 H ?_
 refine C.loopS [6, 13, 45, 46, 47, 48, 49, 50, 51, 52, 53, 54, 55, 56, 57, 58, 59, 60, 61, 62, 63, 64, 65] [13] rfl (fun k vs w => ∃ (i : Nat) (s' : Ro) (d : DM) (m : WL) (u : TR) (hs : List Hd), k = 30 - i ∧ i ≤ 30 ∧ i ≤ l2.length ∧ vs = [.int .i64 (i : Int)] ∧ s3.Le s' ∧ PI (32 + i) d m u hs ∧ (usedN u : Int) ≤ B ∧ Holds s' w (fsV bF2 bL2 u q hs :: logM bL2 bp m :: dsk b d :: [])) 30 ⟨0, s3, d2, m2, t, hs00, rfl, by omega, Nat.zero_le _, rfl, Ro.Le.refl _, hP3, hB1, H⟩ ?_
 clear H hP3 ht hct hut hB1
 rintro k vs hv2 w ⟨i, s4, d, m, u, hs, rfl, hi, hil, rfl, hs4, hPI, hBu, H⟩
 by_cases hl1 : i < l2.length
 rotate_left
 ·refine Gq7 H ?_
  (refine X.call (awake18 (hN.mono (hle3.trans hs4)) H) ?_; (try clear H); rintro _ w ⟨s5, rfl, hs5, H⟩; refine ⟨_, rfl, ?_⟩)
  refine Gq7 H ?_
  exact ⟨_, resT rfl, rfl, H.done ((hle3.trans hs4).trans hs5)⟩
 by_cases hlt2 : i < 30
 rotate_left
 ·refine Gq7 H ?_
  (refine X.call (awake18 (hN.mono (hle3.trans hs4)) H) ?_; (try clear H); rintro _ w ⟨s5, rfl, hs5, H⟩; refine ⟨_, rfl, ?_⟩)
  refine Gq7 H ?_
  exact ⟨_, resT rfl, rfl, H.done ((hle3.trans hs4).trans hs5)⟩
 obtain ⟨g1, o1, k1, e1, _, _, hp1⟩ := elemS (hl2.mono (hle3.trans hs4)) (fun _ _ => rfl) (by decide) (by omega)
 cases e1
 have q1 : ∀ j v, ([.int .i64 l2[i].k, .string ⟨l2[i].path.toArray⟩, .string ⟨l2[i].dst.toArray⟩, .int .i64 l2[i].n, .int .i64 l2[i].h, .slice l2[i].a l2[i].data.length l2[i].c, l2[i].kv] : List Value)[j]? = some v → Pin s4 g1 (o1 + i * 7 + j) v := hp1 i hl1
 have ha := (hok2 l2[i] (List.getElem_mem _)).mono (hle3.trans hs4)
 generalize l2[i] = a at *
 refine Gq7 H ?_
 have hW := run_w (x := X5) (a := a) (hN.mono (hle3.trans hs4)) H hPI.ok hPI.chk hPI.hok (hp.mono (hle13.trans hs4)) hPI.inv.log.ep hPI.inv.log.home hPI.inv.log.used hPI.inv.log.plen (by rw [hPI.inv.pend]; decide) ha
 (refine X.call (hW) ?_; (try clear H); rintro _ w ⟨s5, d3, m3, u3, hs3', rfl, hs5, hSt, H⟩; refine ⟨_, rfl, ?_⟩)
 clear hW
 have hPI2 := hPI.step (by omega) hSt
 have hu3 := hPI2.ok
 have h43 := hPI2.hok.1
 have hus := hSt.tr.used
 have hut : (usedM u3 : Int) = usedN u3 := by rw [usedM, if_neg (by simp [hPI2.chk])]
 refine Gq7 H ?_
 (refine X.call (Tree_f H hu3 h43) ?_; (try clear H); rintro _ w ⟨rfl, H⟩; refine ⟨_, rfl, ?_⟩)
 refine Gq7 H ?_
 have hU := Used_s H hu3
 rw [hut] at hU
 (refine X.call (hU) ?_; (try clear H); rintro _ w ⟨rfl, H⟩; refine ⟨_, rfl, ?_⟩)
 clear hU
 refine Gq7 H ?_
 exact ⟨agr, 30 - (i + 1), by omega, i + 1, s5, d3, m3, u3, hs3', rfl, by omega, by omega, rfl, hs4.trans hs5, hPI2.mono (by omega), by omega, H⟩
theorem quota_rdg {w : World} {a a2 : Option Addr} {n n2 c c2 : Nat} {z : Int} (hN : Nib (startRo w)) (g : Rdg Tryz.prog w 22 [.slice a n c]) (_ : Rdg Tryz.prog w 3 [.int .i64 z]) (g2 : Rdg Tryz.prog w 22 [.slice a2 n2 c2]) : Calls Tryz.prog 5 #[.slice a n c, .int .i64 z, .slice a2 n2 c2] w fun e w' => e = .returned (.bool true) ∧ Only [] w w' := by
 obtain ⟨l, h1, h2⟩ := acts18_of g
 obtain ⟨va, vc, hv, _⟩ := formS h1
 cases hv
 obtain ⟨l2, k1, k2⟩ := acts18_of g2
 obtain ⟨va, vc, hv, _⟩ := formS k1
 cases hv
 exact (quota_walk hN (Holds.start w) h1 h2 k1 k2).mono fun e w' h => ⟨h.1, h.2.only⟩
end
end Go.Proofs.YtgilmcpdpggikaaGreatDoor

/- Squeezed copy of the texts Po. -/
import Derived.Test.YtgilmcpdpggikaaGreatDoorCPk
import Derived.Test.YtgilmcpdpggikaaGreatDoorCPoa
set_option maxRecDepth 100000
set_option maxHeartbeats 1000000
set_option linter.unusedSimpArgs false
set_option linter.unusedVariables false
namespace Go.Proofs.YtgilmcpdpggikaaGreatDoor
open Go Go.RowKit Go.Own
open Go.ChangeShapes Go.WideShapes Go.ChangeAt
structure CI (K : Nat) (d : DM) (m : WL) (t : TR) (hs : List Hd) (S : TR) : Prop where
 inv : WInv 60 5 d m
 ep : m.epoch ≤ K
 ok : t.Ok
 chk : checkM t = true
 hok : HOk hs
 sok : S.Ok
 schk : checkM S = true
 tree : treeOf m.pages = (S, 0)
theorem CI.mono {K L : Nat} {d : DM} {m : WL} {t S : TR} {hs : List Hd} (h : CI K d m t hs S) (hk : K ≤ L) : CI L d m t hs S := ⟨h.inv, Nat.le_trans h.ep hk, h.ok, h.chk, h.hok, h.sok, h.schk, h.tree⟩
theorem CI.again {K : Nat} {d d' : DM} {m : WL} {t S : TR} {hs : List Hd} (h : CI K d m t hs S) (hi : WInv 60 5 d' m) : CI K d' m S (List.replicate 4 Hd.zero) S := ⟨hi, h.ep, h.sok, h.schk, HOk.rep, h.sok, h.schk, h.tree⟩
section
variable {w : World} {s : Ro} {R : List Asn} {bF bL : Nat} {t : TR} {q : Int} {hs : List Hd}
theorem crashes_walk {l : List A18} {va : Option Addr} {vc : Nat} (hN : Nib s) (H : Holds s w []) (hl : SlS s (.slice va l.length vc) 7 l.length (l.flatMap A18.cells)) (hok : ∀ a ∈ l, a.Ok s) : Calls Tryz.prog 7 #[.slice va l.length vc] w fun e w' => e = .returned (.bool true) ∧ Fin s w' := by
 have hz := TR.ok_zero
 have h44 : (List.replicate 4 Hd.zero).length = 4 := rfl
 have hPI := PI.start HOk.rep
 obtain ⟨hop, hon⟩ := hPI.inv.opens (by decide) (by decide)
 have hC0 : CI 1 (fmtD 5) awM TR.new (List.replicate 4 Hd.zero) TR.new := ⟨hPI.inv, hPI.ep, TR.ok_new, check_new, HOk.rep, TR.ok_new, check_new, tree_blank⟩
 refine enter Tryz.func7 rfl Tryz.ntmps7 rfl ?_
 refine Gq7 H ?_
 refine X.call (part18_s hN H) ?_
 clear H
 rintro _ w ⟨s1, b, bp, v, rfl, hs1, hp, hR, H⟩
 refine ⟨_, rfl, ?_⟩
 obtain ⟨a0, c0, a1, c1, lf, a2, n2, c2, rfl⟩ := refCellsW hR
 repeat' (first | (refine X.ldF H ?_) | (refine X.stF H ?_; clear H; (try clear w); intro w H) | (refine X.ldFq H ?_) | (refine X.lenL ?_) | (refine X.lv H ?_) | (refine X.lp H ?_) | (refine X.ldT H ?_) | (refine X.stT H ?_; clear H; (try clear w); intro w H) | (refine K.build [] _ build_tree0 rfl rfl rfl ?_) | (refine X.eqL ?_ ?_ <;> intro hc <;> first | (exfalso; first | exact absurd hc (by assumption) | exact absurd (by assumption) hc) | skip) | refine Z H ?_ | (refine Zc ?_ ?_ <;> intro hc <;> first | (exfalso; omega) | skip) | (refine Y ?_; try change C _ _ _ _ _ _) | (refine Zs H ?_; clear H; (try clear w); intro w H) | (refine Zn H ?_; clear H; (try clear w); (first | ((fail_if_success (have := bl1)); intro bl1 w H) | ((fail_if_success (have := bl2)); intro bl2 w H) | ((fail_if_success (have := bl3)); intro bl3 w H) | ((fail_if_success (have := bl4)); intro bl4 w H) | intro _ w H)) | (refine Ze H ?_; clear H; (try clear w); intro gv w H))
 replace H : Holds _ _ (dsk b _ :: _) := tp H
 have hMt := Mount_f (q := 8) (x := X5) (hN.mono hs1) H hp (by decide) hon hop hPI.inv.log.plen tree_blank TR.ok_new (by decide)
 (refine X.call (hMt) ?_; (try clear H); rintro _ w ⟨s2, bF0, bL0, rfl, hs2, H⟩; refine ⟨_, rfl, ?_⟩)
 clear hMt hop hon hPI
 repeat' (first | (refine X.ldF H ?_) | (refine X.stF H ?_; clear H; (try clear w); intro w H) | (refine X.ldFq H ?_) | (refine X.lenL ?_) | (refine X.lv H ?_) | (refine X.lp H ?_) | (refine X.ldT H ?_) | (refine X.stT H ?_; clear H; (try clear w); intro w H) | (refine K.build [] _ build_tree0 rfl rfl rfl ?_) | (refine X.eqL ?_ ?_ <;> intro hc <;> first | (exfalso; first | exact absurd hc (by assumption) | exact absurd (by assumption) hc) | skip) | refine Z H ?_ | (refine Zc ?_ ?_ <;> intro hc <;> first | (exfalso; omega) | skip) | (refine Y ?_; try change C _ _ _ _ _ _) | (refine Zs H ?_; clear H; (try clear w); intro w H) | (refine Zn H ?_; clear H; (try clear w); (first | ((fail_if_success (have := bl1)); intro bl1 w H) | ((fail_if_success (have := bl2)); intro bl2 w H) | ((fail_if_success (have := bl3)); intro bl3 w H) | ((fail_if_success (have := bl4)); intro bl4 w H) | intro _ w H)) | (refine Ze H ?_; clear H; (try clear w); intro gv w H))
 (refine X.call (Tree_f H TR.ok_new h44) ?_; (try clear H); rintro _ w ⟨rfl, H⟩; refine ⟨_, rfl, ?_⟩)
 have hnew := TR.ok_new
 repeat' (first | (refine X.ldF H ?_) | (refine X.stF H ?_; clear H; (try clear w); intro w H) | (refine X.ldFq H ?_) | (refine X.lenL ?_) | (refine X.lv H ?_) | (refine X.lp H ?_) | (refine X.ldT H ?_) | (refine X.stT H ?_; clear H; (try clear w); intro w H) | (refine K.build [] _ build_tree0 rfl rfl rfl ?_) | (refine X.eqL ?_ ?_ <;> intro hc <;> first | (exfalso; first | exact absurd hc (by assumption) | exact absurd (by assumption) hc) | skip) | refine Z H ?_ | (refine Zc ?_ ?_ <;> intro hc <;> first | (exfalso; omega) | skip) | (refine Y ?_; try change C _ _ _ _ _ _) | (refine Zs H ?_; clear H; (try clear w); intro w H) | (refine Zn H ?_; clear H; (try clear w); (first | ((fail_if_success (have := bl1)); intro bl1 w H) | ((fail_if_success (have := bl2)); intro bl2 w H) | ((fail_if_success (have := bl3)); intro bl3 w H) | ((fail_if_success (have := bl4)); intro bl4 w H) | intro _ w H)) | (refine Ze H ?_; clear H; (try clear w); intro gv w H))
 have H' := H.arr (rs' := fsV bF0 bL0 TR.new 8 (List.replicate 4 Hd.zero) :: logM bL0 bp awM :: dsk b (fmtD 5) :: var bl2 41 TR.new.cells :: [])
 clear H
 have hle2 := hs1.trans hs2
 replace hp := hp.mono hs2
 clear hR hnew
 generalize fmtD 5 = d0 at *
 generalize awM = m0 at *
 generalize TR.new = t0 at *
 generalize List.replicate 4 Hd.zero = hz0 at *
 clear h44
 have h44 : (List.replicate 4 Hd.zero).length = 4 := rfl
 refine C.loopS [2, 7, 10, 11, 12, 13, 14, 15, 16, 17, 35, 36, 37, 38, 39, 40, 41, 42, 43, 44, 45, 46, 47, 48, 49, 50, 51, 52, 53, 54, 55, 56, 57, 58, 59, 60, 61, 62, 63, 64, 65, 66, 67, 68, 69, 70, 71, 72, 73, 74, 75, 76, 77, 78, 79, 80, 81, 82, 83, 84, 85, 86, 87, 88, 89, 90, 91, 92, 93, 94, 95, 96, 97, 98, 99, 100, 101, 102, 103, 104, 105, 106, 107, 108, 109, 110, 111, 112, 113, 114, 115, 116, 117, 118, 119, 120, 121, 122, 123, 124, 125, 126, 127, 128, 129, 130, 131, 132, 133] [7, 10] rfl (fun k vs w => ∃ (i : Nat) (s' : Ro) (bF bL : Nat) (d : DM) (m : WL) (t : TR) (hs : List Hd) (S : TR), k = 40 - i ∧ i ≤ 40 ∧ i ≤ l.length ∧ vs = [.pointer (some ⟨bF, 0, none⟩), .int .i64 (i : Int)] ∧ s2.Le s' ∧ CI (1 + i) d m t hs S ∧ Holds s' w (fsV bF bL t 8 hs :: logM bL bp m :: dsk b d :: var bl2 41 S.cells :: [])) 40 ⟨0, s2, bF0, bL0, d0, m0, t0, hz0, t0, rfl, by omega, Nat.zero_le _, rfl, Ro.Le.refl _, hC0, H'⟩ ?_
 clear H' hC0
 rintro k vs hv w ⟨i, s3, bF, bL, d, m, t, hs, S, rfl, hi, hil, rfl, hs3, hCI, H⟩
 have hle3 := hle2.trans hs3
 have hN3 := hN.mono hle3
 have ht := hCI.ok
 have hct := hCI.chk
 have hh := hCI.hok
 have h4 := hh.1
 have hSo := hCI.sok
 by_cases hl1 : i < l.length
 rotate_left
 ·refine Gq7 H ?_
  (refine X.call (awake18 hN3 H) ?_; (try clear H); rintro _ w ⟨s5, rfl, hs5, H⟩; refine ⟨_, rfl, ?_⟩)
  refine Gq7 H ?_
  exact ⟨_, resT rfl, rfl, H.done (hle3.trans hs5)⟩
 by_cases hl2 : i < 40
 rotate_left
 ·refine Gq7 H ?_
  (refine X.call (awake18 hN3 H) ?_; (try clear H); rintro _ w ⟨s5, rfl, hs5, H⟩; refine ⟨_, rfl, ?_⟩)
  refine Gq7 H ?_
  exact ⟨_, resT rfl, rfl, H.done (hle3.trans hs5)⟩
 obtain ⟨g1, o1, k1, e1, _, _, hp1⟩ := elemS (hl.mono hle3) (fun _ _ => rfl) (by decide) (by omega)
 cases e1
 have q1 : ∀ j v, ([.int .i64 l[i].k, .string ⟨l[i].path.toArray⟩, .string ⟨l[i].dst.toArray⟩, .int .i64 l[i].n, .int .i64 l[i].h, .slice l[i].a l[i].data.length l[i].c, l[i].kv] : List Value)[j]? = some v → Pin s3 g1 (o1 + i * 7 + j) v := hp1 i hl1
 have ha := (hok l[i] (List.getElem_mem _)).mono hle3
 generalize l[i] = a at *
 obtain ⟨ak, ap, adst, an, ah, adat, aa, ac, kv, kp⟩ := a
 dsimp only at q1
 have hkS : SlS s3 kv 1 kp.length (kp.map Value.bool) := ha.keep
 obtain ⟨ka, kc, hkv, _⟩ := formS hkS
 subst hkv
 have hkl : kp.length ≤ 140737488351232 := ha.klen
 have han : I64 an := ha.hn
 unfold I64 at han
 have hep := hCI.ep
 by_cases hsy : ak = 13 ∨ ak = 14
 ·repeat' (first | (refine X.ldF H ?_) | (refine X.stF H ?_; clear H; (try clear w); intro w H) | (refine X.ldFq H ?_) | (refine X.lenL ?_) | (refine X.lv H ?_) | (refine X.lp H ?_) | (refine X.ldT H ?_) | (refine X.stT H ?_; clear H; (try clear w); intro w H) | (refine K.build [] _ build_tree0 rfl rfl rfl ?_) | (refine X.eqL ?_ ?_ <;> intro hc <;> first | (exfalso; first | exact absurd hc (by assumption) | exact absurd (by assumption) hc) | skip) | ((fail_if_success (with_reducible show C _ _ _ (Code.seq (Code.region 13 _ _) _) _ _)); refine Z H ?_) | (refine Zc ?_ ?_ <;> intro hc <;> first | (exfalso; omega) | skip) | (refine Y ?_; try change C _ _ _ _ _ _) | (refine Zs H ?_; clear H; (try clear w); intro w H) | (refine Zn H ?_; clear H; (try clear w); (first | ((fail_if_success (have := bl1)); intro bl1 w H) | ((fail_if_success (have := bl2)); intro bl2 w H) | ((fail_if_success (have := bl3)); intro bl3 w H) | ((fail_if_success (have := bl4)); intro bl4 w H) | intro _ w H)) | (refine Ze H ?_; clear H; (try clear w); intro gv w H))
  refine C.cut [52, 53, 54, 55, 56, 57, 58, 59, 60] [52] rfl (fun vs w => vs = [.bool true] ∧ Holds s3 w (var bl3 51 [.int .i64 ak, .string ⟨ap.toArray⟩, .string ⟨adst.toArray⟩, .int .i64 an, .int .i64 ah, .slice aa adat.length ac, .slice ka kp.length kc] :: fsV bF bL t 8 hs :: logM bL bp m :: dsk b d :: var bl2 41 S.cells :: [])) ?_ ?_
  ·rcases hsy with hsy | hsy
   ·repeat' (first | (refine X.ldF H ?_) | (refine X.stF H ?_; clear H; (try clear w); intro w H) | (refine X.ldFq H ?_) | (refine X.lenL ?_) | (refine X.lv H ?_) | (refine X.lp H ?_) | (refine X.ldT H ?_) | (refine X.stT H ?_; clear H; (try clear w); intro w H) | (refine K.build [] _ build_tree0 rfl rfl rfl ?_) | (refine X.eqL ?_ ?_ <;> intro hc <;> first | (exfalso; first | exact absurd hc (by assumption) | exact absurd (by assumption) hc) | skip) | refine Z H ?_ | (refine Zc ?_ ?_ <;> intro hc <;> first | (exfalso; omega) | skip) | (refine Y ?_; try change C _ _ _ _ _ _) | (refine Zs H ?_; clear H; (try clear w); intro w H) | (refine Zn H ?_; clear H; (try clear w); (first | ((fail_if_success (have := bl1)); intro bl1 w H) | ((fail_if_success (have := bl2)); intro bl2 w H) | ((fail_if_success (have := bl3)); intro bl3 w H) | ((fail_if_success (have := bl4)); intro bl4 w H) | intro _ w H)) | (refine Ze H ?_; clear H; (try clear w); intro gv w H))
    exact ⟨agr, rfl, H⟩
   ·repeat' (first | (refine X.ldF H ?_) | (refine X.stF H ?_; clear H; (try clear w); intro w H) | (refine X.ldFq H ?_) | (refine X.lenL ?_) | (refine X.lv H ?_) | (refine X.lp H ?_) | (refine X.ldT H ?_) | (refine X.stT H ?_; clear H; (try clear w); intro w H) | (refine K.build [] _ build_tree0 rfl rfl rfl ?_) | (refine X.eqL ?_ ?_ <;> intro hc <;> first | (exfalso; first | exact absurd hc (by assumption) | exact absurd (by assumption) hc) | skip) | refine Z H ?_ | (refine Zc ?_ ?_ <;> intro hc <;> first | (exfalso; omega) | skip) | (refine Y ?_; try change C _ _ _ _ _ _) | (refine Zs H ?_; clear H; (try clear w); intro w H) | (refine Zn H ?_; clear H; (try clear w); (first | ((fail_if_success (have := bl1)); intro bl1 w H) | ((fail_if_success (have := bl2)); intro bl2 w H) | ((fail_if_success (have := bl3)); intro bl3 w H) | ((fail_if_success (have := bl4)); intro bl4 w H) | intro _ w H)) | (refine Ze H ?_; clear H; (try clear w); intro gv w H))
    exact ⟨agr, rfl, H⟩
  clear H
  rintro vs hv2 w ⟨rfl, H⟩
  repeat' (first | (refine X.ldF H ?_) | (refine X.stF H ?_; clear H; (try clear w); intro w H) | (refine X.ldFq H ?_) | (refine X.lenL ?_) | (refine X.lv H ?_) | (refine X.lp H ?_) | (refine X.ldT H ?_) | (refine X.stT H ?_; clear H; (try clear w); intro w H) | (refine K.build [] _ build_tree0 rfl rfl rfl ?_) | (refine X.eqL ?_ ?_ <;> intro hc <;> first | (exfalso; first | exact absurd hc (by assumption) | exact absurd (by assumption) hc) | skip) | ((fail_if_success (with_reducible show C _ _ _ (Code.seq (Code.seq (Code.region 14 _ _) _) _) _ _)); refine Z H ?_) | (refine Zc ?_ ?_ <;> intro hc <;> first | (exfalso; omega) | skip) | (refine Y ?_; try change C _ _ _ _ _ _) | (refine Zs H ?_; clear H; (try clear w); intro w H) | (refine Zn H ?_; clear H; (try clear w); (first | ((fail_if_success (have := bl1)); intro bl1 w H) | ((fail_if_success (have := bl2)); intro bl2 w H) | ((fail_if_success (have := bl3)); intro bl3 w H) | ((fail_if_success (have := bl4)); intro bl4 w H) | intro _ w H)) | (refine Ze H ?_; clear H; (try clear w); intro gv w H))
  refine C.cut [61, 62, 63, 64, 65, 66, 67, 68, 69] [] rfl (fun vs w => ∃ d1, WInv 60 5 d1 m ∧ Holds s3 w (fsV bF bL t 8 hs :: logM bL bp m :: dsk b d1 :: var bl2 41 S.cells :: [])) ?_ ?_
  ·by_cases h0 : 0 ≤ an
   ·repeat' (first | (refine X.ldF H ?_) | (refine X.stF H ?_; clear H; (try clear w); intro w H) | (refine X.ldFq H ?_) | (refine X.lenL ?_) | (refine X.lv H ?_) | (refine X.lp H ?_) | (refine X.ldT H ?_) | (refine X.stT H ?_; clear H; (try clear w); intro w H) | (refine K.build [] _ build_tree0 rfl rfl rfl ?_) | (refine X.eqL ?_ ?_ <;> intro hc <;> first | (exfalso; first | exact absurd hc (by assumption) | exact absurd (by assumption) hc) | skip) | refine Z H ?_ | (refine Zc ?_ ?_ <;> intro hc <;> first | (exfalso; omega) | skip) | (refine Y ?_; try change C _ _ _ _ _ _) | (refine Zs H ?_; clear H; (try clear w); intro w H) | (refine Zn H ?_; clear H; (try clear w); (first | ((fail_if_success (have := bl1)); intro bl1 w H) | ((fail_if_success (have := bl2)); intro bl2 w H) | ((fail_if_success (have := bl3)); intro bl3 w H) | ((fail_if_success (have := bl4)); intro bl4 w H) | intro _ w H)) | (refine Ze H ?_; clear H; (try clear w); intro gv w H))
    replace H : Holds _ _ (dsk b _ :: _) := tp H
    (refine X.call (Arm_s H (.ro hkS) han.2 (by omega)) ?_; (try clear H); rintro _ w ⟨rfl, H⟩; refine ⟨_, rfl, ?_⟩)
    repeat' (first | (refine X.ldF H ?_) | (refine X.stF H ?_; clear H; (try clear w); intro w H) | (refine X.ldFq H ?_) | (refine X.lenL ?_) | (refine X.lv H ?_) | (refine X.lp H ?_) | (refine X.ldT H ?_) | (refine X.stT H ?_; clear H; (try clear w); intro w H) | (refine K.build [] _ build_tree0 rfl rfl rfl ?_) | (refine X.eqL ?_ ?_ <;> intro hc <;> first | (exfalso; first | exact absurd hc (by assumption) | exact absurd (by assumption) hc) | skip) | refine Z H ?_ | (refine Zc ?_ ?_ <;> intro hc <;> first | (exfalso; omega) | skip) | (refine Y ?_; try change C _ _ _ _ _ _) | (refine Zs H ?_; clear H; (try clear w); intro w H) | (refine Zn H ?_; clear H; (try clear w); (first | ((fail_if_success (have := bl1)); intro bl1 w H) | ((fail_if_success (have := bl2)); intro bl2 w H) | ((fail_if_success (have := bl3)); intro bl3 w H) | ((fail_if_success (have := bl4)); intro bl4 w H) | intro _ w H)) | (refine Ze H ?_; clear H; (try clear w); intro gv w H))
    exact ⟨agr, _, hCI.inv.arm an kp, H.arr⟩
   ·repeat' (first | (refine X.ldF H ?_) | (refine X.stF H ?_; clear H; (try clear w); intro w H) | (refine X.ldFq H ?_) | (refine X.lenL ?_) | (refine X.lv H ?_) | (refine X.lp H ?_) | (refine X.ldT H ?_) | (refine X.stT H ?_; clear H; (try clear w); intro w H) | (refine K.build [] _ build_tree0 rfl rfl rfl ?_) | (refine X.eqL ?_ ?_ <;> intro hc <;> first | (exfalso; first | exact absurd hc (by assumption) | exact absurd (by assumption) hc) | skip) | refine Z H ?_ | (refine Zc ?_ ?_ <;> intro hc <;> first | (exfalso; omega) | skip) | (refine Y ?_; try change C _ _ _ _ _ _) | (refine Zs H ?_; clear H; (try clear w); intro w H) | (refine Zn H ?_; clear H; (try clear w); (first | ((fail_if_success (have := bl1)); intro bl1 w H) | ((fail_if_success (have := bl2)); intro bl2 w H) | ((fail_if_success (have := bl3)); intro bl3 w H) | ((fail_if_success (have := bl4)); intro bl4 w H) | intro _ w H)) | (refine Ze H ?_; clear H; (try clear w); intro gv w H))
    exact ⟨agr, d, hCI.inv, H.arr⟩
  clear H
  rintro vs hv3 w ⟨d1, hI1, H⟩
  refine Gq7 H ?_
  (refine X.call (Tree_f H ht h4) ?_; (try clear H); rintro _ w ⟨rfl, H⟩; refine ⟨_, rfl, ?_⟩)
  (refine Gq7 H ?_; clear H; (try clear w); intro bl4 w H)
  have H' := H.arr (rs' := fsV bF bL t 8 hs :: logM bL bp m :: dsk b d1 :: var bl4 41 t.cells :: var bl2 41 S.cells :: [])
  clear H
  have hE : SEnds 60 5 m t (syncM d1 X5 m t) := sync_ends5 ht hct hI1 (by decide) (by decide) (by omega)
  have hM := Sync_f (x := X5) hN3 H' ht hct (hp.mono hs3) hI1.log.ep hI1.log.home hI1.log.used hI1.log.plen (by rw [hI1.pend]; decide)
  clear H'
  generalize syncM d1 X5 m t = r at *
  obtain ⟨d2, m2, code⟩ := r
  dsimp only at hM
  (refine X.call (hM) ?_; (try clear H); rintro _ w ⟨s4, rfl, hs4, H⟩; refine ⟨_, rfl, ?_⟩)
  clear hM
  rcases hE with ⟨e0, e1, e2, e3⟩ | ⟨e0, e1, e2, m3, e3, e4, e5⟩
  ·dsimp only at e0 e1 e2 e3
   subst e0
   repeat' (first | (refine X.ldF H ?_) | (refine X.stF H ?_; clear H; (try clear w); intro w H) | (refine X.ldFq H ?_) | (refine X.lenL ?_) | (refine X.lv H ?_) | (refine X.lp H ?_) | (refine X.ldT H ?_) | (refine X.stT H ?_; clear H; (try clear w); intro w H) | (refine K.build [] _ build_tree0 rfl rfl rfl ?_) | (refine X.eqL ?_ ?_ <;> intro hc <;> first | (exfalso; first | exact absurd hc (by assumption) | exact absurd (by assumption) hc) | skip) | refine Z H ?_ | (refine Zc ?_ ?_ <;> intro hc <;> first | (exfalso; omega) | skip) | (refine Y ?_; try change C _ _ _ _ _ _) | (refine Zs H ?_; clear H; (try clear w); intro w H) | (refine Zn H ?_; clear H; (try clear w); (first | ((fail_if_success (have := bl1)); intro bl1 w H) | ((fail_if_success (have := bl2)); intro bl2 w H) | ((fail_if_success (have := bl3)); intro bl3 w H) | ((fail_if_success (have := bl4)); intro bl4 w H) | intro _ w H)) | (refine Ze H ?_; clear H; (try clear w); intro gv w H))
   replace H : Holds _ _ (dsk b _ :: _) := tp H
   (refine X.call (Arm_s (n := -1) (sv := []) H (.ro (SlS.nil _ _)) (by decide) (by decide)) ?_; (try clear H); rintro _ w ⟨rfl, H⟩; refine ⟨_, rfl, ?_⟩)
   repeat' (first | (refine X.ldF H ?_) | (refine X.stF H ?_; clear H; (try clear w); intro w H) | (refine X.ldFq H ?_) | (refine X.lenL ?_) | (refine X.lv H ?_) | (refine X.lp H ?_) | (refine X.ldT H ?_) | (refine X.stT H ?_; clear H; (try clear w); intro w H) | (refine K.build [] _ build_tree0 rfl rfl rfl ?_) | (refine X.eqL ?_ ?_ <;> intro hc <;> first | (exfalso; first | exact absurd hc (by assumption) | exact absurd (by assumption) hc) | skip) | refine Z H ?_ | (refine Zc ?_ ?_ <;> intro hc <;> first | (exfalso; omega) | skip) | (refine Y ?_; try change C _ _ _ _ _ _) | (refine Zs H ?_; clear H; (try clear w); intro w H) | (refine Zn H ?_; clear H; (try clear w); (first | ((fail_if_success (have := bl1)); intro bl1 w H) | ((fail_if_success (have := bl2)); intro bl2 w H) | ((fail_if_success (have := bl3)); intro bl3 w H) | ((fail_if_success (have := bl4)); intro bl4 w H) | intro _ w H)) | (refine Ze H ?_; clear H; (try clear w); intro gv w H))
   have H' := H.arr (rs' := fsV bF bL t 8 hs :: logM bL bp m2 :: dsk b (d2.arm (-1) []) :: var bl4 41 t.cells :: var bl2 41 S.cells :: [])
   clear H
   have hc0 : (chgM m2.pages t).length = 0 := by rw [e2, chg_self ht hct]; rfl
   have hM := Changed_f H' ht hct e1.log.plen
   rw [hc0] at hM
   clear H'
   (refine X.call (hM) ?_; (try clear H); rintro _ w ⟨s5, rfl, hs5, H⟩; refine ⟨_, rfl, ?_⟩)
   clear hM
   repeat' (first | (refine X.ldF H ?_) | (refine X.stF H ?_; clear H; (try clear w); intro w H) | (refine X.ldFq H ?_) | (refine X.lenL ?_) | (refine X.lv H ?_) | (refine X.lp H ?_) | (refine X.ldT H ?_) | (refine X.stT H ?_; clear H; (try clear w); intro w H) | (refine K.build [] _ build_tree0 rfl rfl rfl ?_) | (refine X.eqL ?_ ?_ <;> intro hc <;> first | (exfalso; first | exact absurd hc (by assumption) | exact absurd (by assumption) hc) | skip) | refine Z H ?_ | (refine Zc ?_ ?_ <;> intro hc <;> first | (exfalso; omega) | skip) | (refine Y ?_; try change C _ _ _ _ _ _) | (refine Zs H ?_; clear H; (try clear w); intro w H) | (refine Zn H ?_; clear H; (try clear w); (first | ((fail_if_success (have := bl1)); intro bl1 w H) | ((fail_if_success (have := bl2)); intro bl2 w H) | ((fail_if_success (have := bl3)); intro bl3 w H) | ((fail_if_success (have := bl4)); intro bl4 w H) | intro _ w H)) | (refine Ze H ?_; clear H; (try clear w); intro gv w H))
   exact ⟨agr, 40 - (i + 1), by omega, i + 1, s5, bF, bL, d2.arm (-1) [], m2, t, hs, t, rfl, by omega, by omega, rfl, (hs3.trans hs4).trans hs5, ⟨e1.arm _ _, by omega, ht, hct, hh, ht, hct, by rw [e2]; exact tree_flat ht hct⟩, H.arr⟩
  dsimp only at e0 e1 e2 e4
  subst e0
  have hI3 := calm_inv e4 e1.len
  obtain ⟨hop, hon⟩ := hI3.opens (by decide) (by decide)
  have hT : ∃ T : TR, treeOf m3.pages = (T, 0) ∧ T.Ok ∧ checkM T = true ∧ (T = S ∨ T = t) := by
   rcases e3 with e3 | e3
   ·exact ⟨S, by rw [e3]; exact hCI.tree, hSo, hCI.schk, .inl rfl⟩
   ·exact ⟨t, by rw [e3]; exact tree_flat ht hct, ht, hct, .inr rfl⟩
  obtain ⟨T, hT1, hTo, hTc, hTS⟩ := hT
  refine Gq7 H ?_
  replace H : Holds _ _ (dsk b _ :: _) := tp H
  (refine X.call (Arm_s (n := -1) (sv := []) H (.ro (SlS.nil _ _)) (by decide) (by decide)) ?_; (try clear H); rintro _ w ⟨rfl, H⟩; refine ⟨_, rfl, ?_⟩)
  repeat' (first | (refine X.ldF H ?_) | (refine X.stF H ?_; clear H; (try clear w); intro w H) | (refine X.ldFq H ?_) | (refine X.lenL ?_) | (refine X.lv H ?_) | (refine X.lp H ?_) | (refine X.ldT H ?_) | (refine X.stT H ?_; clear H; (try clear w); intro w H) | (refine K.build [] _ build_tree0 rfl rfl rfl ?_) | (refine X.eqL ?_ ?_ <;> intro hc <;> first | (exfalso; first | exact absurd hc (by assumption) | exact absurd (by assumption) hc) | skip) | refine Z H ?_ | (refine Zc ?_ ?_ <;> intro hc <;> first | (exfalso; omega) | skip) | (refine Y ?_; try change C _ _ _ _ _ _) | (refine Zs H ?_; clear H; (try clear w); intro w H) | (refine Zn H ?_; clear H; (try clear w); (first | ((fail_if_success (have := bl1)); intro bl1 w H) | ((fail_if_success (have := bl2)); intro bl2 w H) | ((fail_if_success (have := bl3)); intro bl3 w H) | ((fail_if_success (have := bl4)); intro bl4 w H) | intro _ w H)) | (refine Ze H ?_; clear H; (try clear w); intro gv w H))
  (refine X.call (Power_s H) ?_; (try clear H); rintro _ w ⟨rfl, H⟩; refine ⟨_, rfl, ?_⟩)
  generalize (d2.arm (-1) []).power = d3 at *
  repeat' (first | (refine X.ldF H ?_) | (refine X.stF H ?_; clear H; (try clear w); intro w H) | (refine X.ldFq H ?_) | (refine X.lenL ?_) | (refine X.lv H ?_) | (refine X.lp H ?_) | (refine X.ldT H ?_) | (refine X.stT H ?_; clear H; (try clear w); intro w H) | (refine K.build [] _ build_tree0 rfl rfl rfl ?_) | (refine X.eqL ?_ ?_ <;> intro hc <;> first | (exfalso; first | exact absurd hc (by assumption) | exact absurd (by assumption) hc) | skip) | refine Z H ?_ | (refine Zc ?_ ?_ <;> intro hc <;> first | (exfalso; omega) | skip) | (refine Y ?_; try change C _ _ _ _ _ _) | (refine Zs H ?_; clear H; (try clear w); intro w H) | (refine Zn H ?_; clear H; (try clear w); (first | ((fail_if_success (have := bl1)); intro bl1 w H) | ((fail_if_success (have := bl2)); intro bl2 w H) | ((fail_if_success (have := bl3)); intro bl3 w H) | ((fail_if_success (have := bl4)); intro bl4 w H) | intro _ w H)) | (refine Ze H ?_; clear H; (try clear w); intro gv w H))
  have hMt := Mount_f (q := 8) (x := X5) (hN3.mono hs4) H (hp.mono (hs3.trans hs4)) (by decide) hon hop hI3.log.plen hT1 hTo (by decide)
  (refine X.call (hMt) ?_; (try clear H); rintro _ w ⟨s5, bF2, bL2, rfl, hs5, H⟩; refine ⟨_, rfl, ?_⟩)
  clear hMt hop hon
  replace H := H.arr (rs' := fsV bF2 bL2 T 8 (List.replicate 4 Hd.zero) :: logM bL2 bp m3 :: dsk b d3 :: var bl4 41 t.cells :: var bl2 41 S.cells :: [])
  have hCI3 : CI (1 + (i + 1)) d3 m3 T (List.replicate 4 Hd.zero) T := ⟨hI3, by omega, hTo, hTc, HOk.rep, hTo, hTc, hT1⟩
  repeat' (first | (refine X.ldF H ?_) | (refine X.stF H ?_; clear H; (try clear w); intro w H) | (refine X.ldFq H ?_) | (refine X.lenL ?_) | (refine X.lv H ?_) | (refine X.lp H ?_) | (refine X.ldT H ?_) | (refine X.stT H ?_; clear H; (try clear w); intro w H) | (refine K.build [] _ build_tree0 rfl rfl rfl ?_) | (refine X.eqL ?_ ?_ <;> intro hc <;> first | (exfalso; first | exact absurd hc (by assumption) | exact absurd (by assumption) hc) | skip) | ((fail_if_success (with_reducible show C _ _ _ (Code.seq (Code.region 25 _ _) _) _ _)); refine Z H ?_) | (refine Zc ?_ ?_ <;> intro hc <;> first | (exfalso; omega) | skip) | (refine Y ?_; try change C _ _ _ _ _ _) | (refine Zs H ?_; clear H; (try clear w); intro w H) | (refine Zn H ?_; clear H; (try clear w); (first | ((fail_if_success (have := bl1)); intro bl1 w H) | ((fail_if_success (have := bl2)); intro bl2 w H) | ((fail_if_success (have := bl3)); intro bl3 w H) | ((fail_if_success (have := bl4)); intro bl4 w H) | intro _ w H)) | (refine Ze H ?_; clear H; (try clear w); intro gv w H))
  refine C.cut [89, 90, 91, 92, 93, 94, 95, 96, 97, 98, 99, 100, 101, 102, 103, 104, 105, 106] [106] rfl (fun vs w => vs = [.bool false] ∧ Holds s5 w (fsV bF2 bL2 T 8 (List.replicate 4 Hd.zero) :: logM bL2 bp m3 :: dsk b d3 :: var bl4 41 t.cells :: var bl2 41 S.cells :: [])) ?_ ?_
  ·by_cases hST : T = S
   ·subst hST
    refine C.drawn5 [0, 1, 2, 3, 4, 5, 6, 7, 9, 8, 10, 11, 12, 14, 13, 15, 16, 17] [0, 0, 0, 0, 0, 0, 0, 0, 1, 2, 3, 0, 0, 1, 2, 3, 0, 0] [10, 1, 4, 1] [0, 1, 3, 7, 15, 31, 63, 127, 255, 127, 1023, 2047, 4095, 8191, 4095, 32767, 65535, 131071] (by kernel_rfl) ?_; replace H := H.drew; refine sgA ?_
    repeat' (first | (refine X.ldF H ?_) | (refine X.stF H ?_; clear H; (try clear w); intro w H) | (refine X.ldFq H ?_) | (refine X.lenL ?_) | (refine X.lv H ?_) | (refine X.lp H ?_) | (refine X.ldT H ?_) | (refine X.stT H ?_; clear H; (try clear w); intro w H) | (refine K.build [] _ build_tree0 rfl rfl rfl ?_) | (refine X.eqL ?_ ?_ <;> intro hc <;> first | (exfalso; first | exact absurd hc (by assumption) | exact absurd (by assumption) hc) | skip) | refine Z H ?_ | (refine Zc ?_ ?_ <;> intro hc <;> first | (exfalso; omega) | skip) | (refine Y ?_; try change C _ _ _ _ _ _) | (refine Zs H ?_; clear H; (try clear w); intro w H) | (refine Zn H ?_; clear H; (try clear w); (first | ((fail_if_success (have := bl1)); intro bl1 w H) | ((fail_if_success (have := bl2)); intro bl2 w H) | ((fail_if_success (have := bl3)); intro bl3 w H) | ((fail_if_success (have := bl4)); intro bl4 w H) | intro _ w H)) | (refine Ze H ?_; clear H; (try clear w); intro gv w H))
    (refine X.call (Tree_e H hTo) ?_; (try clear H); rintro _ w ⟨rfl, ho, H⟩; refine ⟨_, rfl, ?_⟩); refine L.nil ?_; refine ⟨rfl, rfl, q4, ?_⟩
    clear ho
    repeat' (first | (refine X.neA (eq_tree 9995 hTo hTo) guard_tree ?_; rw [decide_eq_true rfl]) | (refine X.ldF H ?_) | (refine X.stF H ?_; clear H; (try clear w); intro w H) | (refine X.ldFq H ?_) | (refine X.lenL ?_) | (refine X.lv H ?_) | (refine X.lp H ?_) | (refine X.ldT H ?_) | (refine X.stT H ?_; clear H; (try clear w); intro w H) | (refine K.build [] _ build_tree0 rfl rfl rfl ?_) | (refine X.eqL ?_ ?_ <;> intro hc <;> first | (exfalso; first | exact absurd hc (by assumption) | exact absurd (by assumption) hc) | skip) | refine Z H ?_ | (refine Zc ?_ ?_ <;> intro hc <;> first | (exfalso; omega) | skip) | (refine Y ?_; try change C _ _ _ _ _ _) | (refine Zs H ?_; clear H; (try clear w); intro w H) | (refine Zn H ?_; clear H; (try clear w); (first | ((fail_if_success (have := bl1)); intro bl1 w H) | ((fail_if_success (have := bl2)); intro bl2 w H) | ((fail_if_success (have := bl3)); intro bl3 w H) | ((fail_if_success (have := bl4)); intro bl4 w H) | intro _ w H)) | (refine Ze H ?_; clear H; (try clear w); intro gv w H))
    refine ⟨rfl, rfl, q4, ?_⟩
    repeat' (first | (refine X.ldF H ?_) | (refine X.stF H ?_; clear H; (try clear w); intro w H) | (refine X.ldFq H ?_) | (refine X.lenL ?_) | (refine X.lv H ?_) | (refine X.lp H ?_) | (refine X.ldT H ?_) | (refine X.stT H ?_; clear H; (try clear w); intro w H) | (refine K.build [] _ build_tree0 rfl rfl rfl ?_) | (refine X.eqL ?_ ?_ <;> intro hc <;> first | (exfalso; first | exact absurd hc (by assumption) | exact absurd (by assumption) hc) | skip) | refine Z H ?_ | (refine Zc ?_ ?_ <;> intro hc <;> first | (exfalso; omega) | skip) | (refine Y ?_; try change C _ _ _ _ _ _) | (refine Zs H ?_; clear H; (try clear w); intro w H) | (refine Zn H ?_; clear H; (try clear w); (first | ((fail_if_success (have := bl1)); intro bl1 w H) | ((fail_if_success (have := bl2)); intro bl2 w H) | ((fail_if_success (have := bl3)); intro bl3 w H) | ((fail_if_success (have := bl4)); intro bl4 w H) | intro _ w H)) | (refine Ze H ?_; clear H; (try clear w); intro gv w H))
    refine ⟨rfl, rfl, q4, ?_⟩
    repeat' (first | (refine X.ldF H ?_) | (refine X.stF H ?_; clear H; (try clear w); intro w H) | (refine X.ldFq H ?_) | (refine X.lenL ?_) | (refine X.lv H ?_) | (refine X.lp H ?_) | (refine X.ldT H ?_) | (refine X.stT H ?_; clear H; (try clear w); intro w H) | (refine K.build [] _ build_tree0 rfl rfl rfl ?_) | (refine X.eqL ?_ ?_ <;> intro hc <;> first | (exfalso; first | exact absurd hc (by assumption) | exact absurd (by assumption) hc) | skip) | refine Z H ?_ | (refine Zc ?_ ?_ <;> intro hc <;> first | (exfalso; omega) | skip) | (refine Y ?_; try change C _ _ _ _ _ _) | (refine Zs H ?_; clear H; (try clear w); intro w H) | (refine Zn H ?_; clear H; (try clear w); (first | ((fail_if_success (have := bl1)); intro bl1 w H) | ((fail_if_success (have := bl2)); intro bl2 w H) | ((fail_if_success (have := bl3)); intro bl3 w H) | ((fail_if_success (have := bl4)); intro bl4 w H) | intro _ w H)) | (refine Ze H ?_; clear H; (try clear w); intro gv w H))
    refine ⟨rfl, rfl, q4, ?_⟩
    repeat' (first | (refine X.ldF H ?_) | (refine X.stF H ?_; clear H; (try clear w); intro w H) | (refine X.ldFq H ?_) | (refine X.lenL ?_) | (refine X.lv H ?_) | (refine X.lp H ?_) | (refine X.ldT H ?_) | (refine X.stT H ?_; clear H; (try clear w); intro w H) | (refine K.build [] _ build_tree0 rfl rfl rfl ?_) | (refine X.eqL ?_ ?_ <;> intro hc <;> first | (exfalso; first | exact absurd hc (by assumption) | exact absurd (by assumption) hc) | skip) | refine Z H ?_ | (refine Zc ?_ ?_ <;> intro hc <;> first | (exfalso; omega) | skip) | (refine Y ?_; try change C _ _ _ _ _ _) | (refine Zs H ?_; clear H; (try clear w); intro w H) | (refine Zn H ?_; clear H; (try clear w); (first | ((fail_if_success (have := bl1)); intro bl1 w H) | ((fail_if_success (have := bl2)); intro bl2 w H) | ((fail_if_success (have := bl3)); intro bl3 w H) | ((fail_if_success (have := bl4)); intro bl4 w H) | intro _ w H)) | (refine Ze H ?_; clear H; (try clear w); intro gv w H))
    exact ⟨agr, rfl, H⟩
   ·have hTt := hTS.resolve_left hST
    subst hTt
    refine C.drawn5 [0, 1, 2, 3, 4, 5, 6, 7, 9, 8, 10, 11, 12, 14, 13, 15, 16, 17] [0, 0, 0, 0, 0, 0, 0, 0, 1, 2, 3, 0, 0, 1, 2, 3, 0, 0] [10, 1, 4, 1] [0, 1, 3, 7, 15, 31, 63, 127, 255, 127, 1023, 2047, 4095, 8191, 4095, 32767, 65535, 131071] (by kernel_rfl) ?_; replace H := H.drew; refine sgA ?_
    repeat' (first | (refine X.ldF H ?_) | (refine X.stF H ?_; clear H; (try clear w); intro w H) | (refine X.ldFq H ?_) | (refine X.lenL ?_) | (refine X.lv H ?_) | (refine X.lp H ?_) | (refine X.ldT H ?_) | (refine X.stT H ?_; clear H; (try clear w); intro w H) | (refine K.build [] _ build_tree0 rfl rfl rfl ?_) | (refine X.eqL ?_ ?_ <;> intro hc <;> first | (exfalso; first | exact absurd hc (by assumption) | exact absurd (by assumption) hc) | skip) | refine Z H ?_ | (refine Zc ?_ ?_ <;> intro hc <;> first | (exfalso; omega) | skip) | (refine Y ?_; try change C _ _ _ _ _ _) | (refine Zs H ?_; clear H; (try clear w); intro w H) | (refine Zn H ?_; clear H; (try clear w); (first | ((fail_if_success (have := bl1)); intro bl1 w H) | ((fail_if_success (have := bl2)); intro bl2 w H) | ((fail_if_success (have := bl3)); intro bl3 w H) | ((fail_if_success (have := bl4)); intro bl4 w H) | intro _ w H)) | (refine Ze H ?_; clear H; (try clear w); intro gv w H))
    (refine X.call (Tree_e H hTo) ?_; (try clear H); rintro _ w ⟨rfl, ho, H⟩; refine ⟨_, rfl, ?_⟩); refine L.nil ?_; refine ⟨rfl, rfl, q4, ?_⟩
    clear ho
    repeat' (first | (refine X.neA (eq_tree 9995 hTo hSo) guard_tree ?_; rw [decide_eq_false hST]) | (refine X.ldF H ?_) | (refine X.stF H ?_; clear H; (try clear w); intro w H) | (refine X.ldFq H ?_) | (refine X.lenL ?_) | (refine X.lv H ?_) | (refine X.lp H ?_) | (refine X.ldT H ?_) | (refine X.stT H ?_; clear H; (try clear w); intro w H) | (refine K.build [] _ build_tree0 rfl rfl rfl ?_) | (refine X.eqL ?_ ?_ <;> intro hc <;> first | (exfalso; first | exact absurd hc (by assumption) | exact absurd (by assumption) hc) | skip) | refine Z H ?_ | (refine Zc ?_ ?_ <;> intro hc <;> first | (exfalso; omega) | skip) | (refine Y ?_; try change C _ _ _ _ _ _) | (refine Zs H ?_; clear H; (try clear w); intro w H) | (refine Zn H ?_; clear H; (try clear w); (first | ((fail_if_success (have := bl1)); intro bl1 w H) | ((fail_if_success (have := bl2)); intro bl2 w H) | ((fail_if_success (have := bl3)); intro bl3 w H) | ((fail_if_success (have := bl4)); intro bl4 w H) | intro _ w H)) | (refine Ze H ?_; clear H; (try clear w); intro gv w H))
    refine ⟨rfl, rfl, q4, ?_⟩
    repeat' (first | (refine X.ldF H ?_) | (refine X.stF H ?_; clear H; (try clear w); intro w H) | (refine X.ldFq H ?_) | (refine X.lenL ?_) | (refine X.lv H ?_) | (refine X.lp H ?_) | (refine X.ldT H ?_) | (refine X.stT H ?_; clear H; (try clear w); intro w H) | (refine K.build [] _ build_tree0 rfl rfl rfl ?_) | (refine X.eqL ?_ ?_ <;> intro hc <;> first | (exfalso; first | exact absurd hc (by assumption) | exact absurd (by assumption) hc) | skip) | refine Z H ?_ | (refine Zc ?_ ?_ <;> intro hc <;> first | (exfalso; omega) | skip) | (refine Y ?_; try change C _ _ _ _ _ _) | (refine Zs H ?_; clear H; (try clear w); intro w H) | (refine Zn H ?_; clear H; (try clear w); (first | ((fail_if_success (have := bl1)); intro bl1 w H) | ((fail_if_success (have := bl2)); intro bl2 w H) | ((fail_if_success (have := bl3)); intro bl3 w H) | ((fail_if_success (have := bl4)); intro bl4 w H) | intro _ w H)) | (refine Ze H ?_; clear H; (try clear w); intro gv w H))
    (refine X.call (Tree_e H hTo) ?_; (try clear H); rintro _ w ⟨rfl, ho, H⟩; refine ⟨_, rfl, ?_⟩); refine L.nil ?_; refine ⟨rfl, rfl, q4, ?_⟩
    clear ho
    repeat' (first | (refine X.neA (eq_tree 9995 hTo hTo) guard_tree ?_; rw [decide_eq_true rfl]) | (refine X.ldF H ?_) | (refine X.stF H ?_; clear H; (try clear w); intro w H) | (refine X.ldFq H ?_) | (refine X.lenL ?_) | (refine X.lv H ?_) | (refine X.lp H ?_) | (refine X.ldT H ?_) | (refine X.stT H ?_; clear H; (try clear w); intro w H) | (refine K.build [] _ build_tree0 rfl rfl rfl ?_) | (refine X.eqL ?_ ?_ <;> intro hc <;> first | (exfalso; first | exact absurd hc (by assumption) | exact absurd (by assumption) hc) | skip) | refine Z H ?_ | (refine Zc ?_ ?_ <;> intro hc <;> first | (exfalso; omega) | skip) | (refine Y ?_; try change C _ _ _ _ _ _) | (refine Zs H ?_; clear H; (try clear w); intro w H) | (refine Zn H ?_; clear H; (try clear w); (first | ((fail_if_success (have := bl1)); intro bl1 w H) | ((fail_if_success (have := bl2)); intro bl2 w H) | ((fail_if_success (have := bl3)); intro bl3 w H) | ((fail_if_success (have := bl4)); intro bl4 w H) | intro _ w H)) | (refine Ze H ?_; clear H; (try clear w); intro gv w H))
    refine ⟨rfl, rfl, q4, ?_⟩
    repeat' (first | (refine X.ldF H ?_) | (refine X.stF H ?_; clear H; (try clear w); intro w H) | (refine X.ldFq H ?_) | (refine X.lenL ?_) | (refine X.lv H ?_) | (refine X.lp H ?_) | (refine X.ldT H ?_) | (refine X.stT H ?_; clear H; (try clear w); intro w H) | (refine K.build [] _ build_tree0 rfl rfl rfl ?_) | (refine X.eqL ?_ ?_ <;> intro hc <;> first | (exfalso; first | exact absurd hc (by assumption) | exact absurd (by assumption) hc) | skip) | refine Z H ?_ | (refine Zc ?_ ?_ <;> intro hc <;> first | (exfalso; omega) | skip) | (refine Y ?_; try change C _ _ _ _ _ _) | (refine Zs H ?_; clear H; (try clear w); intro w H) | (refine Zn H ?_; clear H; (try clear w); (first | ((fail_if_success (have := bl1)); intro bl1 w H) | ((fail_if_success (have := bl2)); intro bl2 w H) | ((fail_if_success (have := bl3)); intro bl3 w H) | ((fail_if_success (have := bl4)); intro bl4 w H) | intro _ w H)) | (refine Ze H ?_; clear H; (try clear w); intro gv w H))
    exact ⟨agr, rfl, H⟩
  clear H
  rintro vs hv4 w ⟨rfl, H⟩
  repeat' (first | (refine X.ldF H ?_) | (refine X.stF H ?_; clear H; (try clear w); intro w H) | (refine X.ldFq H ?_) | (refine X.lenL ?_) | (refine X.lv H ?_) | (refine X.lp H ?_) | (refine X.ldT H ?_) | (refine X.stT H ?_; clear H; (try clear w); intro w H) | (refine K.build [] _ build_tree0 rfl rfl rfl ?_) | (refine X.eqL ?_ ?_ <;> intro hc <;> first | (exfalso; first | exact absurd hc (by assumption) | exact absurd (by assumption) hc) | skip) | refine Z H ?_ | (refine Zc ?_ ?_ <;> intro hc <;> first | (exfalso; omega) | skip) | (refine Y ?_; try change C _ _ _ _ _ _) | (refine Zs H ?_; clear H; (try clear w); intro w H) | (refine Zn H ?_; clear H; (try clear w); (first | ((fail_if_success (have := bl1)); intro bl1 w H) | ((fail_if_success (have := bl2)); intro bl2 w H) | ((fail_if_success (have := bl3)); intro bl3 w H) | ((fail_if_success (have := bl4)); intro bl4 w H) | intro _ w H)) | (refine Ze H ?_; clear H; (try clear w); intro gv w H))
  (refine X.call (Tree_f H hTo h44) ?_; (try clear H); rintro _ w ⟨rfl, H⟩; refine ⟨_, rfl, ?_⟩)
  repeat' (first | (refine X.ldF H ?_) | (refine X.stF H ?_; clear H; (try clear w); intro w H) | (refine X.ldFq H ?_) | (refine X.lenL ?_) | (refine X.lv H ?_) | (refine X.lp H ?_) | (refine X.ldT H ?_) | (refine X.stT H ?_; clear H; (try clear w); intro w H) | (refine K.build [] _ build_tree0 rfl rfl rfl ?_) | (refine X.eqL ?_ ?_ <;> intro hc <;> first | (exfalso; first | exact absurd hc (by assumption) | exact absurd (by assumption) hc) | skip) | refine Z H ?_ | (refine Zc ?_ ?_ <;> intro hc <;> first | (exfalso; omega) | skip) | (refine Y ?_; try change C _ _ _ _ _ _) | (refine Zs H ?_; clear H; (try clear w); intro w H) | (refine Zn H ?_; clear H; (try clear w); (first | ((fail_if_success (have := bl1)); intro bl1 w H) | ((fail_if_success (have := bl2)); intro bl2 w H) | ((fail_if_success (have := bl3)); intro bl3 w H) | ((fail_if_success (have := bl4)); intro bl4 w H) | intro _ w H)) | (refine Ze H ?_; clear H; (try clear w); intro gv w H))
  exact ⟨agr, 40 - (i + 1), by omega, i + 1, s5, bF2, bL2, d3, m3, T, _, T, rfl, by omega, by omega, rfl, (hs3.trans hs4).trans hs5, hCI3, H.arr⟩
 obtain ⟨g13, g14⟩ := not_or.1 hsy
 by_cases hcr : 16 < ak
 ·(refine Gq7 H ?_; clear H; (try clear w); intro bl4 w H)
  replace H : Holds _ _ (dsk b _ :: _) := tp H
  (refine X.call (Crash_s H (.ro hkS)) ?_; (try clear H); rintro _ w ⟨rfl, H⟩; refine ⟨_, rfl, ?_⟩)
  refine Gq7 H ?_
  (refine X.call (Power_s H) ?_; (try clear H); rintro _ w ⟨rfl, H⟩; refine ⟨_, rfl, ?_⟩)
  have hI3 := hCI.inv.crashed kp
  obtain ⟨hop, hon⟩ := hI3.opens (by decide) (by decide)
  generalize (d.crash kp).power = d3 at *
  repeat' (first | (refine X.ldF H ?_) | (refine X.stF H ?_; clear H; (try clear w); intro w H) | (refine X.ldFq H ?_) | (refine X.lenL ?_) | (refine X.lv H ?_) | (refine X.lp H ?_) | (refine X.ldT H ?_) | (refine X.stT H ?_; clear H; (try clear w); intro w H) | (refine K.build [] _ build_tree0 rfl rfl rfl ?_) | (refine X.eqL ?_ ?_ <;> intro hc <;> first | (exfalso; first | exact absurd hc (by assumption) | exact absurd (by assumption) hc) | skip) | refine Z H ?_ | (refine Zc ?_ ?_ <;> intro hc <;> first | (exfalso; omega) | skip) | (refine Y ?_; try change C _ _ _ _ _ _) | (refine Zs H ?_; clear H; (try clear w); intro w H) | (refine Zn H ?_; clear H; (try clear w); (first | ((fail_if_success (have := bl1)); intro bl1 w H) | ((fail_if_success (have := bl2)); intro bl2 w H) | ((fail_if_success (have := bl3)); intro bl3 w H) | ((fail_if_success (have := bl4)); intro bl4 w H) | intro _ w H)) | (refine Ze H ?_; clear H; (try clear w); intro gv w H))
  have hMt := Mount_f (q := 8) (x := X5) hN3 H (hp.mono hs3) (by decide) hon hop hI3.log.plen hCI.tree hSo (by decide)
  (refine X.call (hMt) ?_; (try clear H); rintro _ w ⟨s5, bF2, bL2, rfl, hs5, H⟩; refine ⟨_, rfl, ?_⟩)
  clear hMt hop hon
  replace H := H.arr (rs' := fsV bF2 bL2 S 8 (List.replicate 4 Hd.zero) :: logM bL2 bp m :: dsk b d3 :: var bl2 41 S.cells :: [])
  repeat' (first | (refine X.ldF H ?_) | (refine X.stF H ?_; clear H; (try clear w); intro w H) | (refine X.ldFq H ?_) | (refine X.lenL ?_) | (refine X.lv H ?_) | (refine X.lp H ?_) | (refine X.ldT H ?_) | (refine X.stT H ?_; clear H; (try clear w); intro w H) | (refine K.build [] _ build_tree0 rfl rfl rfl ?_) | (refine X.eqL ?_ ?_ <;> intro hc <;> first | (exfalso; first | exact absurd hc (by assumption) | exact absurd (by assumption) hc) | skip) | refine Z H ?_ | (refine Zc ?_ ?_ <;> intro hc <;> first | (exfalso; omega) | skip) | (refine Y ?_; try change C _ _ _ _ _ _) | (refine Zs H ?_; clear H; (try clear w); intro w H) | (refine Zn H ?_; clear H; (try clear w); (first | ((fail_if_success (have := bl1)); intro bl1 w H) | ((fail_if_success (have := bl2)); intro bl2 w H) | ((fail_if_success (have := bl3)); intro bl3 w H) | ((fail_if_success (have := bl4)); intro bl4 w H) | intro _ w H)) | (refine Ze H ?_; clear H; (try clear w); intro gv w H))
  refine C.drawn2 [bl2] [0, 0, 0, 0, 2, 1, 3, 0] [5] [0, 1, 3, 7, 15, 7, 63, 127] (by kernel_rfl) ?_; replace H := H.drew; refine sgB ?_; have H0 := H
  repeat' (first | (refine X.ldF H ?_) | (refine X.stF H ?_; clear H; (try clear w); intro w H) | (refine X.ldFq H ?_) | (refine X.lenL ?_) | (refine X.lv H ?_) | (refine X.lp H ?_) | (refine X.ldT H ?_) | (refine X.stT H ?_; clear H; (try clear w); intro w H) | (refine K.build [] _ build_tree0 rfl rfl rfl ?_) | (refine X.eqL ?_ ?_ <;> intro hc <;> first | (exfalso; first | exact absurd hc (by assumption) | exact absurd (by assumption) hc) | skip) | refine Z H ?_ | (refine Zc ?_ ?_ <;> intro hc <;> first | (exfalso; omega) | skip) | (refine Y ?_; try change C _ _ _ _ _ _) | (refine Zs H ?_; clear H; (try clear w); intro w H) | (refine Zn H ?_; clear H; (try clear w); (first | ((fail_if_success (have := bl1)); intro bl1 w H) | ((fail_if_success (have := bl2)); intro bl2 w H) | ((fail_if_success (have := bl3)); intro bl3 w H) | ((fail_if_success (have := bl4)); intro bl4 w H) | intro _ w H)) | (refine Ze H ?_; clear H; (try clear w); intro gv w H))
  (refine X.call (Tree_f H hSo h44) ?_; (try clear H); rintro _ w ⟨rfl, H⟩; refine ⟨_, rfl, ?_⟩); refine L.nil ?_; refine ⟨rfl, rfl, (by repeat (first | exact subN_nil | refine subN_cons (by simp) ?_)), (by first | exact keep_same | (repeat (first | exact keepV H0 H | exact keepP H0 H | exact keep_nil | refine keep_cons ?_ ?_))), ?_⟩; clear H0; have H0 := H
  repeat' (first | (refine X.neA (eq_tree 9995 hSo hSo) guard_tree ?_; rw [decide_eq_true rfl]) | refine Go7 H ?_ | (refine Gs7 H ?_; clear H; (try clear w); intro w H) | (refine Gn H ?_; clear H; (try clear w); (first | ((fail_if_success (have := bl2)); intro bl2 w H) | ((fail_if_success (have := bl3)); intro bl3 w H) | ((fail_if_success (have := bl4)); intro bl4 w H) | intro _ w H)))
  refine ⟨rfl, rfl, (by repeat (first | exact subN_nil | refine subN_cons (by simp) ?_)), keep_same, ?_⟩
  repeat' (first | refine Go7 H ?_ | (refine Gs7 H ?_; clear H; (try clear w); intro w H) | (refine Gn H ?_; clear H; (try clear w); (first | ((fail_if_success (have := bl2)); intro bl2 w H) | ((fail_if_success (have := bl3)); intro bl3 w H) | ((fail_if_success (have := bl4)); intro bl4 w H) | intro _ w H)))
  exact ⟨agr, 40 - (i + 1), by omega, i + 1, s5, bF2, bL2, d3, m, S, _, S, rfl, by omega, by omega, rfl, hs3.trans hs5, (hCI.again hI3).mono (by omega), H.arr⟩
 ·repeat' (first | (refine X.ldF H ?_) | (refine X.stF H ?_; clear H; (try clear w); intro w H) | (refine X.ldFq H ?_) | (refine X.lenL ?_) | (refine X.lv H ?_) | (refine X.lp H ?_) | (refine X.ldT H ?_) | (refine X.stT H ?_; clear H; (try clear w); intro w H) | (refine K.build [] _ build_tree0 rfl rfl rfl ?_) | (refine X.eqL ?_ ?_ <;> intro hc <;> first | (exfalso; first | exact absurd hc (by assumption) | exact absurd (by assumption) hc) | skip) | refine Z H ?_ | (refine Zc ?_ ?_ <;> intro hc <;> first | (exfalso; omega) | skip) | (refine Y ?_; try change C _ _ _ _ _ _) | (refine Zs H ?_; clear H; (try clear w); intro w H) | (refine Zn H ?_; clear H; (try clear w); (first | ((fail_if_success (have := bl1)); intro bl1 w H) | ((fail_if_success (have := bl2)); intro bl2 w H) | ((fail_if_success (have := bl3)); intro bl3 w H) | ((fail_if_success (have := bl4)); intro bl4 w H) | intro _ w H)) | (refine Ze H ?_; clear H; (try clear w); intro gv w H))
  have H' := H.arr (rs' := fsV bF bL t 8 hs :: logM bL bp m :: dsk b d :: var bl3 51 [.int .i64 ak, .string ⟨ap.toArray⟩, .string ⟨adst.toArray⟩, .int .i64 an, .int .i64 ah, .slice aa adat.length ac, .slice ka kp.length kc] :: var bl2 41 S.cells :: [])
  clear H
  have hW := run_w (x := X5) hN3 H' ht hct hh (hp.mono hs3) hCI.inv.log.ep hCI.inv.log.home hCI.inv.log.used hCI.inv.log.plen (by rw [hCI.inv.pend]; decide) ha
  clear H'
  (refine X.call (hW) ?_; (try clear H); rintro _ w ⟨s4, d2, m2, t2, hs2', rfl, hs4, hSt, H⟩; refine ⟨_, rfl, ?_⟩)
  clear hW
  refine Gq7 H ?_
  rcases hSt.log with ⟨rfl, rfl⟩ | ⟨hx, _⟩
  ·exact ⟨agr, 40 - (i + 1), by omega, i + 1, s4, bF, bL, _, _, t2, hs2', S, rfl, by omega, by omega, rfl, hs3.trans hs4, ⟨hCI.inv, by omega, hSt.tr.ok, hSt.tr.chk, hSt.hok, hSo, hCI.schk, hCI.tree⟩, H.arr⟩
  ·exact absurd hx hsy
theorem crashes_rdg {w : World} {a : Option Addr} {n c : Nat} (hN : Nib (startRo w)) (g : Rdg Tryz.prog w 22 [.slice a n c]) : Calls Tryz.prog 7 #[.slice a n c] w fun e w' => e = .returned (.bool true) ∧ Only [] w w' := by
 obtain ⟨l, h1, h2⟩ := acts18_of g
 obtain ⟨va, vc, hv, _⟩ := formS h1
 cases hv
 exact (crashes_walk hN (Holds.start w) h1 h2).mono fun e w' h => ⟨h.1, h.2.only⟩
end
end Go.Proofs.YtgilmcpdpggikaaGreatDoor

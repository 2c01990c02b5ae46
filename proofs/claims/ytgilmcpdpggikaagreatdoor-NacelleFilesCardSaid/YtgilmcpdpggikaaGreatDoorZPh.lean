/- Squeezed copy of the texts Ph Ar1 Pi Tn Pj Pk Poa. -/
import Derived.Test.YtgilmcpdpggikaaGreatDoorZPw
import Derived.Test.YtgilmcpdpggikaaGreatDoorZAr0
import Derived.Test.YtgilmcpdpggikaaGreatDoorZK4
import Derived.Test.YtgilmcpdpggikaaGreatDoorZTx4
set_option maxRecDepth 100000
set_option maxHeartbeats 1000000
set_option linter.unusedSimpArgs false
set_option linter.unusedVariables false
namespace Go.Proofs.YtgilmcpdpggikaaGreatDoor
open Go Go.RowKit Go.Own
section
variable {w : World} {s : Ro} {R : List Asn} {bF bL bp : Nat} {t : TR} {q : Int} {hs : List Hd}
theorem changed_1 {b1 b2 n : Nat} {l1 l2 : List Str} {v1 v2 : List Value} {a1 a2 : Option Addr} {c1 c2 : Nat} (H : Holds s w (var b2 123 [.slice a2 16 c2] :: var b1 123 [.slice a1 16 c1] :: R)) (h1 : SlS s (.slice a1 16 c1) 1 16 v1) (h2 : SlS s (.slice a2 16 c2) 1 16 v2) (hv1 : PgsV s v1 l1) (hv2 : PgsV s v2 l2) (e1 : l1.length = 16) (e2 : l2.length = 16) (hn : n < 16) : Calls Tryz.prog 76 #[.int .i64 (n : Int), .pointer (some ⟨b1, 0, none⟩), .pointer (some ⟨b2, 0, none⟩)] w fun y w' => y = .returned (.bool (!decide (l1[n]?.getD [] = l2[n]?.getD []))) ∧ Holds s w' (var b2 123 [.slice a2 16 c2] :: var b1 123 [.slice a1 16 c1] :: R) := by
 obtain ⟨gb1, o1, ai1, ci1, rfl, p1, hS1⟩ := pgs_get h1 hv1 e1.symm n (by omega)
 obtain ⟨gb2, o2, ai2, ci2, rfl, p2, hS2⟩ := pgs_get h2 hv2 e2.symm n (by omega)
 rw [List.getElem?_eq_getElem (show n < l1.length by omega), List.getElem?_eq_getElem (show n < l2.length by omega)]
 simp only [Option.getD_some]
 have k1 := hv1.2 n l1[n] (List.getElem?_eq_getElem (by omega))
 generalize l1[n] = x1 at *
 generalize l2[n] = x2 at *
 refine enter Tryz.func76 rfl Tryz.ntmps76 rfl ?_
 refine Gq7 H ?_
 refine C.drawn1 [1, 0, 0, 1, 1, 0, 0, 1, 3, 0, 0] [0, 0, 3, 7, 0, 0, 48, 112, 255, 511, 1023] (by kernel_rfl) ?_; replace H := H.drew
 refine Gq7 H ?_
 have hE := Equal_t H (.ro hS1) (.ro hS2)
 by_cases he : x1 = x2
 ·rw [decide_eq_true he] at hE ⊢
  (refine X.call (hE) ?_; (try clear H); rintro _ w ⟨rfl, H⟩; refine ⟨_, rfl, ?_⟩)
  refine Gq7 H ?_
  exact ⟨_, resT rfl, rfl, H⟩
 ·rw [decide_eq_false he] at hE ⊢
  (refine X.call (hE) ?_; (try clear H); rintro _ w ⟨rfl, H⟩; refine ⟨_, rfl, ?_⟩)
  refine Gq7 H ?_
  exact ⟨_, resT rfl, rfl, H⟩
theorem changes_f {e h u : Nat} {ps : List UInt8} {dd : Bool} (H : Holds s w (fsV bF bL t q hs :: logW bL bp e h u ps dd :: R)) (ht : t.Ok) (hct : checkM t = true) (hl : ps.length = 640) : Calls Tryz.prog 50 #[.pointer (some ⟨bF, 0, none⟩)] w fun y w' => ∃ (s' : Ro) (aa : Option Addr) (cc : Nat) (cs : List Value), y = .returned (.slice aa (chgM ps t).length cc) ∧ s.Le s' ∧ SlS s' (.slice aa (chgM ps t).length cc) 2 (chgM ps t).length cs ∧ ChS s' cs (chgM ps t) ∧ Holds s' w' (fsV bF bL t q hs :: logW bL bp e h u ps dd :: R) := by
 refine enter Tryz.func50 rfl Tryz.ntmps50 rfl ?_
 refine Gq7 H ?_
 (refine X.call (stored_f H hl) ?_; (try clear H); rintro _ w ⟨s1, g1, vl1, rfl, hs1, hv1, H⟩; refine ⟨_, rfl, ?_⟩)
 obtain ⟨s2, hs2, H', hS1⟩ := H.fixRow
 clear H
 have H := H'
 clear H'
 replace hv1 := hv1.mono hs2
 (refine Gq7 H ?_; clear H; (try clear w); intro bl1 w H)
 replace H := H.arr (rs' := fsV bF bL t q hs :: var bl1 123 [.slice (some ⟨g1, 0, none⟩) 16 16] :: logW bL bp e h u ps dd :: R)
 have h16 := pages_len ht hct
 have hPg := Pages_t H ht
 rw [h16] at hPg
 (refine X.call (hPg) ?_; (try clear H); rintro _ w ⟨s3, a2, c2, vl2, rfl, hs3, hv2, H⟩; refine ⟨_, rfl, ?_⟩)
 clear hPg
 obtain ⟨s4, hs4, H', hS2⟩ := H.fixRow
 clear H
 have H := H'
 clear H'
 replace hv2 := hv2.mono hs4
 replace hv1 := hv1.mono (hs3.trans hs4)
 replace hS1 := hS1.mono (hs3.trans hs4)
 have hle4 := ((hs1.trans hs2).trans hs3).trans hs4
 (refine Gq7 H ?_; clear H; (try clear w); intro bl2 w H)
 repeat' (first | (refine B.fn ?_) | (refine X.ldF H ?_) | (refine X.stF H ?_; clear H; (try clear w); intro w H) | (refine X.ldFq H ?_) | (refine X.lenL ?_) | (refine X.lv H ?_) | (refine X.lp H ?_) | (refine X.ldT H ?_) | (refine X.stT H ?_; clear H; (try clear w); intro w H) | (refine K.build [] _ build_tree0 rfl rfl rfl ?_) | (refine X.eqL ?_ ?_ <;> intro hc <;> first | (exfalso; first | exact absurd hc (by assumption) | exact absurd (by assumption) hc) | skip) | refine Z H ?_ | (refine Zc ?_ ?_ <;> intro hc <;> first | (exfalso; omega) | skip) | (refine Y ?_; try change C _ _ _ _ _ _) | (refine Zs H ?_; clear H; (try clear w); intro w H) | (refine Zn H ?_; clear H; (try clear w); (first | ((fail_if_success (have := bl1)); intro bl1 w H) | ((fail_if_success (have := bl2)); intro bl2 w H) | intro _ w H)) | (refine Ze H ?_; clear H; (try clear w); intro gv w H))
 replace H := H.nilRow 159 2
 have H' := H.arr (rs' := row 159 2 (.slice none 0 0) 0 [] :: var bl2 123 [.slice a2 16 c2] :: var bl1 123 [.slice (some ⟨g1, 0, none⟩) 16 16] :: fsV bF bL t q hs :: logW bL bp e h u ps dd :: R)
 clear H
 refine C.loopS [6, 7, 8, 19, 20, 21, 22, 23, 24, 25, 26, 27, 28, 29, 30, 31, 32, 33] [6, 19] rfl (fun k vs w => ∃ (i : Nat) (s' : Ro) (aa : Option Addr) (cc : Nat) (cs : List Value), k = 16 - i ∧ i ≤ 16 ∧ vs = [.slice aa (chgTo ps t i).length cc, .int .i64 (i : Int)] ∧ s4.Le s' ∧ ChS s' cs (chgTo ps t i) ∧ Holds s' w (row 159 2 (.slice aa (chgTo ps t i).length cc) (chgTo ps t i).length cs :: var bl2 123 [.slice a2 16 c2] :: var bl1 123 [.slice (some ⟨g1, 0, none⟩) 16 16] :: fsV bF bL t q hs :: logW bL bp e h u ps dd :: R)) 16 ⟨0, s4, none, 0, [], rfl, Nat.zero_le _, rfl, Ro.Le.refl _, ChS.nil _, H'⟩ ?_
 clear H'
 rintro k vs hv w ⟨i, s5, aa, cc, cs, rfl, hi, rfl, hs5, hch, H⟩
 by_cases hlt : i < 16
 ·obtain ⟨gb, o, ai, ci, hae, pn, hsl⟩ := pgs_get (hS2.mono hs5) (hv2.mono hs5) h16.symm i (by omega)
  cases hae
  have hcl := chgTo_le ps t i
  have hsu := chgTo_succ ps t i
  have hpt : (pagesM t)[i]'(by omega) = pgT t i := by
   unfold pgT
   rw [List.getElem?_eq_getElem (by omega)]; rfl
  rw [hpt] at pn hsl
  have h40 := pgT_len ht hct hlt
  have hC1 : (pgsOf ps)[i]?.getD [] = getP ps i := pgsOf_get hlt
  have hC2 : (pagesM t)[i]?.getD [] = pgT t i := rfl
  repeat' (first | (refine B.fn ?_) | (refine X.ldF H ?_) | (refine X.stF H ?_; clear H; (try clear w); intro w H) | (refine X.ldFq H ?_) | (refine X.lenL ?_) | (refine X.lv H ?_) | (refine X.lp H ?_) | (refine X.ldT H ?_) | (refine X.stT H ?_; clear H; (try clear w); intro w H) | (refine K.build [] _ build_tree0 rfl rfl rfl ?_) | (refine X.eqL ?_ ?_ <;> intro hc <;> first | (exfalso; first | exact absurd hc (by assumption) | exact absurd (by assumption) hc) | skip) | refine Z H ?_ | (refine Zc ?_ ?_ <;> intro hc <;> first | (exfalso; omega) | skip) | (refine Y ?_; try change C _ _ _ _ _ _) | (refine Zs H ?_; clear H; (try clear w); intro w H) | (refine Zn H ?_; clear H; (try clear w); (first | ((fail_if_success (have := bl1)); intro bl1 w H) | ((fail_if_success (have := bl2)); intro bl2 w H) | intro _ w H)) | (refine Ze H ?_; clear H; (try clear w); intro gv w H))
  have H' := H.arr (rs' := var bl2 123 [.slice (some ⟨gb, o, none⟩) 16 c2] :: var bl1 123 [.slice (some ⟨g1, 0, none⟩) 16 16] :: row 159 2 (.slice aa (chgTo ps t i).length cc) (chgTo ps t i).length cs :: fsV bF bL t q hs :: logW bL bp e h u ps dd :: R)
  clear H
  have hCh := changed_1 (n := i) H' (hS1.mono hs5) (hS2.mono hs5) (hv1.mono hs5) (hv2.mono hs5) (pgsOf_len ps) h16 hlt
  clear H'
  rw [hC1, hC2] at hCh
  generalize pgT t i = pg at *
  by_cases he : getP ps i = pg
  ·rw [if_pos he] at hsu
   rw [decide_eq_true he] at hCh
   refine B.call hCh ?_
   clear hCh
   rintro _ w ⟨rfl, H⟩
   refine ⟨_, rfl, ?_⟩
   refine Gq7 H ?_
   exact ⟨agr, 16 - (i + 1), by omega, i + 1, s5, aa, cc, cs, rfl, by omega, by rw [hsu]; rfl, hs5, by rw [hsu]; exact hch, by rw [hsu]; exact H.arr⟩
  ·rw [if_neg he] at hsu
   rw [decide_eq_false he] at hCh
   refine B.call hCh ?_
   clear hCh
   rintro _ w ⟨rfl, H⟩
   refine ⟨_, rfl, ?_⟩
   have hch2 := hch.snoc (c := ⟨(i : Int), pg⟩) hsl
   have hn1 : (chgTo ps t i ++ [(⟨(i : Int), pg⟩ : Ch)]).length = (chgTo ps t i).length + 1 := by rw [List.length_append]; rfl
   generalize chgTo ps t i = lc at *
   replace H := H.arr (rs' := row 159 2 (.slice aa lc.length cc) lc.length cs :: var bl2 123 [.slice (some ⟨gb, o, none⟩) 16 c2] :: var bl1 123 [.slice (some ⟨g1, 0, none⟩) 16 16] :: fsV bF bL t q hs :: logW bL bp e h u ps dd :: R)
   repeat' (first | (refine K.build [(0, .int .i64 (i : Int)), (1, .slice ai pg.length ci)] (.agg #[.int .i64 (i : Int), .slice ai pg.length ci]) (build_change _ _ _ _) rfl rfl rfl ?_) | refine Go7 H ?_ | (refine Gs7 H ?_; clear H; (try clear w); intro w H) | (refine Gn H ?_; clear H; (try clear w); (first | ((fail_if_success (have := bl1)); intro bl1 w H) | ((fail_if_success (have := bl2)); intro bl2 w H) | intro _ w H)))
   refine K.one (v := .agg #[.int .i64 (i : Int), .slice ai pg.length ci]) (cs := [.int .i64 (i : Int), .slice ai pg.length ci]) H rfl rfl rfl rfl rfl ?_
   clear H
   intro g5 w H
   repeat' (first | (refine X.app H ?_; clear H; intro a3 c3 w H) | refine Go7 H ?_ | (refine Gs7 H ?_; clear H; (try clear w); intro w H) | (refine Gn H ?_; clear H; (try clear w); (first | ((fail_if_success (have := bl1)); intro bl1 w H) | ((fail_if_success (have := bl2)); intro bl2 w H) | intro _ w H)))
   have H' := H.arr (rs' := row 159 2 (.slice a3 (lc.length + 1) c3) (lc.length + 1) (cs ++ [.int .i64 (i : Int), .slice ai pg.length ci]) :: var bl2 123 [.slice (some ⟨gb, o, none⟩) 16 c2] :: var bl1 123 [.slice (some ⟨g1, 0, none⟩) 16 16] :: fsV bF bL t q hs :: logW bL bp e h u ps dd :: R)
   exact ⟨agr, 16 - (i + 1), by omega, i + 1, s5, a3, c3, _, rfl, by omega, by rw [hsu, hn1]; rfl, hs5, by rw [hsu]; exact hch2, by rw [hsu, hn1]; exact H'⟩
 ·have hie : i = 16 := by omega
  subst hie
  change ChS s5 cs (chgM ps t) at hch
  change Holds s5 w (row 159 2 (.slice aa (chgM ps t).length cc) (chgM ps t).length cs :: var bl2 123 [.slice a2 16 c2] :: var bl1 123 [.slice (some ⟨g1, 0, none⟩) 16 16] :: fsV bF bL t q hs :: logW bL bp e h u ps dd :: R) at H
  obtain ⟨s6, hs6, H', hS⟩ := H.fixRow
  clear H
  have H := H'
  clear H'
  refine Gq7 H ?_
  exact ⟨_, resT rfl, s6, aa, cc, cs, rfl, (hle4.trans hs5).trans hs6, hS, hch.mono hs6, H.tail.tail⟩
theorem Dead_f {e h u : Nat} {ps : List UInt8} {dd : Bool} (H : Holds s w (logW bL bp e h u ps dd :: R)) (hl : ps.length = 640) : Calls Tryz.prog 52 #[.pointer (some ⟨bL, 0, none⟩)] w fun y w' => y = .returned (.bool dd) ∧ Holds s w' (logW bL bp e h u ps dd :: R) := by
 unfold logW at *
 refine enter Tryz.func52 rfl Tryz.ntmps52 rfl ?_
 repeat' (first | (refine K.load (v := .bool dd) 0 H rfl rfl rfl rfl (get_dead hl) ?_) | refine Go3 H ?_ | (refine Gs3 H ?_; clear H; (try clear w); intro w H) | (refine Gn H ?_; clear H; (try clear w); intro _ w H))
 exact ⟨_, resT rfl, rfl, H⟩
theorem Sync_f {b : Nat} {d : DM} {x : Ext} {m : WL} (hN : Nib s) (H : Holds s w (fsV bF bL t q hs :: logM bL bp m :: dsk b d :: R)) (ht : t.Ok) (hct : checkM t = true) (hp : PartS s bp b x) (he : m.epoch < 2 ^ 32) (hh : m.home ≤ 1) (hu : m.used ≤ 18) (hl : m.pages.length = 640) (hpl : d.pend.length ≤ 10000) : Calls Tryz.prog 22 #[.pointer (some ⟨bF, 0, none⟩)] w fun y w' => ∃ (s' : Ro), y = .returned (.int .i64 (syncM d x m t).2.2) ∧ s.Le s' ∧ Holds s' w' (fsV bF bL t q hs :: logM bL bp (syncM d x m t).2.1 :: dsk b (syncM d x m t).1 :: R) := by
 unfold syncM
 refine enter Tryz.func22 rfl Tryz.ntmps22 rfl ?_
 refine Gq7 H ?_
 (refine X.call (changes_f H ht hct hl) ?_; (try clear H); rintro _ w ⟨s1, aa, cc, cs, rfl, hs1, hS, hch, H⟩; refine ⟨_, rfl, ?_⟩)
 have hcl : (chgM m.pages t).length ≤ 16 := chgTo_le _ _ _
 generalize chgM m.pages t = lc at *
 by_cases h0 : lc.length = 0
 ·rw [if_pos h0]
  refine Gq7 H ?_
  have H' := H.arr (rs' := logM bL bp m :: fsV bF bL t q hs :: dsk b d :: R)
  clear H
  have hD := Dead_f H' hl
  clear H'
  cases hdd : m.dead with
  | true =>
   rw [hdd] at hD
   (refine X.call (hD) ?_; (try clear H); rintro _ w ⟨rfl, H⟩; refine ⟨_, rfl, ?_⟩)
   refine Gq7 H ?_
   refine ⟨_, resT rfl, s1, rfl, hs1, ?_⟩
   have H' := H.arr (rs' := fsV bF bL t q hs :: logW bL bp m.epoch m.home m.used m.pages true :: dsk b d :: R)
   rw [← hdd] at H'
   exact H'
  | false =>
   rw [hdd] at hD
   (refine X.call (hD) ?_; (try clear H); rintro _ w ⟨rfl, H⟩; refine ⟨_, rfl, ?_⟩)
   refine Gq7 H ?_
   refine ⟨_, resT rfl, s1, rfl, hs1, ?_⟩
   have H' := H.arr (rs' := fsV bF bL t q hs :: logW bL bp m.epoch m.home m.used m.pages false :: dsk b d :: R)
   rw [← hdd] at H'
   exact H'
 ·rw [if_neg h0]
  refine Gq7 H ?_
  have H' := H.arr (rs' := logM bL bp m :: dsk b d :: fsV bF bL t q hs :: R)
  clear H
  have hCm := Commit_l (hN.mono hs1) H' (hp.mono hs1) he hh hu hl hS hch (by omega) hpl
  clear H'
  (refine X.call (hCm) ?_; (try clear H); rintro _ w ⟨rfl, H⟩; refine ⟨_, rfl, ?_⟩)
  refine Gq7 H ?_
  exact ⟨_, resT rfl, s1, rfl, hs1, H.arr⟩
end
end Go.Proofs.YtgilmcpdpggikaaGreatDoor
namespace Go.Proofs.YtgilmcpdpggikaaGreatDoor
open Go Go.RowKit Go.Own
open Go.ChangeShapes Go.WideShapes Go.ChangeAt
section
variable {P : Program} {w : World} {t e : TypeId} {cs : List Value}
theorem rdg_u8s {v : Value} (hu : P.underlying t = some (.slice e)) (he : P.underlying e = some (.int .u8)) (hc : P.cellsOf e = 1) (hb : P.bytesOf e = 1) (h : Rdg P w t [v]) : ∃ l : List UInt8, Sl w v 1 l.length (u8s l) ∧ l.length ≤ reachBytes := by
 obtain ⟨l, h1, h2, h3⟩ := rdg_ints hu he hc h
 have he : l.map (Value.int .u8) = u8s (l.map fun n => UInt8.ofNat n.toNat) := by
  unfold u8s
  rw [List.map_map]
  refine List.map_congr_left fun n hn => ?_
  obtain ⟨x, hx⟩ := wf_u8 (h2 n hn)
  have hxe : n = (x.toNat : Int) := by unfold u8 at hx; exact (Value.int.inj hx).2
  subst hxe
  show Value.int .u8 (x.toNat : Int) = u8 (UInt8.ofNat ((x.toNat : Int)).toNat)
  rw [Int.toNat_natCast, UInt8.ofNat_toNat]; rfl
 rw [hb, Nat.mul_one] at h3
 refine ⟨l.map fun n => UInt8.ofNat n.toNat, ?_, by rw [List.length_map]; exact h3⟩
 rw [List.length_map, ← he]
 exact h1
end
theorem reach_le2 : reachBytes ≤ 140737488355328 := by decide
end Go.Proofs.YtgilmcpdpggikaaGreatDoor
namespace Go.Proofs.YtgilmcpdpggikaaGreatDoor
open Go Go.RowKit Go.Own
structure T3 (t : TR) (q : Int) (u : TR) : Prop where
 ok : u.Ok
 chk : checkM u = true
 used : (usedN u : Int) ≤ usedN t ∨ (usedN u : Int) ≤ q
theorem T3.refl {t : TR} {q : Int} (ht : t.Ok) (hc : checkM t = true) : T3 t q t := ⟨ht, hc, .inl (Int.le_refl _)⟩
section
variable {t : TR} {q : Int} {hs : List Hd}
theorem T3.bec {r : TR × Int} (ht : t.Ok) (hc : checkM t = true) (h1 : r.1.Ok) (h2 : r.2 = 0 → checkM r.1 = true) (h3 : r.2 = 0 → usedN r.1 ≤ usedN t) : T3 t q (becM t r) := by
 unfold becM
 split
 ·rename_i h; exact ⟨h1, h2 h, .inl (by have := h3 h; omega)⟩
 ·exact T3.refl ht hc
theorem T3.make (ht : t.Ok) (hc : checkM t = true) {p : Str} {k : Int} : T3 t q (becM t (makeM t p k)) := T3.bec ht hc (ok_make ht) (check_make ht) (used_make ht)
theorem T3.rem (ht : t.Ok) (hc : checkM t = true) {p : Str} : T3 t q (remF t hs p).1 := by
 unfold remF
 split
 ·exact T3.refl ht hc
 rename_i h
 split
 ·exact T3.refl ht hc
 ·have h0 : (removeM t p).2 = 0 := by omega
  exact ⟨ok_remove ht, check_remove ht h0, .inl (by have := used_remove ht h0; dsimp only; omega)⟩
theorem T3.write (ht : t.Ok) (hc : checkM t = true) {n : Int} {b : Str} : T3 t q (writeF t q hs n b).1 := by
 unfold writeF
 split
 ·split
  ·rename_i h
   exact ⟨ok_write ht, check_write ht h, used_write ht h⟩
  ·exact T3.refl ht hc
 ·exact T3.refl ht hc
theorem HOk.open (h : HOk hs) {p : Str} : HOk (openF t hs p).1 := by
 unfold openF
 split
 ·exact h
 split
 ·exact h
 split
 ·exact h
 ·exact h.set _ ⟨Int.le_refl _, by show (0 : Int) ≤ 80; decide⟩
theorem HOk.close (h : HOk hs) {n : Int} : HOk (closeF hs n).1 := by
 unfold closeF
 split
 ·exact h.set _ ⟨Int.le_refl _, by show (0 : Int) ≤ 80; decide⟩
 ·exact h
theorem OpenH.at_ (h : HOk hs) {n : Int} (ho : OpenH hs n) : (hd hs n.toNat).Ok := h.get (by have := ho.1; have := ho.2.1; omega)
theorem HOk.read (ht : t.Ok) (h : HOk hs) {n m : Int} : HOk (readF t hs n m).1 := by
 unfold readF
 split
 ·rename_i ho
  have ha := ho.at_ h
  split
  ·exact h
  ·exact h.set _ (read_len ht ha.1 ha.2)
 ·exact h
theorem HOk.write (h : HOk hs) {n : Int} {b : Str} : HOk (writeF t q hs n b).2.1 := by
 unfold writeF
 split
 ·rename_i ho
  have ha := ho.at_ h
  split
  ·rename_i h0
   have := write_len h0
   exact h.set _ ⟨by dsimp only; have := ha.1; omega, by dsimp only; omega⟩
  ·exact h
 ·exact h
end
structure A18 where
 k : Int
 path : Str
 dst : Str
 n : Int
 h : Int
 data : Str
 a : Option Addr
 c : Nat
 kv : Value
 keep : List Bool
def A18.cells (x : A18) : List Value := [.int .i64 x.k, .string ⟨x.path.toArray⟩, .string ⟨x.dst.toArray⟩, .int .i64 x.n, .int .i64 x.h, .slice x.a x.data.length x.c, x.kv]
structure A18.Ok (s : Ro) (x : A18) : Prop where
 dl : x.data.length ≤ 140737488355328
 sl : SlS s (.slice x.a x.data.length x.c) 1 x.data.length (u8s x.data)
 keep : SlS s x.kv 1 x.keep.length (x.keep.map Value.bool)
 klen : x.keep.length ≤ 140737488351232
 hn : I64 x.n
theorem A18.Ok.mono {s s' : Ro} {x : A18} (h : x.Ok s) (hs : s.Le s') : x.Ok s' := ⟨h.dl, h.sl.mono hs, h.keep.mono hs, h.klen, h.hn⟩
section
variable {w : World} {s : Ro} {R : List Asn} {bF bL bp b : Nat} {t : TR} {q : Int} {hs : List Hd} {d : DM} {x : Ext} {m : WL}
end
section
variable {s : Ro} {w : World} {R : List Asn}
end
section
variable {P : Program} {e : Env} {w : World} {s : Ro} {rs : List Asn}
end
section
variable {w : World} {s : Ro} {R : List Asn}
theorem Format_p18 {b bp : Nat} {d : DM} {x : Ext} (hN : Nib s) (H : Holds s w (dsk b d :: R)) (hp : PartS s bp b x) (hx : 52 ≤ x.2) (hpl : d.pend.length ≤ 10000) : Calls Tryz.prog 36 #[.pointer (some ⟨bp, 0, none⟩)] w fun y w' => y = .returned (.int .i64 (run x formatSteps d).2) ∧ Holds s w' (dsk b (run x formatSteps d).1 :: R) := by
 refine enter Tryz.func36 rfl Tryz.ntmps36 rfl ?_
 refine Gq3 H ?_
 (refine X.call (Format_g hN H hp hx hpl) ?_; (try clear H); rintro _ w ⟨rfl, H⟩; refine ⟨_, rfl, ?_⟩)
 refine Gq3 H ?_
 exact ⟨_, resT rfl, rfl, H⟩
end
end Go.Proofs.YtgilmcpdpggikaaGreatDoor
namespace Go.Proofs.YtgilmcpdpggikaaGreatDoor
open Go Go.RowKit Go.Own
open Go.ChangeShapes Go.WideShapes Go.ChangeAt
section
variable {w : World} {s : Ro} {R : List Asn}
end
theorem WInv.crashed {N f : Nat} {d : DM} {m : WL} (h : WInv N f d m) (sv : List Bool) : WInv N f (d.crash sv).power m := by
 have e : (d.crash sv).secs = d.secs := by
  unfold DM.crash
  rw [h.off, if_neg (by decide), h.pend]
  simp [layS]
 exact WInv.powered (d := d.crash sv) (by rw [secF_congr e]; exact h.log) (by rw [e]; exact h.len)
section
variable {w : World} {s : Ro} {R : List Asn} {bF bL : Nat} {t : TR} {q : Int} {hs : List Hd}
theorem Tree_k (hT : w.heap[bF]? = some (.cells (fsC bL t q hs).toArray 102 (0, 0))) (ht : t.Ok) : Calls Tryz.prog 11 #[.pointer (some ⟨bF, 0, none⟩)] w fun e w' => e = .returned (.agg t.cells.toArray) ∧ Only [] w w' := by
 have H := Holds.start w
 have hz := TR.ok_zero
 have p1 : ∀ j v, t.cells[j]? = some v → Pin (startRo w) bF (1 + j) v := fun j v hv => pin_of hT (by
  unfold fsC
  rw [Nat.add_comm, List.getElem?_cons_succ, List.getElem?_append_left (by have := (List.getElem?_eq_some_iff.1 hv).1; exact this)]
  exact hv)
 clear hT
 have hcl := TR.cells_len ht
 generalize hS : startRo w = s0 at *
 refine enter Tryz.func11 rfl Tryz.ntmps11 rfl ?_
 repeat' (first | (refine X.ldq (v := .bool true) H ?_ (hp := p1) (hn := hcl)) | refine Go7 H ?_ | (refine Gs7 H ?_; clear H; (try clear w); intro w H) | (refine Gn H ?_; clear H; (try clear w); intro _ w H))
 refine ⟨_, resV (cs := t.cells) H rfl rfl inferInstance hcl, rfl, ?_⟩
 rw [← hS] at H
 exact (H.done (Ro.Le.refl _)).only
theorem Tree_e (H : Holds s w (fsV bF bL t q hs :: R)) (ht : t.Ok) : Calls Tryz.prog 11 #[.pointer (some ⟨bF, 0, none⟩)] w fun e w' => e = .returned (.agg t.cells.toArray) ∧ Only [] w w' ∧ Holds s w' (fsV bF bL t q hs :: R) :=
 (Tree_k (H.var (i := 0) rfl) ht).mono fun e w' ⟨he, ho⟩ => ⟨he, ho, H.only0 ho⟩
end
end Go.Proofs.YtgilmcpdpggikaaGreatDoor

/- Squeezed copy of the texts Pg Ph Ar1. -/
import Derived.Test.YtgilmcpdpggikaaGreatDoorCPf
import Derived.Test.YtgilmcpdpggikaaGreatDoorCWv
import Derived.Test.YtgilmcpdpggikaaGreatDoorCWl
import Derived.Test.YtgilmcpdpggikaaGreatDoorCK4
set_option maxRecDepth 100000
set_option maxHeartbeats 1000000
set_option linter.unusedSimpArgs false
set_option linter.unusedVariables false
namespace Go.Proofs.YtgilmcpdpggikaaGreatDoor
open Go Go.RowKit Go.Own
abbrev logM (bL bp : Nat) (m : WL) : Asn := logW bL bp m.epoch m.home m.used m.pages m.dead
theorem build_fs (bL : Nat) (q : Int) (w : World) : (Instr.build 102 [(0, .pointer (some ⟨bL, 0, none⟩)), (2, .int .i64 q)].toArray).run Tryz.prog w = .ok (.agg (fsC bL TR.zero q (List.replicate 4 Hd.zero)).toArray) w := by kernel_rfl
theorem pgs_get {s : Ro} {vl : List Value} {l : List Str} {a : Option Addr} {n c : Nat} (h : SlS s (.slice a n c) 1 n vl) (hv : PgsV s vl l) (hn : n = l.length) : ∀ (i : Nat) (hi : i < l.length), ∃ (gb o : Nat) (ai : Option Addr) (ci : Nat), a = some ⟨gb, o, none⟩ ∧ Pin s gb (o + i * 1) (.slice ai (l[i]).length ci) ∧ SlS s (.slice ai (l[i]).length ci) 1 (l[i]).length (u8s l[i]) := by
 intro i hi
 subst hn
 obtain ⟨gb, o, c', hv', _, _, hpn⟩ := posS h (by omega) (by decide)
 cases hv'
 obtain ⟨ai, ci, h1, h2⟩ := hv.2 i l[i] (List.getElem?_eq_getElem hi)
 exact ⟨gb, o, ai, ci, rfl, by rw [Nat.mul_one]; exact hpn i _ h1, h2⟩
section
variable {w : World} {s : Ro} {R : List Asn} {bF bL bp : Nat} {t : TR} {q : Int} {hs : List Hd}
theorem stored_f {e h u : Nat} {ps : List UInt8} {dd : Bool} (H : Holds s w (fsV bF bL t q hs :: logW bL bp e h u ps dd :: R)) (hl : ps.length = 640) : Calls Tryz.prog 54 #[.pointer (some ⟨bF, 0, none⟩)] w fun y w' => ∃ (s' : Ro) (g : Nat) (vl : List Value), y = .returned (.slice (some ⟨g, 0, none⟩) 16 16) ∧ s.Le s' ∧ PgsV s' vl (pgsOf ps) ∧ Holds s' w' (row 30 1 (.slice (some ⟨g, 0, none⟩) 16 16) 16 vl :: fsV bF bL t q hs :: logW bL bp e h u ps dd :: R) := by
 refine enter Tryz.func54 rfl Tryz.ntmps54 rfl ?_
 refine Gq7 H ?_
 refine K.make (k := 16) (m := 16) H rfl rfl rfl rfl rfl (by decide) (by decide) (by decide) ?_
 clear H
 intro g1 w H
 rw [rep_flat] at H
 refine Gq7 H ?_
 have H' : Holds s w (row 30 1 (.slice (some ⟨g1, 0, none⟩) 16 16) 16 ([] ++ List.replicate (16 - 0) (.slice none 0 0)) :: fsV bF bL t q hs :: logW bL bp e h u ps dd :: R) := H
 clear H
 refine C.loopS [4, 8, 9, 10, 11, 12, 13, 14, 15, 16, 17, 18, 19, 20, 21, 22, 23] [8] rfl (fun k vs w => ∃ (i : Nat) (s' : Ro) (vl : List Value), k = 16 - i ∧ i ≤ 16 ∧ vs = [.int .i64 (i : Int)] ∧ s.Le s' ∧ PgsV s' vl ((List.range i).map (getP ps)) ∧ Holds s' w (row 30 1 (.slice (some ⟨g1, 0, none⟩) 16 16) 16 (vl ++ List.replicate (16 - i) (.slice none 0 0)) :: fsV bF bL t q hs :: logW bL bp e h u ps dd :: R)) 16 ⟨0, s, [], rfl, Nat.zero_le _, rfl, Ro.Le.refl _, PgsV.nil, H'⟩ ?_
 clear H'
 rintro k vs hv w ⟨i, s1, vl, rfl, hi, rfl, hs1, hpg, H⟩
 have hvl : vl.length = i := by rw [hpg.1, List.length_map, List.length_range]
 by_cases hlt : i < 16
 ·have hrl : (vl ++ List.replicate (16 - i) (Value.slice none 0 0)).length = 16 := by rw [List.length_append, hvl, List.length_replicate]; omega
  refine Gq7 H ?_
  replace H := H.arr (rs' := logW bL bp e h u ps dd :: row 30 1 (.slice (some ⟨g1, 0, none⟩) 16 16) 16 (vl ++ List.replicate (16 - i) (.slice none 0 0)) :: fsV bF bL t q hs :: R)
  (refine X.call (Page_l (n := i) H hl hlt) ?_; (try clear H); rintro _ w ⟨g2, rfl, H⟩; refine ⟨_, rfl, ?_⟩)
  obtain ⟨s2, hs2, H', hS⟩ := H.fixRow
  clear H
  have H := H'
  clear H'
  have hl0 : 0 + i * 1 < (vl ++ List.replicate (16 - i) (Value.slice none 0 0)).length := by omega
  have hst := setMid (l := vl) (z := Value.slice none 0 0) (x := .slice (some ⟨g2, 0, none⟩) (getP ps i).length 40) (k := 16 - i) hvl (by omega)
  have hpg2 : PgsV s2 (vl ++ [.slice (some ⟨g2, 0, none⟩) (getP ps i).length 40]) ((List.range (i + 1)).map (getP ps)) := by
   rw [List.range_succ, List.map_append]
   exact (hpg.mono hs2).snoc hS
  generalize getP ps i = pg at *
  repeat' (first | (refine X.rst H ?_ (hl := hl0); clear H; (try clear w); intro w H) | refine Go7 H ?_ | (refine Gs7 H ?_; clear H; (try clear w); intro w H) | (refine Gn H ?_; clear H; (try clear w); intro _ w H))
  rw [show 0 + i * 1 = i by omega, hst] at H
  have H' := H.arr (rs' := row 30 1 (.slice (some ⟨g1, 0, none⟩) 16 16) 16 (vl ++ [.slice (some ⟨g2, 0, none⟩) pg.length 40] ++ List.replicate (16 - (i + 1)) (.slice none 0 0)) :: fsV bF bL t q hs :: logW bL bp e h u ps dd :: R)
  exact ⟨agr, 16 - (i + 1), by omega, i + 1, s2, vl ++ [.slice (some ⟨g2, 0, none⟩) pg.length 40], rfl, by omega, rfl, hs1.trans hs2, hpg2, H'⟩
 ·have hie : i = 16 := by omega
  subst hie
  rw [Nat.sub_self, List.replicate_zero, List.append_nil] at H
  refine Gq7 H ?_
  exact ⟨_, resT rfl, s1, g1, vl, rfl, hs1, hpg, H⟩
theorem blank_f {l : List Str} {vl : List Value} {a : Option Addr} {c : Nat} (H : Holds s w R) (h : SlS s (.slice a l.length c) 1 l.length vl) (hv : PgsV s vl l) (hl : l.length ≤ 1000) (hp : ∀ p ∈ l, p.length ≤ 1000) : Calls Tryz.prog 55 #[.slice a l.length c] w fun y w' => y = .returned (.bool (blankL l)) ∧ Holds s w' R := by
 have hel := pgs_get h hv rfl
 refine enter Tryz.func55 rfl Tryz.ntmps55 rfl ?_
 refine Gq7 H ?_
 refine C.loopH H [2, 4, 6, 9, 10, 11, 12, 13, 14, 15, 16, 17, 18, 19, 20, 21, 22] [9] rfl (fun k vs => ∃ i : Nat, k = l.length - i ∧ i ≤ l.length ∧ vs = [.int .i64 (i : Int)] ∧ blankL (l.take i) = true) l.length ⟨0, rfl, Nat.zero_le _, rfl, rfl⟩ ?_
 clear H
 rintro k vs hv1 w ⟨i, rfl, hi, rfl, hb⟩ H
 by_cases hlt : i < l.length
 ·obtain ⟨gb, o, ai, ci, rfl, pn, hsl⟩ := hel i hlt
  have hpl := hp l[i] (List.getElem_mem hlt)
  have hsu : blankL (l.take (i + 1)) = (l[i]).all fun c => decide (c = 0) := by
   unfold blankL at hb ⊢
   rw [List.take_succ_eq_append_getElem hlt, List.all_append, hb]; simp
  have hbad : ((l[i]).all fun c => decide (c = 0)) = false → blankL l = false := fun hh => by
   unfold blankL
   cases hq : l.all (fun p => p.all fun c => decide (c = 0)) with
   | false => rfl
   | true => rw [List.all_eq_true] at hq; have := hq l[i] (List.getElem_mem hlt); rw [hh] at this; cases this
  generalize l[i] = p at *
  refine Gq7 H ?_
  refine C.loopH H [2, 6, 15, 16, 17, 18, 19, 20, 21] [15] rfl (fun k vs => ∃ j : Nat, k = p.length - j ∧ j ≤ p.length ∧ vs = [.int .i64 (j : Int)] ∧ ((p.take j).all fun c => decide (c = 0)) = true) p.length ⟨0, rfl, Nat.zero_le _, rfl, rfl⟩ ?_
  clear H
  rintro k vs hv2 w ⟨j, rfl, hj, rfl, hb2⟩ H
  by_cases hjl : j < p.length
  ·obtain ⟨g2, o2, c2, hv', _, _, hpn⟩ := posS hsl (by omega) (by decide)
   cases hv'
   have p2 : Pin s g2 (o2 + j * 1) (u8 p[j]) := by
    rw [Nat.mul_one]
    exact hpn j _ (by unfold u8s; rw [List.getElem?_map, List.getElem?_eq_getElem hjl]; rfl)
   have hsu2 : ((p.take (j + 1)).all fun c => decide (c = 0)) = decide (p[j] = 0) := by
    rw [List.take_succ_eq_append_getElem hjl, List.all_append, hb2]; simp
   have hall : p[j] ≠ 0 → (p.all fun c => decide (c = 0)) = false := fun hh => by
    cases hq : p.all (fun c => decide (c = 0)) with
    | false => rfl
    | true => rw [List.all_eq_true] at hq; have := hq p[j] (List.getElem_mem hjl); exact absurd (of_decide_eq_true this) hh
   generalize p[j] = x at *
   have hx0 : x = 0 ↔ (x.toNat : Int) = 0 := by
    constructor
    ·rintro rfl; rfl
    ·intro hh
     have : x.toNat = (0 : UInt8).toNat := by simpa using hh
     exact UInt8.toNat_inj.1 this
   unfold u8 at p2
   by_cases hx : x = 0
   ·have hxn := hx0.1 hx
    refine Gq7 H ?_
    exact ⟨agr, p.length - (j + 1), by omega, ⟨j + 1, rfl, by omega, rfl, by rw [hsu2, decide_eq_true hx]⟩, H⟩
   ·have hxn : ¬ (x.toNat : Int) = 0 := fun hh => hx (hx0.2 hh)
    refine Gq7 H ?_
    exact ⟨_, resT rfl, by rw [hbad (hall hx)]; rfl, H⟩
  ·have hje : j = p.length := by omega
   subst hje
   rw [List.take_length] at hb2
   refine Gq7 H ?_
   exact ⟨agr, l.length - (i + 1), by omega, ⟨i + 1, rfl, by omega, rfl, by rw [hsu]; exact hb2⟩, H⟩
 ·have hie : i = l.length := by omega
  subst hie
  rw [List.take_length] at hb
  refine Gq7 H ?_
  exact ⟨_, resT rfl, by rw [hb]; rfl, H⟩
theorem pgsOf_40 {ps : List UInt8} (hl : ps.length = 640) : ∀ p ∈ pgsOf ps, p.length = 40 := by
 intro p hp
 obtain ⟨i, hi, rfl⟩ := List.mem_map.1 hp
 exact getP_len hl (List.mem_range.1 hi)
theorem Mount_f {b : Nat} {d : DM} {x : Ext} {m : WL} (hN : Nib s) (H : Holds s w (dsk b d :: R)) (hp : PartS s bp b x) (hx : 52 ≤ x.2) (hon : ∀ k : Nat, k < 52 → (pread d x (k : Int)).2 = 0) (hop : openM d x = (some m, 0)) (hl : m.pages.length = 640) (hT : treeOf m.pages = (t, 0)) (ht : t.Ok) (hq : 0 ≤ q ∧ q ≤ 8) : Calls Tryz.prog 23 #[.pointer (some ⟨bp, 0, none⟩), .int .i64 q] w fun y w' => ∃ (s' : Ro) (bF bL : Nat), y = .returned (.tuple #[.pointer (some ⟨bF, 0, none⟩), .int .i64 0]) ∧ s.Le s' ∧ Holds s' w' (fsV bF bL t q (List.replicate 4 Hd.zero) :: logM bL bp m :: dsk b d :: R) := by
 have hz := TR.ok_zero
 have hnew := TR.ok_new
 have h44 : (List.replicate 4 Hd.zero).length = 4 := rfl
 obtain ⟨hq1, hq2⟩ := hq
 refine enter Tryz.func23 rfl Tryz.ntmps23 rfl ?_
 refine Gq7 H ?_
 refine X.call (Open_g hN H hp hx hon) ?_
 clear H
 rintro _ w ⟨s2, hs2, hcase⟩
 obtain ⟨m', bL, ho, rfl, H⟩ := hcase.resolve_right (fun ⟨c, ho, _⟩ => by rw [hop] at ho; cases ho)
 clear hcase
 rw [hop] at ho
 cases ho
 refine ⟨_, rfl, ?_⟩
 repeat' (first | (refine K.build [(0, .pointer (some ⟨bL, 0, none⟩)), (2, .int .i64 q)] _ (build_fs _ _) rfl rfl rfl ?_) | refine Go7 H ?_ | (refine Gs7 H ?_; clear H; (try clear w); intro w H) | (refine Gn H ?_; clear H; (try clear w); (first | ((fail_if_success (have := bl1)); intro bl1 w H) | intro _ w H)))
 have H' : Holds s2 w (fsV bl1 bL TR.zero q (List.replicate 4 Hd.zero) :: logM bL bp m :: dsk b d :: R) := H
 clear H
 have H := H'
 clear H'
 (refine X.call (stored_f H hl) ?_; (try clear H); rintro _ w ⟨s3, g1, vl, rfl, hs3, hv, H⟩; refine ⟨_, rfl, ?_⟩)
 obtain ⟨s4, hs4, H', hS⟩ := H.fixRow
 clear H
 have H := H'
 clear H'
 replace hv := hv.mono hs4
 have h16 := pgsOf_len m.pages
 have h40 := pgsOf_40 hl
 unfold treeOf at hT
 generalize pgsOf m.pages = l at *
 replace hS : SlS s4 (.slice (some ⟨g1, 0, none⟩) l.length 16) 1 l.length vl := by rw [h16]; exact hS
 have hB := blank_f H hS hv (by omega) (fun p hp => by rw [h40 p hp]; decide)
 have hP := parse_t H hS hv (by omega) (fun p hp => by rw [h40 p hp]; decide)
 rw [h16] at hB hP
 refine Gq7 H ?_
 by_cases hbl : blankL l = true
 ·rw [if_pos hbl] at hT
  cases hT
  rw [hbl] at hB
  (refine X.call (hB) ?_; (try clear H); rintro _ w ⟨rfl, H⟩; refine ⟨_, rfl, ?_⟩)
  clear hB hP
  refine Gq7 H ?_
  (refine X.call (NewT_s H) ?_; (try clear H); rintro _ w ⟨rfl, H⟩; refine ⟨_, rfl, ?_⟩)
  (refine Gq7 H ?_; clear H; (try clear w); intro w H)
  exact ⟨_, resTT rfl, s4, bl1, bL, rfl, (hs2.trans hs3).trans hs4, H⟩
 ·rw [if_neg hbl] at hT
  rw [hT] at hP
  rw [show blankL l = false by simpa using hbl] at hB
  (refine X.call (hB) ?_; (try clear H); rintro _ w ⟨rfl, H⟩; refine ⟨_, rfl, ?_⟩)
  clear hB
  replace hP := parse_t H hS hv (by omega) (fun p hp => by rw [h40 p hp]; decide)
  rw [h16, hT] at hP
  refine Gq7 H ?_
  (refine X.call (hP) ?_; (try clear H); rintro _ w ⟨s5, rfl, hs5, H⟩; refine ⟨_, rfl, ?_⟩)
  clear hP
  (refine Gq7 H ?_; clear H; (try clear w); intro _ w H)
  exact ⟨_, resTT rfl, s5, bl1, bL, rfl, ((hs2.trans hs3).trans hs4).trans hs5, H.arr⟩
end
section
variable {w : World} {s : Ro} {R : List Asn} {bF bL bp : Nat} {t : TR} {q : Int} {hs : List Hd}
theorem changed_1 {b1 b2 n : Nat} {l1 l2 : List Str} {v1 v2 : List Value} {a1 a2 : Option Addr} {c1 c2 : Nat} (H : Holds s w (var b2 123 [.slice a2 16 c2] :: var b1 123 [.slice a1 16 c1] :: R)) (h1 : SlS s (.slice a1 16 c1) 1 16 v1) (h2 : SlS s (.slice a2 16 c2) 1 16 v2) (hv1 : PgsV s v1 l1) (hv2 : PgsV s v2 l2) (e1 : l1.length = 16) (e2 : l2.length = 16) (hn : n < 16) : Calls Tryz.prog 76 #[.int .i64 (n : Int), .pointer (some ⟨b1, 0, none⟩), .pointer (some ⟨b2, 0, none⟩)] w fun y w' => y = .returned (.bool (!decide (l1[n]?.getD [] = l2[n]?.getD []))) ∧ Holds s w' (var b2 123 [.slice a2 16 c2] :: var b1 123 [.slice a1 16 c1] :: R) := by
 obtain ⟨gb1, o1, ai1, ci1, rfl, p1, hS1⟩ := pgs_get h1 hv1 e1.symm n (by omega)
 obtain ⟨gb2, o2, ai2, ci2, rfl, p2, hS2⟩ := pgs_get h2 hv2 e2.symm n (by omega)
 rw [List.getElem?_eq_getElem (show n < l1.length by omega), List.getElem?_eq_getElem (show n < l2.length by omega)]
 simp only [Option.getD_some]
 have k1 := hv1.2 n l1[n] (List.getElem?_eq_getElem (by omega))
 generalize l1[n] = x1 at *
 generalize l2[n] = x2 at *
 refine enter Tryz.func76 rfl Tryz.ntmps76 rfl ?_
 refine Gq7 H ?_
 refine C.drawn1 [1, 0, 0, 1, 1, 0, 0, 1, 3, 0, 0] [0, 0, 3, 7, 0, 0, 48, 112, 255, 511, 1023] (by kernel_rfl) ?_; replace H := H.drew
 refine Gq7 H ?_
 have hE := Equal_t H (.ro hS1) (.ro hS2)
 by_cases he : x1 = x2
 ·rw [decide_eq_true he] at hE ⊢
  (refine X.call (hE) ?_; (try clear H); rintro _ w ⟨rfl, H⟩; refine ⟨_, rfl, ?_⟩)
  refine Gq7 H ?_
  exact ⟨_, resT rfl, rfl, H⟩
 ·rw [decide_eq_false he] at hE ⊢
  (refine X.call (hE) ?_; (try clear H); rintro _ w ⟨rfl, H⟩; refine ⟨_, rfl, ?_⟩)
  refine Gq7 H ?_
  exact ⟨_, resT rfl, rfl, H⟩
theorem changes_f {e h u : Nat} {ps : List UInt8} {dd : Bool} (H : Holds s w (fsV bF bL t q hs :: logW bL bp e h u ps dd :: R)) (ht : t.Ok) (hct : checkM t = true) (hl : ps.length = 640) : Calls Tryz.prog 50 #[.pointer (some ⟨bF, 0, none⟩)] w fun y w' => ∃ (s' : Ro) (aa : Option Addr) (cc : Nat) (cs : List Value), y = .returned (.slice aa (chgM ps t).length cc) ∧ s.Le s' ∧ SlS s' (.slice aa (chgM ps t).length cc) 2 (chgM ps t).length cs ∧ ChS s' cs (chgM ps t) ∧ Holds s' w' (fsV bF bL t q hs :: logW bL bp e h u ps dd :: R) := by
 refine enter Tryz.func50 rfl Tryz.ntmps50 rfl ?_
 refine Gq7 H ?_
 (refine X.call (stored_f H hl) ?_; (try clear H); rintro _ w ⟨s1, g1, vl1, rfl, hs1, hv1, H⟩; refine ⟨_, rfl, ?_⟩)
 obtain ⟨s2, hs2, H', hS1⟩ := H.fixRow
 clear H
 have H := H'
 clear H'
 replace hv1 := hv1.mono hs2
 (refine Gq7 H ?_; clear H; (try clear w); intro bl1 w H)
 replace H := H.arr (rs' := fsV bF bL t q hs :: var bl1 123 [.slice (some ⟨g1, 0, none⟩) 16 16] :: logW bL bp e h u ps dd :: R)
 have h16 := pages_len ht hct
 have hPg := Pages_t H ht
 rw [h16] at hPg
 (refine X.call (hPg) ?_; (try clear H); rintro _ w ⟨s3, a2, c2, vl2, rfl, hs3, hv2, H⟩; refine ⟨_, rfl, ?_⟩)
 clear hPg
 obtain ⟨s4, hs4, H', hS2⟩ := H.fixRow
 clear H
 have H := H'
 clear H'
 replace hv2 := hv2.mono hs4
 replace hv1 := hv1.mono (hs3.trans hs4)
 replace hS1 := hS1.mono (hs3.trans hs4)
 have hle4 := ((hs1.trans hs2).trans hs3).trans hs4
 (refine Gq7 H ?_; clear H; (try clear w); intro bl2 w H)
 repeat' (first | (refine B.fn ?_) | (refine X.ldF H ?_) | (refine X.stF H ?_; clear H; (try clear w); intro w H) | (refine X.ldFq H ?_) | (refine X.lenL ?_) | (refine X.lv H ?_) | (refine X.lp H ?_) | (refine X.ldT H ?_) | (refine X.stT H ?_; clear H; (try clear w); intro w H) | (refine K.build [] _ build_tree0 rfl rfl rfl ?_) | (refine X.eqL ?_ ?_ <;> intro hc <;> first | (exfalso; first | exact absurd hc (by assumption) | exact absurd (by assumption) hc) | skip) | refine Z H ?_ | (refine Zc ?_ ?_ <;> intro hc <;> first | (exfalso; omega) | skip) | (refine Y ?_; try change C _ _ _ _ _ _) | (refine Zs H ?_; clear H; (try clear w); intro w H) | (refine Zn H ?_; clear H; (try clear w); (first | ((fail_if_success (have := bl1)); intro bl1 w H) | ((fail_if_success (have := bl2)); intro bl2 w H) | intro _ w H)) | (refine Ze H ?_; clear H; (try clear w); intro gv w H))
 replace H := H.nilRow 159 2
 have H' := H.arr (rs' := row 159 2 (.slice none 0 0) 0 [] :: var bl2 123 [.slice a2 16 c2] :: var bl1 123 [.slice (some ⟨g1, 0, none⟩) 16 16] :: fsV bF bL t q hs :: logW bL bp e h u ps dd :: R)
 clear H
 refine C.loopS [6, 7, 8, 19, 20, 21, 22, 23, 24, 25, 26, 27, 28, 29, 30, 31, 32, 33] [6, 19] rfl (fun k vs w => ∃ (i : Nat) (s' : Ro) (aa : Option Addr) (cc : Nat) (cs : List Value), k = 16 - i ∧ i ≤ 16 ∧ vs = [.slice aa (chgTo ps t i).length cc, .int .i64 (i : Int)] ∧ s4.Le s' ∧ ChS s' cs (chgTo ps t i) ∧ Holds s' w (row 159 2 (.slice aa (chgTo ps t i).length cc) (chgTo ps t i).length cs :: var bl2 123 [.slice a2 16 c2] :: var bl1 123 [.slice (some ⟨g1, 0, none⟩) 16 16] :: fsV bF bL t q hs :: logW bL bp e h u ps dd :: R)) 16 ⟨0, s4, none, 0, [], rfl, Nat.zero_le _, rfl, Ro.Le.refl _, ChS.nil _, H'⟩ ?_
 clear H'
 rintro k vs hv w ⟨i, s5, aa, cc, cs, rfl, hi, rfl, hs5, hch, H⟩
 by_cases hlt : i < 16
 ·obtain ⟨gb, o, ai, ci, hae, pn, hsl⟩ := pgs_get (hS2.mono hs5) (hv2.mono hs5) h16.symm i (by omega)
  cases hae
  have hcl := chgTo_le ps t i
  have hsu := chgTo_succ ps t i
  have hpt : (pagesM t)[i]'(by omega) = pgT t i := by
   unfold pgT
   rw [List.getElem?_eq_getElem (by omega)]; rfl
  rw [hpt] at pn hsl
  have h40 := pgT_len ht hct hlt
  have hC1 : (pgsOf ps)[i]?.getD [] = getP ps i := pgsOf_get hlt
  have hC2 : (pagesM t)[i]?.getD [] = pgT t i := rfl
  repeat' (first | (refine B.fn ?_) | (refine X.ldF H ?_) | (refine X.stF H ?_; clear H; (try clear w); intro w H) | (refine X.ldFq H ?_) | (refine X.lenL ?_) | (refine X.lv H ?_) | (refine X.lp H ?_) | (refine X.ldT H ?_) | (refine X.stT H ?_; clear H; (try clear w); intro w H) | (refine K.build [] _ build_tree0 rfl rfl rfl ?_) | (refine X.eqL ?_ ?_ <;> intro hc <;> first | (exfalso; first | exact absurd hc (by assumption) | exact absurd (by assumption) hc) | skip) | refine Z H ?_ | (refine Zc ?_ ?_ <;> intro hc <;> first | (exfalso; omega) | skip) | (refine Y ?_; try change C _ _ _ _ _ _) | (refine Zs H ?_; clear H; (try clear w); intro w H) | (refine Zn H ?_; clear H; (try clear w); (first | ((fail_if_success (have := bl1)); intro bl1 w H) | ((fail_if_success (have := bl2)); intro bl2 w H) | intro _ w H)) | (refine Ze H ?_; clear H; (try clear w); intro gv w H))
  have H' := H.arr (rs' := var bl2 123 [.slice (some ⟨gb, o, none⟩) 16 c2] :: var bl1 123 [.slice (some ⟨g1, 0, none⟩) 16 16] :: row 159 2 (.slice aa (chgTo ps t i).length cc) (chgTo ps t i).length cs :: fsV bF bL t q hs :: logW bL bp e h u ps dd :: R)
  clear H
  have hCh := changed_1 (n := i) H' (hS1.mono hs5) (hS2.mono hs5) (hv1.mono hs5) (hv2.mono hs5) (pgsOf_len ps) h16 hlt
  clear H'
  rw [hC1, hC2] at hCh
  generalize pgT t i = pg at *
  by_cases he : getP ps i = pg
  ·rw [if_pos he] at hsu
   rw [decide_eq_true he] at hCh
   refine B.call hCh ?_
   clear hCh
   rintro _ w ⟨rfl, H⟩
   refine ⟨_, rfl, ?_⟩
   refine Gq7 H ?_
   exact ⟨agr, 16 - (i + 1), by omega, i + 1, s5, aa, cc, cs, rfl, by omega, by rw [hsu]; rfl, hs5, by rw [hsu]; exact hch, by rw [hsu]; exact H.arr⟩
  ·rw [if_neg he] at hsu
   rw [decide_eq_false he] at hCh
   refine B.call hCh ?_
   clear hCh
   rintro _ w ⟨rfl, H⟩
   refine ⟨_, rfl, ?_⟩
   have hch2 := hch.snoc (c := ⟨(i : Int), pg⟩) hsl
   have hn1 : (chgTo ps t i ++ [(⟨(i : Int), pg⟩ : Ch)]).length = (chgTo ps t i).length + 1 := by rw [List.length_append]; rfl
   generalize chgTo ps t i = lc at *
   replace H := H.arr (rs' := row 159 2 (.slice aa lc.length cc) lc.length cs :: var bl2 123 [.slice (some ⟨gb, o, none⟩) 16 c2] :: var bl1 123 [.slice (some ⟨g1, 0, none⟩) 16 16] :: fsV bF bL t q hs :: logW bL bp e h u ps dd :: R)
   repeat' (first | (refine K.build [(0, .int .i64 (i : Int)), (1, .slice ai pg.length ci)] (.agg #[.int .i64 (i : Int), .slice ai pg.length ci]) (build_change _ _ _ _) rfl rfl rfl ?_) | refine Go7 H ?_ | (refine Gs7 H ?_; clear H; (try clear w); intro w H) | (refine Gn H ?_; clear H; (try clear w); (first | ((fail_if_success (have := bl1)); intro bl1 w H) | ((fail_if_success (have := bl2)); intro bl2 w H) | intro _ w H)))
   refine K.one (v := .agg #[.int .i64 (i : Int), .slice ai pg.length ci]) (cs := [.int .i64 (i : Int), .slice ai pg.length ci]) H rfl rfl rfl rfl rfl ?_
   clear H
   intro g5 w H
   repeat' (first | (refine X.app H ?_; clear H; intro a3 c3 w H) | refine Go7 H ?_ | (refine Gs7 H ?_; clear H; (try clear w); intro w H) | (refine Gn H ?_; clear H; (try clear w); (first | ((fail_if_success (have := bl1)); intro bl1 w H) | ((fail_if_success (have := bl2)); intro bl2 w H) | intro _ w H)))
   have H' := H.arr (rs' := row 159 2 (.slice a3 (lc.length + 1) c3) (lc.length + 1) (cs ++ [.int .i64 (i : Int), .slice ai pg.length ci]) :: var bl2 123 [.slice (some ⟨gb, o, none⟩) 16 c2] :: var bl1 123 [.slice (some ⟨g1, 0, none⟩) 16 16] :: fsV bF bL t q hs :: logW bL bp e h u ps dd :: R)
   exact ⟨agr, 16 - (i + 1), by omega, i + 1, s5, a3, c3, _, rfl, by omega, by rw [hsu, hn1]; rfl, hs5, by rw [hsu]; exact hch2, by rw [hsu, hn1]; exact H'⟩
 ·have hie : i = 16 := by omega
  subst hie
  change ChS s5 cs (chgM ps t) at hch
  change Holds s5 w (row 159 2 (.slice aa (chgM ps t).length cc) (chgM ps t).length cs :: var bl2 123 [.slice a2 16 c2] :: var bl1 123 [.slice (some ⟨g1, 0, none⟩) 16 16] :: fsV bF bL t q hs :: logW bL bp e h u ps dd :: R) at H
  obtain ⟨s6, hs6, H', hS⟩ := H.fixRow
  clear H
  have H := H'
  clear H'
  refine Gq7 H ?_
  exact ⟨_, resT rfl, s6, aa, cc, cs, rfl, (hle4.trans hs5).trans hs6, hS, hch.mono hs6, H.tail.tail⟩
theorem Changed_f {e h u : Nat} {ps : List UInt8} {dd : Bool} (H : Holds s w (fsV bF bL t q hs :: logW bL bp e h u ps dd :: R)) (ht : t.Ok) (hct : checkM t = true) (hl : ps.length = 640) : Calls Tryz.prog 27 #[.pointer (some ⟨bF, 0, none⟩)] w fun y w' => ∃ (s' : Ro), y = .returned (.int .i64 ((chgM ps t).length : Int)) ∧ s.Le s' ∧ Holds s' w' (fsV bF bL t q hs :: logW bL bp e h u ps dd :: R) := by
 refine enter Tryz.func27 rfl Tryz.ntmps27 rfl ?_
 refine Gq7 H ?_
 (refine X.call (changes_f H ht hct hl) ?_; (try clear H); rintro _ w ⟨s1, aa, cc, cs, rfl, hs1, hS, hch, H⟩; refine ⟨_, rfl, ?_⟩)
 refine Gq7 H ?_
 exact ⟨_, resT rfl, s1, rfl, hs1, H⟩
theorem Dead_f {e h u : Nat} {ps : List UInt8} {dd : Bool} (H : Holds s w (logW bL bp e h u ps dd :: R)) (hl : ps.length = 640) : Calls Tryz.prog 52 #[.pointer (some ⟨bL, 0, none⟩)] w fun y w' => y = .returned (.bool dd) ∧ Holds s w' (logW bL bp e h u ps dd :: R) := by
 unfold logW at *
 refine enter Tryz.func52 rfl Tryz.ntmps52 rfl ?_
 repeat' (first | (refine K.load (v := .bool dd) 0 H rfl rfl rfl rfl (get_dead hl) ?_) | refine Go8 H ?_ | (refine Gs8 H ?_; clear H; (try clear w); intro w H) | (refine Gn H ?_; clear H; (try clear w); intro _ w H))
 exact ⟨_, resT rfl, rfl, H⟩
theorem Sync_f {b : Nat} {d : DM} {x : Ext} {m : WL} (hN : Nib s) (H : Holds s w (fsV bF bL t q hs :: logM bL bp m :: dsk b d :: R)) (ht : t.Ok) (hct : checkM t = true) (hp : PartS s bp b x) (he : m.epoch < 2 ^ 32) (hh : m.home ≤ 1) (hu : m.used ≤ 18) (hl : m.pages.length = 640) (hpl : d.pend.length ≤ 10000) : Calls Tryz.prog 22 #[.pointer (some ⟨bF, 0, none⟩)] w fun y w' => ∃ (s' : Ro), y = .returned (.int .i64 (syncM d x m t).2.2) ∧ s.Le s' ∧ Holds s' w' (fsV bF bL t q hs :: logM bL bp (syncM d x m t).2.1 :: dsk b (syncM d x m t).1 :: R) := by
 unfold syncM
 refine enter Tryz.func22 rfl Tryz.ntmps22 rfl ?_
 refine Gq7 H ?_
 (refine X.call (changes_f H ht hct hl) ?_; (try clear H); rintro _ w ⟨s1, aa, cc, cs, rfl, hs1, hS, hch, H⟩; refine ⟨_, rfl, ?_⟩)
 have hcl : (chgM m.pages t).length ≤ 16 := chgTo_le _ _ _
 generalize chgM m.pages t = lc at *
 by_cases h0 : lc.length = 0
 ·rw [if_pos h0]
  refine Gq7 H ?_
  have H' := H.arr (rs' := logM bL bp m :: fsV bF bL t q hs :: dsk b d :: R)
  clear H
  have hD := Dead_f H' hl
  clear H'
  cases hdd : m.dead with
  | true =>
   rw [hdd] at hD
   (refine X.call (hD) ?_; (try clear H); rintro _ w ⟨rfl, H⟩; refine ⟨_, rfl, ?_⟩)
   refine Gq7 H ?_
   refine ⟨_, resT rfl, s1, rfl, hs1, ?_⟩
   have H' := H.arr (rs' := fsV bF bL t q hs :: logW bL bp m.epoch m.home m.used m.pages true :: dsk b d :: R)
   rw [← hdd] at H'
   exact H'
  | false =>
   rw [hdd] at hD
   (refine X.call (hD) ?_; (try clear H); rintro _ w ⟨rfl, H⟩; refine ⟨_, rfl, ?_⟩)
   refine Gq7 H ?_
   refine ⟨_, resT rfl, s1, rfl, hs1, ?_⟩
   have H' := H.arr (rs' := fsV bF bL t q hs :: logW bL bp m.epoch m.home m.used m.pages false :: dsk b d :: R)
   rw [← hdd] at H'
   exact H'
 ·rw [if_neg h0]
  refine Gq7 H ?_
  have H' := H.arr (rs' := logM bL bp m :: dsk b d :: fsV bF bL t q hs :: R)
  clear H
  have hCm := Commit_l (hN.mono hs1) H' (hp.mono hs1) he hh hu hl hS hch (by omega) hpl
  clear H'
  (refine X.call (hCm) ?_; (try clear H); rintro _ w ⟨rfl, H⟩; refine ⟨_, rfl, ?_⟩)
  refine Gq7 H ?_
  exact ⟨_, resT rfl, s1, rfl, hs1, H.arr⟩
end
end Go.Proofs.YtgilmcpdpggikaaGreatDoor
namespace Go.Proofs.YtgilmcpdpggikaaGreatDoor
open Go Go.RowKit Go.Own
open Go.ChangeShapes Go.WideShapes Go.ChangeAt
section
variable {P : Program} {w : World} {t e : TypeId} {cs : List Value}
theorem rdg_u8s {v : Value} (hu : P.underlying t = some (.slice e)) (he : P.underlying e = some (.int .u8)) (hc : P.cellsOf e = 1) (hb : P.bytesOf e = 1) (h : Rdg P w t [v]) : ∃ l : List UInt8, Sl w v 1 l.length (u8s l) ∧ l.length ≤ reachBytes := by
 obtain ⟨l, h1, h2, h3⟩ := rdg_ints hu he hc h
 have he : l.map (Value.int .u8) = u8s (l.map fun n => UInt8.ofNat n.toNat) := by
  unfold u8s
  rw [List.map_map]
  refine List.map_congr_left fun n hn => ?_
  obtain ⟨x, hx⟩ := wf_u8 (h2 n hn)
  have hxe : n = (x.toNat : Int) := by unfold u8 at hx; exact (Value.int.inj hx).2
  subst hxe
  show Value.int .u8 (x.toNat : Int) = u8 (UInt8.ofNat ((x.toNat : Int)).toNat)
  rw [Int.toNat_natCast, UInt8.ofNat_toNat]; rfl
 rw [hb, Nat.mul_one] at h3
 refine ⟨l.map fun n => UInt8.ofNat n.toNat, ?_, by rw [List.length_map]; exact h3⟩
 rw [List.length_map, ← he]
 exact h1
theorem rdg_str (hu : P.underlying t = some .string) (h : Rdg P w t cs) : ∃ s : Str, cs = [.string ⟨s.toArray⟩] ∧ s.length ≤ reachBytes := by
 obtain ⟨s, h1, h2⟩ := rdg_string hu h
 exact ⟨s.data.toList, h1, by rw [Array.length_toList]; exact h2⟩
end
theorem reach_le2 : reachBytes ≤ 140737488355328 := by decide
end Go.Proofs.YtgilmcpdpggikaaGreatDoor

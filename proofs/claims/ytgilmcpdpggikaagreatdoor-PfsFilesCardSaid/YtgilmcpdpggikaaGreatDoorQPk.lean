/- Squeezed copy of the texts Pk. -/
import Derived.Test.YtgilmcpdpggikaaGreatDoorQPj
set_option maxRecDepth 100000
set_option maxHeartbeats 1000000
set_option linter.unusedSimpArgs false
set_option linter.unusedVariables false
namespace Go.Proofs.YtgilmcpdpggikaaGreatDoor
open Go Go.RowKit Go.Own
open Go.ChangeShapes Go.WideShapes Go.ChangeAt
theorem act18_of {w : World} (cs : List Value) (hl : cs.length = Tryz.prog.cellsOf 51) (h : Rdg Tryz.prog w 51 cs) : ∃ x : A18, x.cells = cs ∧ x.Ok (startRo w) := by
 have hl7 : cs.length = 7 := hl.trans (by kernel_rfl)
 match cs, hl7 with
 | [c0, c1, c2, c3, c4, c5, c6], _ =>
  have f0 : Rdg Tryz.prog w 3 [c0] := rdg_field Tryz.underlying51 h 0 3 0 1 rfl (by kernel_rfl)
  have f1 : Rdg Tryz.prog w 9 [c1] := rdg_field Tryz.underlying51 h 1 9 1 1 rfl (by kernel_rfl)
  have f2 : Rdg Tryz.prog w 9 [c2] := rdg_field Tryz.underlying51 h 2 9 2 1 rfl (by kernel_rfl)
  have f3 : Rdg Tryz.prog w 3 [c3] := rdg_field Tryz.underlying51 h 3 3 3 1 rfl (by kernel_rfl)
  have f4 : Rdg Tryz.prog w 3 [c4] := rdg_field Tryz.underlying51 h 4 3 4 1 rfl (by kernel_rfl)
  have f5 : Rdg Tryz.prog w 30 [c5] := rdg_field Tryz.underlying51 h 5 30 5 1 rfl (by kernel_rfl)
  have f6 : Rdg Tryz.prog w 49 [c6] := rdg_field Tryz.underlying51 h 6 49 6 1 rfl (by kernel_rfl)
  obtain ⟨n0, e0, w0⟩ := rdg_int Tryz.underlying3 f0
  obtain ⟨s1, e1, w1⟩ := rdg_str Tryz.underlying9 f1
  obtain ⟨s2, e2, w2⟩ := rdg_str Tryz.underlying9 f2
  obtain ⟨n3, e3, w3⟩ := rdg_int Tryz.underlying3 f3
  obtain ⟨n4, e4, w4⟩ := rdg_int Tryz.underlying3 f4
  obtain ⟨b, k1, k2⟩ := rdg_u8s Tryz.underlying30 Tryz.underlying5 (by kernel_rfl) (by kernel_rfl) f5
  obtain ⟨kp, j1, j2⟩ := rdg_bools Tryz.underlying49 Tryz.underlying4 (by kernel_rfl) (by kernel_rfl) f6
  have hS := SlS.start k1
  obtain ⟨va, vc, hv, _⟩ := formS hS
  cases e0; cases e1; cases e2; cases e3; cases e4
  subst hv
  exact ⟨⟨n0, s1, s2, n3, n4, b, va, vc, c6, kp⟩, rfl, Nat.le_trans k2 reach_le2, hS, SlS.start j1, Nat.le_trans j2 reach_le, wf_i64 w3⟩
theorem acts18_of {w : World} {v : Value} (h : Rdg Tryz.prog w 22 [v]) : ∃ l : List A18, SlS (startRo w) v 7 l.length (l.flatMap A18.cells) ∧ ∀ a ∈ l, a.Ok (startRo w) := by
 obtain ⟨acts, ha1, ha2, _⟩ := rdg_list A18.cells (A18.Ok (startRo w)) Tryz.underlying22 (by rw [show Tryz.prog.cellsOf 51 = 7 by kernel_rfl]; decide) (fun cs' hl h => act18_of cs' hl h) h
 rw [show Tryz.prog.cellsOf 51 = 7 by kernel_rfl] at ha1
 exact ⟨acts, SlS.start ha1, fun a h => (ha2 a h).1⟩
theorem bec_ne {t : TR} {r : TR × Int} (h : r.2 ≠ 0) : becM t r = t := if_neg h
theorem rem_ne {t : TR} {hs : List Hd} {p : Str} (h : (remF t hs p).2 ≠ 0) : (remF t hs p).1 = t := by
 unfold remF at h ⊢
 split
 ·rfl
 ·rename_i h1
  rw [if_neg h1] at h
  split
  ·rfl
  ·rename_i h2
   rw [if_neg h2] at h
   exact absurd rfl h
theorem cut_ne {t : TR} {hs : List Hd} {n : Int} (h : (cutF t hs n).2 ≠ 0) : (cutF t hs n).1 = t := by
 unfold cutF at h ⊢
 split
 ·rename_i h1
  rw [if_pos h1] at h
  exact bec_ne h
 ·rfl
theorem write_ne {t : TR} {q : Int} {hs : List Hd} {n : Int} {b : Str} (h : (writeF t q hs n b).2.2 ≠ 0) : (writeF t q hs n b).1 = t := by
 unfold writeF at h ⊢
 split
 ·rename_i h1
  rw [if_pos h1] at h
  split
  ·rename_i h2
   rw [if_pos h2] at h
   exact absurd rfl h
  ·rfl
 ·rfl
section
variable {w : World} {s : Ro} {R : List Asn}
theorem refused_walk {l : List A18} {a : A18} {va : Option Addr} {vc : Nat} (hN : Nib s) (H : Holds s w []) (hl : SlS s (.slice va l.length vc) 7 l.length (l.flatMap A18.cells)) (hok : ∀ a ∈ l, a.Ok s) (ha : a.Ok s) : Calls Tryz.prog 4 #[.slice va l.length vc, .agg a.cells.toArray] w fun e w' => e = .returned (.bool true) ∧ Fin s w' := by
 have hz := TR.ok_zero
 have hdl := ha.dl
 have hsl := ha.sl
 obtain ⟨ak, ap, adst, an, ah, adat, aa, ac, kv, kp⟩ := a
 dsimp only [A18.cells] at hdl hsl ⊢
 refine enter Tryz.func4 rfl Tryz.ntmps4 rfl ?_
 (refine Gq7 H ?_; clear H; (try clear w); intro bl1 w H)
 (refine X.call (played_w (most := 3) hN H hl hok) ?_; (try clear H); rintro _ w ⟨s1, b, bp, bF, bL, d, m, t, hs, rfl, hs1, hp, hPI, H⟩; refine ⟨_, rfl, ?_⟩)
 rw [show quotaM 3 = 3 from rfl] at H
 have ht := hPI.ok
 have hct := hPI.chk
 have hok2 := hPI.hok
 have h4 := hok2.1
 replace hsl := hsl.mono hs1
 refine Gq7 H ?_
 (refine X.call (Tree_f H ht h4) ?_; (try clear H); rintro _ w ⟨rfl, H⟩; refine ⟨_, rfl, ?_⟩)
 repeat' (first | (refine X.ldF H ?_) | (refine X.stF H ?_; clear H; (try clear w); intro w H) | (refine X.ldFq H ?_) | (refine X.lenL ?_) | (refine X.lv H ?_) | (refine X.lp H ?_) | (refine X.ldT H ?_) | (refine X.stT H ?_; clear H; (try clear w); intro w H) | (refine K.build [] _ build_tree0 rfl rfl rfl ?_) | (refine X.eqL ?_ ?_ <;> intro hc <;> first | (exfalso; first | exact absurd hc (by assumption) | exact absurd (by assumption) hc) | skip) | ((fail_if_success (with_reducible show C _ _ _ (Code.seq (Code.seq (Code.region 6 _ _) _) _) _ _)); refine Z H ?_) | (refine Zc ?_ ?_ <;> intro hc <;> first | (exfalso; omega) | skip) | (refine Y ?_; try change C _ _ _ _ _ _) | (refine Zs H ?_; clear H; (try clear w); intro w H) | (refine Zn H ?_; clear H; (try clear w); (first | ((fail_if_success (have := bl1)); intro bl1 w H) | ((fail_if_success (have := bl2)); intro bl2 w H) | intro _ w H)) | (refine Ze H ?_; clear H; (try clear w); intro gv w H))
 refine C.cut [9, 20, 21, 22, 23, 24, 25, 26, 27, 28, 29, 30, 31, 32, 33, 34, 35, 36, 37, 38, 39, 40, 41, 42, 43, 44, 45, 46, 47, 48, 49, 50, 51, 52, 53, 54, 55, 56] [9] rfl (fun vs w => ∃ (c : Int) (u : TR) (hs' : List Hd), vs = [.int .i64 c] ∧ T3 t 3 u ∧ (c ≠ 0 → u = t) ∧ hs'.length = 4 ∧ Holds s1 w (fsV bF bL u 3 hs' :: var bl2 41 t.cells :: var bl1 51 [.int .i64 ak, .string ⟨ap.toArray⟩, .string ⟨adst.toArray⟩, .int .i64 an, .int .i64 ah, .slice aa adat.length ac, kv] :: logM bL bp m :: dsk b d :: [])) ?_ ?_
 ·by_cases h0 : ak = 0 ∨ ak = 1
  ·rcases h0 with h0 | h0
   ·refine Gq7 H ?_
    replace H : Holds _ _ (fsV bF bL _ _ _ :: _) := tp H
    (refine X.call (Make_f (p := ap) (k := an) H ht h4) ?_; (try clear H); rintro _ w ⟨rfl, H⟩; refine ⟨_, rfl, ?_⟩)
    refine Gq7 H ?_
    exact ⟨agr, _, _, hs, rfl, T3.make ht hct, bec_ne, h4, H.arr⟩
   ·refine Gq7 H ?_
    replace H : Holds _ _ (fsV bF bL _ _ _ :: _) := tp H
    (refine X.call (Make_f (p := ap) (k := an) H ht h4) ?_; (try clear H); rintro _ w ⟨rfl, H⟩; refine ⟨_, rfl, ?_⟩)
    refine Gq7 H ?_
    exact ⟨agr, _, _, hs, rfl, T3.make ht hct, bec_ne, h4, H.arr⟩
  obtain ⟨g0, g1⟩ := not_or.1 h0
  by_cases h2 : ak = 2
  ·refine Gq7 H ?_
   replace H : Holds _ _ (fsV bF bL _ _ _ :: _) := tp H
   (refine X.call (Remove_f (p := ap) H ht h4) ?_; (try clear H); rintro _ w ⟨rfl, H⟩; refine ⟨_, rfl, ?_⟩)
   refine Gq7 H ?_
   exact ⟨agr, _, _, hs, rfl, T3.rem ht hct, rem_ne, h4, H.arr⟩
  by_cases h3 : ak = 3
  ·refine Gq7 H ?_
   replace H : Holds _ _ (fsV bF bL _ _ _ :: _) := tp H
   (refine X.call (Move_f (p := ap) (p2 := adst) H ht h4) ?_; (try clear H); rintro _ w ⟨rfl, H⟩; refine ⟨_, rfl, ?_⟩)
   refine Gq7 H ?_
   exact ⟨agr, _, _, hs, rfl, T3.move ht hct, bec_ne, h4, H.arr⟩
  by_cases h12 : ak = 12
  ·refine Gq7 H ?_
   replace H : Holds _ _ (fsV bF bL _ _ _ :: _) := tp H
   (refine X.call (Cut_f (n := ah) H ht hct h4) ?_; (try clear H); rintro _ w ⟨rfl, H⟩; refine ⟨_, rfl, ?_⟩)
   refine Gq7 H ?_
   exact ⟨agr, _, _, hs, rfl, T3.cut ht hct, cut_ne, h4, H.arr⟩
  refine Gq7 H ?_
  replace H : Holds _ _ (fsV bF bL _ _ _ :: _) := tp H
  (refine X.call (Write_f (n := ah) (b := adat) H ht hct hok2 hsl hdl) ?_; (try clear H); rintro _ w ⟨rfl, H⟩; refine ⟨_, rfl, ?_⟩)
  refine Gq7 H ?_
  exact ⟨agr, _, _, _, rfl, T3.write (hs := hs) (n := ah) (b := adat) ht hct, write_ne, (hok2.write (t := t) (q := 3) (n := ah) (b := adat)).1, H.arr⟩
 clear H
 rintro vs hv w ⟨c, u, hs', rfl, hT3, hcu, h4', H⟩
 have hu := hT3.ok
 have hC := fun {w : World} {R : List Asn} (H : Holds s1 w R) => Check_s H hu
 rw [hT3.chk] at hC
 by_cases h0 : c = 0
 ·refine Gq7 H ?_
  refine C.drawn2 [bl2] [0, 0, 0, 0, 2, 1, 3, 0, 0, 0, 3, 3, 0, 0, 3, 0, 0] [5] [0, 1, 3, 7, 15, 7, 63, 127, 255, 511, 1023, 2047, 4095, 8191, 16383, 32767, 65535] (by kernel_rfl) ?_; replace H := H.drew; refine sgB ?_; have H0 := H
  refine Gq7 H ?_
  refine ⟨rfl, rfl, (by repeat (first | exact subN_nil | refine subN_cons (by simp) ?_)), (by first | exact keep_same | (repeat (first | exact keepV H0 H | exact keepP H0 H | exact keep_nil | refine keep_cons ?_ ?_))), ?_⟩; clear H0; have H0 := H
  refine Gq7 H ?_
  (refine X.call (Tree_f H hu h4') ?_; (try clear H); rintro _ w ⟨rfl, H⟩; refine ⟨_, rfl, ?_⟩)
  refine Gq7 H ?_
  (refine X.call (hC H) ?_; (try clear H); rintro _ w ⟨rfl, H⟩; refine ⟨_, rfl, ?_⟩)
  refine Gq7 H ?_
  (refine X.call (awake18 (hN.mono hs1) H) ?_; (try clear H); rintro _ w ⟨s2, rfl, hs2, H⟩; refine ⟨_, rfl, ?_⟩)
  refine Gq7 H ?_
  refine ⟨rfl, rfl, (by repeat (first | exact subN_nil | refine subN_cons (by simp) ?_)), keep_same, ?_⟩
  refine Gq7 H ?_
  exact ⟨_, resT rfl, rfl, H.done (hs1.trans hs2)⟩
 ·have hut := hcu h0
  subst hut
  refine Gq7 H ?_
  refine C.drawn2 [bl2] [0, 0, 0, 0, 2, 1, 3, 0, 0, 0, 3, 3, 0, 0, 3, 0, 0] [5] [0, 1, 3, 7, 15, 7, 63, 127, 255, 511, 1023, 2047, 4095, 8191, 16383, 32767, 65535] (by kernel_rfl) ?_; replace H := H.drew; refine sgB ?_; have H0 := H
  refine Gq7 H ?_
  (refine X.call (Tree_f H hu h4') ?_; (try clear H); rintro _ w ⟨rfl, H⟩; refine ⟨_, rfl, ?_⟩); refine L.nil ?_; refine ⟨rfl, rfl, (by repeat (first | exact subN_nil | refine subN_cons (by simp) ?_)), (by first | exact keep_same | (repeat (first | exact keepV H0 H | exact keepP H0 H | exact keep_nil | refine keep_cons ?_ ?_))), ?_⟩; clear H0; have H0 := H
  repeat' (first | (refine X.eqA (eq_tree 9995 hu hu) guard_tree ?_; rw [decide_eq_true rfl]) | refine Go7 H ?_ | (refine Gs7 H ?_; clear H; (try clear w); intro w H) | (refine Gn H ?_; clear H; (try clear w); (first | ((fail_if_success (have := bl1)); intro bl1 w H) | ((fail_if_success (have := bl2)); intro bl2 w H) | intro _ w H)))
  (refine X.call (Tree_f H hu h4') ?_; (try clear H); rintro _ w ⟨rfl, H⟩; refine ⟨_, rfl, ?_⟩)
  refine Gq7 H ?_
  (refine X.call (hC H) ?_; (try clear H); rintro _ w ⟨rfl, H⟩; refine ⟨_, rfl, ?_⟩)
  refine Gq7 H ?_
  (refine X.call (awake18 (hN.mono hs1) H) ?_; (try clear H); rintro _ w ⟨s2, rfl, hs2, H⟩; refine ⟨_, rfl, ?_⟩)
  refine Gq7 H ?_
  refine ⟨rfl, rfl, (by repeat (first | exact subN_nil | refine subN_cons (by simp) ?_)), keep_same, ?_⟩
  refine Gq7 H ?_
  exact ⟨_, resT rfl, rfl, H.done (hs1.trans hs2)⟩
theorem refused_rdg {w : World} {a : Option Addr} {n c : Nat} {cs : List Value} (hN : Nib (startRo w)) (g : Rdg Tryz.prog w 22 [.slice a n c]) (hsz : cs.length = Tryz.prog.cellsOf 51) (g1 : Rdg Tryz.prog w 51 cs) : Calls Tryz.prog 4 #[.slice a n c, .agg cs.toArray] w fun e w' => e = .returned (.bool true) ∧ Only [] w w' := by
 obtain ⟨l, h1, h2⟩ := acts18_of g
 obtain ⟨va, vc, hv, _⟩ := formS h1
 cases hv
 obtain ⟨o, rfl, ho⟩ := act18_of cs hsz g1
 exact (refused_walk hN (Holds.start w) h1 h2 ho).mono fun e w' h => ⟨h.1, h.2.only⟩
end
end Go.Proofs.YtgilmcpdpggikaaGreatDoor

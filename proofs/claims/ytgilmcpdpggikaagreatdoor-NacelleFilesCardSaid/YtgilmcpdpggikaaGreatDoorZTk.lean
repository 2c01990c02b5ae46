/- Squeezed copy of the texts Tk Tzz Ua Ub Uc Ud Pa Ue Pb Tr Pd. -/
import Derived.Test.YtgilmcpdpggikaaGreatDoorZCr
import Derived.Test.YtgilmcpdpggikaaGreatDoorZTzx
import Derived.Test.YtgilmcpdpggikaaGreatDoorZTx4
set_option maxRecDepth 100000
set_option maxHeartbeats 1000000
set_option linter.unusedSimpArgs false
set_option linter.unusedVariables false
namespace Go.Proofs.YtgilmcpdpggikaaGreatDoor
open Go Go.RowKit Go.Own
theorem nodesM_snoc {p : Str} : ∀ {l : List Str}, nodesM (l ++ [p]) = (nodesM l).bind fun nd => (nodeM p).map fun n => nd ++ [n]
 | [] => by
  simp only [List.nil_append, nodesM, Option.bind_some]
  cases nodeM p <;> rfl
 | b :: l => by
  rw [List.cons_append, nodesM, nodesM, nodesM_snoc]
  cases nodeM b with
  | none => rfl
  | some n =>
   cases nodesM l with
   | none => rfl
   | some nd =>
    cases nodeM p <;> rfl
theorem nodesM_none {p : Str} : ∀ {l : List Str}, p ∈ l → nodeM p = none → nodesM l = none
 | b :: l, h, hn => by
  rw [nodesM]
  rcases List.mem_cons.1 h with rfl | h
  ·rw [hn]; rfl
  ·rw [nodesM_none h hn]; cases nodeM b <;> rfl
theorem nodesM_len : ∀ {l : List Str} {nd : List Nd}, nodesM l = some nd → nd.length = l.length
 | [], nd, h => by cases h; rfl
 | b :: l, nd, h => by
  rw [nodesM] at h
  cases hb : nodeM b with
  | none => rw [hb] at h; cases h
  | some n =>
   rw [hb] at h
   cases hl : nodesM l with
   | none => rw [hl] at h; cases h
   | some m =>
    rw [hl] at h
    cases h
    rw [List.length_cons, nodesM_len hl, List.length_cons]
theorem setMid {α : Type} {l : List α} {z x : α} {k i : Nat} (h : l.length = i) (hk : 0 < k) : (l ++ List.replicate k z).set i x = (l ++ [x]) ++ List.replicate (k - 1) z := by
 subst h
 obtain ⟨k, rfl⟩ : ∃ j, k = j + 1 := ⟨k - 1, by omega⟩
 rw [List.set_append_right _ _ (Nat.le_refl _), Nat.sub_self, List.replicate_succ, List.set_cons_zero]
 simp
section
variable {n : Nat} {ops : Array Oper} {Q : Post} {rest : List Oper} {e : Env} {w : World} {s : Ro} {rs R : List Asn} {tt : Nat} {pp : String} {af : Array Edge} {g : Option (Nat × Bool)} {d : Nat}
theorem parse_t {ps : List Str} {vl : List Value} {a : Option Addr} {c : Nat} (H : Holds s w R) (h : SlS s (.slice a ps.length c) 1 ps.length vl) (hv : PgsV s vl ps) (hp : ps.length ≤ 1000000) (hpl : ∀ p ∈ ps, p.length ≤ 1000000) : Calls Tryz.prog 57 #[.slice a ps.length c] w fun e w' => ∃ s', e = .returned (.tuple #[.agg (parseM ps).1.cells.toArray, .int .i64 (parseM ps).2]) ∧ s.Le s' ∧ Holds s' w' R := by
 have hz := TR.ok_zero
 refine enter Tryz.func57 rfl Tryz.ntmps57 rfl ?_
 by_cases h16 : ps.length = 16
 rotate_left
 ·have ep : parseM ps = (TR.zero, 1) := by rw [parseM, if_pos (.inl h16)]
  (refine Gq4 H ?_; clear H; (try clear w); intro bl1 w H)
  exact ⟨_, resVT (cs := TR.zero.cells) H rfl rfl inferInstance (TR.cells_len hz), s, by rw [ep]; rfl, Ro.Le.refl s, H.tail⟩
 have hvl : vl.length = 16 := by rw [hv.1, h16]
 have hel : ∀ (i : Nat) (hi : i < ps.length), ∃ (gb o : Nat) (ai : Option Addr) (ci : Nat), a = some ⟨gb, o, none⟩ ∧ Pin s gb (o + i * 1) (.slice ai (ps[i]).length ci) ∧ SlS s (.slice ai (ps[i]).length ci) 1 (ps[i]).length (u8s ps[i]) := by
  intro i hi
  obtain ⟨gb, o, c', hv', _, _, hpn⟩ := posS h (by omega) (by decide)
  cases hv'
  obtain ⟨ai, ci, h1, h2⟩ := hv.2 i ps[i] (List.getElem?_eq_getElem hi)
  exact ⟨gb, o, ai, ci, rfl, by rw [Nat.mul_one]; exact hpn i _ h1, h2⟩
 (refine Gq4 H ?_; clear H; (try clear w); intro bl1 w H)
 refine C.loopH H [3, 5, 19, 20, 21, 22, 23, 24, 25, 26, 27] [19] rfl (fun m vs => ∃ i : Nat, m = 16 - i ∧ i ≤ 16 ∧ vs = [.int .i64 (i : Int)] ∧ ∀ (j : Nat) (hj : j < ps.length), j < i → (ps[j]).length = 40) 16 ⟨0, rfl, by omega, rfl, fun j hj h0 => absurd h0 (by omega)⟩ ?_
 clear H
 rintro m vs hv1 w ⟨i, rfl, hi, rfl, hall⟩ H
 by_cases hlt : i < 16
 ·obtain ⟨gb, o, ai, ci, rfl, pn, hsl⟩ := hel i (by omega)
  have hb := hpl ps[i] (List.getElem_mem _)
  by_cases h40 : (ps[i]).length = 40
  ·refine Gq4 H ?_
   exact ⟨agr, 16 - (i + 1), by omega, ⟨i + 1, rfl, by omega, rfl, fun j hj hji => by
    by_cases e : j = i
    ·subst e; exact h40
    ·exact hall j hj (by omega)⟩, H⟩
  ·have ep : parseM ps = (TR.zero, 1) := by rw [parseM, if_pos (.inr ⟨_, List.getElem_mem _, h40⟩)]
   (refine Gq4 H ?_; clear H; (try clear w); intro w H)
   exact ⟨_, resVT (cs := TR.zero.cells) H rfl rfl inferInstance (TR.cells_len hz), s, by rw [ep]; rfl, Ro.Le.refl s, H.tail⟩
 obtain rfl : i = 16 := by omega
 have hall' : ∀ (j : Nat) (hj : j < ps.length), (ps[j]).length = 40 := fun j hj => hall j hj (by omega)
 have ep : parseM ps = match nodesM (ps.take 8) with
   | none => (TR.zero, 3)
   | some nd => if pagesM ⟨nd, ps.drop 8⟩ ≠ ps ∧ pagesM ⟨nd, ps.drop 8⟩ ≠ [] then (TR.zero, 3) else if checkM ⟨nd, ps.drop 8⟩ = false then (TR.zero, 3) else (⟨nd, ps.drop 8⟩, 0) := by
  rw [parseM, if_neg]
  rfl
  rintro (h' | ⟨p, hm, h'⟩)
  ·exact h' h16
  ·obtain ⟨j, hj, rfl⟩ := List.mem_iff_getElem.1 hm
   exact h' (hall' j hj)
 clear hall hpl hp
 (refine Gq4 H ?_; clear H; (try clear w); intro bl2 w H)
 have htl8 : (ps.take 8).length = 8 := by rw [List.length_take, h16]; rfl
 refine C.loopS [3, 7, 8, 9, 28, 29, 30, 31, 32, 33, 34, 35, 36, 37, 38, 39, 40, 41, 42, 43, 44, 45, 46] [28] rfl (fun m vs w => ∃ (i : Nat) (s1 : Ro) (nd : List Nd), m = 8 - i ∧ i ≤ 8 ∧ vs = [.int .i64 (i : Int)] ∧ s.Le s1 ∧ nodesM (ps.take i) = some nd ∧ Holds s1 w (var bl2 41 (TR.cells ⟨nd ++ List.replicate (8 - i) Nd.zero, TR.zero.bl⟩) :: var bl1 41 TR.zero.cells :: R)) 8 ⟨0, s, [], rfl, by omega, rfl, Ro.Le.refl s, rfl, H⟩ ?_
 clear H
 rintro m vs hv2 w ⟨i, s1, nd, rfl, hi, rfl, hs1, hnd, H⟩
 have hndl := nodesM_len hnd
 rw [List.length_take, h16, Nat.min_eq_left (by omega)] at hndl
 have hu : (TR.mk (nd ++ List.replicate (8 - i) Nd.zero) TR.zero.bl).Ok := ⟨by simp [hndl]; omega, rfl, TR.ok_zero.b40⟩
 by_cases hlt : i < 8
 ·obtain ⟨gb, o, ai, ci, rfl, pn0, hsl0⟩ := hel i (by omega)
  have pn := pn0.mono hs1
  have hsl := hsl0.mono hs1
  have h40 := hall' i (by omega)
  have htk : ps.take (i + 1) = ps.take i ++ [ps[i]] := List.take_succ_eq_append_getElem (by omega)
  refine Gq4 H ?_
  (refine X.call (node_s H (.ro hsl) h40) ?_; (try clear H); rintro _ w ⟨s2, rfl, hs2, H⟩; refine ⟨_, rfl, ?_⟩)
  cases hno : nodeM ps[i] with
  | none =>
   have hnr : nodeR ps[i] = (Nd.zero, false) := by unfold nodeR; rw [hno]
   rw [hnr]
   have ep2 : parseM ps = (TR.zero, 3) := by
    rw [ep, nodesM_none (p := ps[i]) (by rw [List.mem_iff_getElem]; exact ⟨i, by omega, by rw [List.getElem_take]⟩) hno]
   (refine Gq4 H ?_; clear H; (try clear w); intro _ w H)
   exact ⟨_, resVT (cs := TR.zero.cells) H rfl rfl inferInstance (TR.cells_len hz), s2, by rw [ep2]; rfl, hs1.trans hs2, H.tail.tail.tail⟩
  | some x =>
   have hnr : nodeR ps[i] = (x, true) := by unfold nodeR; rw [hno]
   rw [hnr]
   repeat' (first | (refine K.iaA (i := i) rfl rfl rfl rfl rfl hlt ?_) | (refine X.stM (ys := x.cells) i 0 x hu hlt (Nat.le_refl 6) (by simp [putL, Nd.cells]) rfl rfl H ?_; clear H; (try clear w); intro w H) | refine Go4 H ?_ | (refine Gs4 H ?_; clear H; (try clear w); intro w H) | (refine Gn H ?_; clear H; (try clear w); (first | ((fail_if_success (have := bl1)); intro bl1 w H) | ((fail_if_success (have := bl2)); intro bl2 w H) | intro _ w H)))
   have htr : (TR.mk (nd ++ List.replicate (8 - i) Nd.zero) TR.zero.bl).set i x = ⟨(nd ++ [x]) ++ List.replicate (8 - (i + 1)) Nd.zero, TR.zero.bl⟩ := by
    unfold TR.set
    rw [setMid hndl (by omega), show 8 - i - 1 = 8 - (i + 1) by omega]
   exact ⟨agr, 8 - (i + 1), by omega, i + 1, s2, nd ++ [x], rfl, by omega, rfl, hs1.trans hs2, by rw [htk, nodesM_snoc, hnd, hno]; rfl, by rw [← htr]; exact H.tail⟩
 obtain rfl : i = 8 := by omega
 rw [Nat.sub_self, List.replicate_zero, List.append_nil] at H hu
 clear hlt hi
 refine Gq4 H ?_
 refine C.loopR H [10, 47, 48, 49, 50, 51, 52, 53, 54, 55, 56, 57, 58, 59, 60] [47] rfl (fun m vs A => ∃ i : Nat, m = 8 - i ∧ i ≤ 8 ∧ vs = [.int .i64 (i : Int)] ∧ A = var bl2 41 (TR.cells ⟨nd, (ps.drop 8).take i ++ List.replicate (8 - i) (List.replicate 40 0)⟩)) 8 ⟨0, rfl, by omega, rfl, rfl⟩ ?_
 clear H
 rintro m vs hv3 w A ⟨i, rfl, hi, rfl, rfl⟩ H
 have htl : ((ps.drop 8).take i).length = i := by rw [List.length_take, List.length_drop, h16]; omega
 have hub : (TR.mk nd ((ps.drop 8).take i ++ List.replicate (8 - i) (List.replicate 40 0))).Ok := ⟨hndl, by simp [h16]; omega, fun b hb => by
  rcases List.mem_append.1 hb with hb | hb
  ·obtain ⟨j, hj, rfl⟩ := List.mem_iff_getElem.1 (List.mem_of_mem_drop (List.mem_of_mem_take hb))
   exact hall' j hj
  ·rw [List.eq_of_mem_replicate hb]; rfl⟩
 by_cases hlt : i < 8
 ·obtain ⟨gb, o, ai, ci, rfl, pn0, hsl0⟩ := hel (8 + i) (by omega)
  have pn := pn0.mono hs1
  have hsl := hsl0.mono hs1
  have h40 := hall' (8 + i) (by omega)
  have htk : (ps.drop 8).take (i + 1) = (ps.drop 8).take i ++ [ps[8 + i]] := by
   rw [List.take_succ_eq_append_getElem (by rw [List.length_drop]; omega), List.getElem_drop]
  have hcl := TR.cells_len hub
  refine Gq4 H ?_
  refine C.drawn1 [0, 0, 0, 0, 0, 0, 0, 0, 1, 3] [0, 0, 3, 7, 0, 0, 32, 112, 240, 511] (by kernel_rfl) ?_; replace H := H.drew
  repeat' (first | (refine K.ia (i := 8 + i) rfl rfl rfl rfl (by omega) (by omega) ?_) | (refine K.iaA (i := i) rfl rfl rfl rfl rfl hlt ?_) | refine Go4 H ?_ | (refine Gs4 H ?_; clear H; (try clear w); intro w H) | (refine Gn H ?_; clear H; (try clear w); (first | ((fail_if_success (have := bl1)); intro bl1 w H) | ((fail_if_success (have := bl2)); intro bl2 w H) | intro _ w H)))
  have hput : (TR.cells ⟨nd, (ps.drop 8).take i ++ List.replicate (8 - i) (List.replicate 40 0)⟩).take (48 + i * 40) ++ ((u8s ps[8 + i]).take 40 ++ (TR.cells ⟨nd, (ps.drop 8).take i ++ List.replicate (8 - i) (List.replicate 40 0)⟩).drop (48 + i * 40 + 40)) = TR.cells ⟨nd, (ps.drop 8).take (i + 1) ++ List.replicate (8 - (i + 1)) (List.replicate 40 0)⟩ := by
   have h1 := TR.put_block hub hlt h40
   rw [putL, u8s_len, h40] at h1
   rw [List.take_of_length_le (l := u8s ps[8 + i]) (by rw [u8s_len, h40]; omega), ← List.append_assoc, h1, TR.setB]
   rw [setMid htl (by omega), htk, show 8 - i - 1 = 8 - (i + 1) by omega]
  refine K.copyV 0 H rfl (.ro hsl) (u8s_one _) (q := 40) (by rw [h40]; rfl) (by rw [hcl]; omega) rfl rfl rfl ?_
  clear H
  intro w H
  rw [List.set_cons_zero, hput] at H
  refine Gq4 H ?_
  exact ⟨agr, 8 - (i + 1), by omega, _, ⟨i + 1, rfl, by omega, rfl, rfl⟩, H⟩
 obtain rfl : i = 8 := by omega
 rw [Nat.sub_self, List.replicate_zero, List.append_nil, List.take_of_length_le (by rw [List.length_drop, h16]; omega)] at H hub
 clear hlt hi htl hu
 obtain ⟨T, hT⟩ : ∃ T, T = TR.mk nd (ps.drop 8) := ⟨_, rfl⟩
 have ep3 : parseM ps = if pagesM T ≠ ps ∧ pagesM T ≠ [] then (TR.zero, 3) else if checkM T = false then (TR.zero, 3) else (T, 0) := by rw [ep, hnd, hT]
 rw [← hT] at H hub
 clear ep hnd hndl hT
 refine Gq4 H ?_
 (refine X.call (Pages_t H hub) ?_; (try clear H); rintro _ w ⟨s2, a2, c2, vl2, rfl, hs2, hpv, H⟩; refine ⟨_, rfl, ?_⟩)
 obtain ⟨s3, hs3, H1, hr2⟩ := H.fixRow
 clear H
 have H := H1
 clear H1
 replace hpv := hpv.mono hs3
 have hs13 := hs1.trans (hs2.trans hs3)
 have hle : (pagesM T).length = 0 ∨ (pagesM T).length = 16 := by
  unfold pagesM
  split
  ·exact .inl rfl
  ·exact .inr (by rw [List.length_append, List.length_map, hub.n8, hub.b8])
 have hel2 : ∀ (i : Nat) (hi : i < (pagesM T).length), ∃ (gb o : Nat) (ai : Option Addr) (ci : Nat), a2 = some ⟨gb, o, none⟩ ∧ Pin s3 gb (o + i * 1) (.slice ai ((pagesM T)[i]).length ci) ∧ SlS s3 (.slice ai ((pagesM T)[i]).length ci) 1 ((pagesM T)[i]).length (u8s (pagesM T)[i]) := by
  intro i hi
  obtain ⟨gb, o, c', hv', _, _, hpn⟩ := posS hr2 (by omega) (by decide)
  cases hv'
  obtain ⟨ai, ci, h1, h2⟩ := hpv.2 i (pagesM T)[i] (List.getElem?_eq_getElem hi)
  exact ⟨gb, o, ai, ci, rfl, by rw [Nat.mul_one]; exact hpn i _ h1, h2⟩
 refine Gq4 H ?_
 refine C.loopH H [3, 11, 12, 64, 65, 66, 67, 68, 69, 70, 71, 72, 73, 74, 75, 76, 77] [64] rfl (fun m vs => ∃ i : Nat, m = 16 - i ∧ i ≤ (pagesM T).length ∧ vs = [.int .i64 (i : Int)] ∧ ∀ j : Nat, j < i → (pagesM T)[j]? = ps[j]?) 16 ⟨0, rfl, by omega, rfl, fun j h0 => absurd h0 (by omega)⟩ ?_
 clear H
 rintro m vs hv4 w ⟨i, rfl, hi, rfl, hall⟩ H
 by_cases hlt : i < (pagesM T).length
 ·obtain ⟨gb, o, ai, ci, rfl, pn, hsl⟩ := hel2 i hlt
  obtain ⟨gb', o', ai', ci', rfl, pn0, hsl0⟩ := hel i (by omega)
  have pn' := pn0.mono hs13
  have hsl' := hsl0.mono hs13
  have h40 := hall' i (by omega)
  refine Gq4 H ?_
  have hE := Equal_t H (.ro hsl) (.ro hsl')
  by_cases heq : (pagesM T)[i] = ps[i]'(by omega)
  ·rw [decide_eq_true heq] at hE
   (refine X.call (hE) ?_; (try clear H); rintro _ w ⟨rfl, H⟩; refine ⟨_, rfl, ?_⟩)
   clear hE
   refine Gq4 H ?_
   exact ⟨agr, 16 - (i + 1), by omega, ⟨i + 1, rfl, by omega, rfl, fun j hj => by
    by_cases e : j = i
    ·subst e
     rw [List.getElem?_eq_getElem hlt, List.getElem?_eq_getElem (show j < ps.length by omega), heq]
    ·exact hall j (by omega)⟩, H⟩
  ·rw [decide_eq_false heq] at hE
   (refine X.call (hE) ?_; (try clear H); rintro _ w ⟨rfl, H⟩; refine ⟨_, rfl, ?_⟩)
   clear hE
   have ep2 : parseM ps = (TR.zero, 3) := by
    rw [ep3, if_pos]
    refine ⟨fun h => heq ?_, fun h => ?_⟩
    ·have h1 : (pagesM T)[i]? = ps[i]? := by rw [h]
     rw [List.getElem?_eq_getElem hlt, List.getElem?_eq_getElem (show i < ps.length by omega)] at h1
     exact Option.some.inj h1
    ·have : (pagesM T).length = 0 := by rw [h]; rfl
     omega
   (refine Gq4 H ?_; clear H; (try clear w); intro w H)
   exact ⟨_, resVT (cs := TR.zero.cells) H rfl rfl inferInstance (TR.cells_len hz), s3, by rw [ep2]; rfl, hs13, H.tail.tail⟩
 have hor : ¬ (pagesM T ≠ ps ∧ pagesM T ≠ []) := by
  rintro ⟨n1, n2⟩
  rcases hle with h0 | h1
  ·exact n2 (List.eq_nil_of_length_eq_zero h0)
  ·exact n1 (List.ext_getElem? fun j => by
    by_cases hj : j < 16
    ·exact hall j (by omega)
    ·rw [List.getElem?_eq_none (by omega), List.getElem?_eq_none (by omega)])
 rw [if_neg hor] at ep3
 refine Gq4 H ?_
 have hC := Check_s H hub
 by_cases hchk : checkM T = true
 ·rw [hchk] at hC
  rw [if_neg (by simp [hchk])] at ep3
  (refine X.call (hC) ?_; (try clear H); rintro _ w ⟨rfl, H⟩; refine ⟨_, rfl, ?_⟩)
  clear hC
  (refine Gq4 H ?_; clear H; (try clear w); intro w H)
  exact ⟨_, resVT (cs := T.cells) H rfl rfl inferInstance (TR.cells_len hub), s3, by rw [ep3]; rfl, hs13, H.tail.tail⟩
 ·rw [show checkM T = false by simpa using hchk] at hC
  rw [if_pos (by simpa using hchk)] at ep3
  (refine X.call (hC) ?_; (try clear H); rintro _ w ⟨rfl, H⟩; refine ⟨_, rfl, ?_⟩)
  clear hC
  (refine Gq4 H ?_; clear H; (try clear w); intro w H)
  exact ⟨_, resVT (cs := TR.zero.cells) H rfl rfl inferInstance (TR.cells_len hz), s3, by rw [ep3]; rfl, hs13, H.tail.tail⟩
end
theorem byteOf_back {v : Int} (h0 : 0 ≤ v) (h1 : v < 256) : ((byteOf v).toNat : Int) = v := by
 unfold byteOf
 rw [UInt8.toNat_ofNat']
 omega
theorem pageM_eq {n : Nd} (h : n.name.length ≤ 8) : ∃ z : Str, pageM n = byteOf n.kind :: byteOf n.parent :: byteOf n.name.length :: (padTo 8 n.name ++ ([byteOf n.size, byteOf n.b0, byteOf n.b1] ++ z)) := by
 have h8 := pad8_len h
 refine ⟨List.replicate 26 0, ?_⟩
 unfold pageM
 rw [padTo, List.take_of_length_le (by simp [h8])]
 simp [h8]
theorem node_page {n : Nd} (h : NdB n) : nodeM (pageM n) = some n := by
 obtain ⟨z, e⟩ := pageM_eq h.nm
 have h8 := pad8_len h.nm
 have a0 : at8 (pageM n) 0 = byteOf n.kind := by rw [e]; rfl
 have a1 : at8 (pageM n) 1 = byteOf n.parent := by rw [e]; rfl
 have a2 : at8 (pageM n) 2 = byteOf n.name.length := by rw [e]; rfl
 have a3 : ∀ k : Nat, at8 (pageM n) (11 + k) = (([byteOf n.size, byteOf n.b0, byteOf n.b1] ++ z : Str)[k]?).getD 0 := by
  intro k
  unfold at8
  rw [e, show 11 + k = (8 + k) + 1 + 1 + 1 by omega, List.getElem?_cons_succ, List.getElem?_cons_succ, List.getElem?_cons_succ, List.getElem?_append_right (by omega), h8, show 8 + k - 8 = k by omega]
 have b0 : at8 (pageM n) 11 = byteOf n.size := a3 0
 have b1 : at8 (pageM n) 12 = byteOf n.b0 := a3 1
 have b2 : at8 (pageM n) 13 = byteOf n.b1 := a3 2
 have hlen : (byteOf n.name.length).toNat = n.name.length := by
  have := byteOf_back (v := (n.name.length : Int)) (by omega) (by have := h.nm; omega)
  omega
 have hd : ((pageM n).drop 3).take 8 = padTo 8 n.name := by
  rw [e]
  show (padTo 8 n.name ++ _).take 8 = _
  rw [List.take_append_of_le_length (by omega), List.take_of_length_le (by omega)]
 have hp : (padTo 8 n.name).take n.name.length = n.name := by
  unfold padTo
  rw [List.take_of_length_le h.nm, List.take_append_of_le_length (Nat.le_refl _), List.take_length]
 unfold nodeM
 rw [a0, a1, a2, b0, b1, b2, hlen, hd, hp, if_neg (by have := h.nm; omega), byteOf_back h.k0 h.k1, byteOf_back h.p0 h.p1, byteOf_back h.s0 h.s1, byteOf_back h.b0 h.b1, byteOf_back h.c0 h.c1]
theorem nodes_pages : ∀ {l : List Nd}, (∀ n ∈ l, NdB n) → nodesM (l.map pageM) = some l
 | [], _ => rfl
 | n :: l, h => by
  rw [List.map_cons, nodesM, node_page (h n (by simp)), Option.bind_some, nodes_pages (fun m hm => h m (by simp [hm]))]
  rfl
theorem ndb_all {t : TR} (ht : t.Ok) (h : checkM t = true) : ∀ n ∈ t.nd, NdB n := by
 intro n hn
 obtain ⟨i, hi, rfl⟩ := List.mem_iff_getElem.1 hn
 rw [ht.n8] at hi
 rw [← TR.n_get ht hi]
 exact ndb_of h hi
theorem pages_eq {t : TR} (h : checkM t = true) : pagesM t = t.nd.map pageM ++ t.bl := by rw [pagesM, if_neg (by simp [h])]
theorem pages_len {t : TR} (ht : t.Ok) (h : checkM t = true) : (pagesM t).length = 16 := by rw [pages_eq h, List.length_append, List.length_map, ht.n8, ht.b8]
theorem pages_40 {t : TR} (ht : t.Ok) (h : checkM t = true) : ∀ p ∈ pagesM t, p.length = 40 := by
 intro p hp
 rw [pages_eq h] at hp
 rcases List.mem_append.1 hp with hp | hp
 ·obtain ⟨n, hn, rfl⟩ := List.mem_map.1 hp
  exact pageM_len (ndb_all ht h n hn).nm
 ·exact ht.b40 p hp
theorem parse_pages {t : TR} (ht : t.Ok) (h : checkM t = true) : parseM (pagesM t) = (t, 0) := by
 have hl := pages_len ht h
 have e1 : (pagesM t).take 8 = t.nd.map pageM := by
  rw [pages_eq h, List.take_append_of_le_length (by rw [List.length_map, ht.n8]; omega), List.take_of_length_le (by rw [List.length_map, ht.n8]; omega)]
 have e2 : (pagesM t).drop 8 = t.bl := by
  have h8 : (t.nd.map pageM).length = 8 := by rw [List.length_map, ht.n8]
  rw [pages_eq h, List.drop_append, List.drop_of_length_le (by omega), h8]
  rfl
 have hn : nodesM ((pagesM t).take 8) = some t.nd := by rw [e1]; exact nodes_pages (ndb_all ht h)
 unfold parseM
 rw [if_neg (by
  rintro (h' | ⟨p, hp, h'⟩)
  ·exact h' hl
  ·exact h' (pages_40 ht h p hp)), hn, e2]
 show (if pagesM t ≠ pagesM t ∧ pagesM t ≠ [] then _ else _) = _
 rw [if_neg (by rintro ⟨h', _⟩; exact h' rfl)]
 show (if checkM t = false then _ else _) = _
 rw [if_neg (by simp [h])]
def SameP (t t' : TR) : Prop := ∀ j, (t'.n j).parent = (t.n j).parent ∧ (t'.n j).name = (t.n j).name ∧ (t'.n j).kind = (t.n j).kind
theorem child_same {t t' : TR} (h : SameP t t') {d : Int} {nm : Str} : childM t' d nm = childM t d nm := by
 have key : ∀ (f i : Nat), childFrom t' d nm f i = childFrom t d nm f i := by
  intro f
  induction f with
  | zero => intro i; rfl
  | succ f ih =>
   intro i
   rw [childFrom, childFrom, (h i).1, (h i).2.1, (h i).2.2, ih]
 exact key 7 1
theorem walk_same {t t' : TR} (h : SameP t t') : ∀ (l : List Str) (a : Int), walkM t' l a = walkM t l a
 | [], a => rfl
 | nm :: l, a => by
  rw [walkM, walkM, (h _).2.2, child_same h, walk_same h]
theorem find_same {t t' : TR} (h : SameP t t') (p : Str) : findM t' p = findM t p := by
 unfold findM
 split
 ·exact walk_same h _ _
 ·rfl
def bytesOf (t : TR) (f : Nat) : Str := (List.range (t.n f).size.toNat).map fun i => peekM t f i
theorem read_all {t : TR} {p : Str} {f : Nat} (hc : checkM t = true) (hf : findM t p = ((f : Int), 0)) (hk : (t.n f).kind = 2) (h80 : (t.n f).size ≤ 80) : readM t p 0 80 = (bytesOf t f, 0) := by
 have hko : kindOfM t p 2 = ((f : Int), 0) := by
  unfold kindOfM
  rw [hf, if_neg (by simp), if_neg (by rw [Int.toNat_natCast]; simpa using hk)]
 unfold readM
 rw [if_neg (by simp [hc]), hko, if_neg (by simp), if_neg (by omega)]
 rw [Int.toNat_natCast]
 split
 ·rename_i h
  unfold bytesOf
  rw [show (t.n f).size.toNat = 0 by omega]
  rfl
 ·unfold bytesOf
  have e : (least 80 ((t.n f).size - 0)).toNat = (t.n f).size.toNat := by unfold least; split <;> omega
  rw [e]
  congr 1
  refine List.map_congr_left (fun i _ => ?_)
  show peekM t f (0 + i) = _
  rw [Nat.zero_add]
theorem peek_poke {u : TR} (hu : u.Ok) {f p i : Nat} {c : UInt8} (hp : 0 < (u.n f).blk (p / 40) ∧ (u.n f).blk (p / 40) ≤ 8) (hi : 0 < (u.n f).blk (i / 40) ∧ (u.n f).blk (i / 40) ≤ 8) (hd : i / 40 ≠ p / 40 → (u.n f).blk (i / 40) ≠ (u.n f).blk (p / 40)) : peekM (pokeM u f p c) f i = if i = p then c else peekM u f i := by
 have hn : (pokeM u f p c).n f = u.n f := rfl
 unfold peekM
 rw [hn]
 by_cases e : i = p
 ·subst e
  rw [if_pos rfl]
  unfold pokeM
  rw [TR.b_setB hu (by omega), if_pos rfl, List.getElem?_set_self (by rw [TR.b_len hu (by omega)]; exact Nat.mod_lt _ (by omega))]
  rfl
 ·rw [if_neg e, poke_other hu hp (q := i % 40)]
  rintro ⟨h1, h2⟩
  have h3 : (u.n f).blk (p / 40) = (u.n f).blk (i / 40) := by omega
  by_cases e2 : i / 40 = p / 40
  ·have := Nat.div_add_mod i 40
   have := Nat.div_add_mod p 40
   rw [e2] at *
   omega
  ·exact hd e2 h3.symm
theorem peek_pokes {f : Nat} : ∀ {l : Str} {u : TR} {p i : Nat}, u.Ok → (∀ k : Nat, p ≤ k → k < p + l.length → 0 < (u.n f).blk (k / 40) ∧ (u.n f).blk (k / 40) ≤ 8) → (0 < (u.n f).blk (i / 40) ∧ (u.n f).blk (i / 40) ≤ 8) → (∀ k : Nat, p ≤ k → k < p + l.length → i / 40 ≠ k / 40 → (u.n f).blk (i / 40) ≠ (u.n f).blk (k / 40)) →
  peekM (pokesM u f p l) f i = if p ≤ i ∧ i < p + l.length then l[i - p]?.getD 0 else peekM u f i
 | [], u, p, i, _, _, _, _ => by rw [pokesM, if_neg (by simp only [List.length_nil]; omega)]
 | c :: l, u, p, i, hu, hb, hi, hd => by
  have hbp := hb p (Nat.le_refl _) (by simp)
  rw [pokesM, peek_pokes (ok_poke hu hbp) (fun k h1 h2 => hb k (by omega) (by simp only [List.length_cons]; omega)) hi (fun k h1 h2 => hd k (by omega) (by simp only [List.length_cons]; omega)), peek_poke hu hbp hi (hd p (Nat.le_refl _) (by simp))]
  simp only [List.length_cons]
  by_cases h1 : p + 1 ≤ i ∧ i < p + 1 + l.length
  ·rw [if_pos h1, if_pos (by omega), show i - p = (i - (p + 1)) + 1 by omega, List.getElem?_cons_succ]
  ·rw [if_neg h1]
   by_cases e : i = p
   ·subst e
    rw [if_pos rfl, if_pos (by omega), Nat.sub_self]
    rfl
   ·rw [if_neg e, if_neg (by omega)]
theorem bytesOf_len {t : TR} {f : Nat} : (bytesOf t f).length = (t.n f).size.toNat := by unfold bytesOf; simp
theorem bytesOf_get {t : TR} {f i : Nat} (h : i < (t.n f).size.toNat) : (bytesOf t f)[i]? = some (peekM t f i) := by
 unfold bytesOf
 simp [h]
theorem behind {t : TR} (h : WF t) {f : Nat} (hf : f < 8) {j q k : Nat} (hj : j < 2) (hq : q < 40) (hk : k < 8) (hb : (t.n f).blk j = (k : Int) + 1) (hl : least ((t.n f).size - 40 * j) 40 ≤ (q : Int)) : (t.b k)[q]? = some 0 := by
 have hc : clAt t (2 * f + j) = ((t.n f).blk j, least ((t.n f).size - 40 * j) 40) := by
  unfold clAt
  rw [show (2 * f + j) / 2 = f by omega, show (2 * f + j) % 2 = j by omega]
  rcases (show j = 0 ∨ j = 1 by omega) with rfl | rfl
  ·rw [if_pos rfl]; simp [Nd.blk]
  ·rw [if_neg (by decide)]; simp [Nd.blk]
 refine h.bf.nought k q hk hq (fun p hp he => ?_)
 by_cases e : p = 2 * f + j
 ·rw [e, hc]; exact hl
 ·exact absurd (by rw [he, hc]; exact hb.symm) (h.bf.one p (2 * f + j) hp (by omega) e (by omega))
theorem blk_ne {t : TR} (h : WF t) {f : Nat} (hf : f < 8) {i j : Nat} (hi : i < 2) (hj : j < 2) (hne : i ≠ j) (h0 : (t.n f).blk i ≠ 0) : (t.n f).blk i ≠ (t.n f).blk j := by
 have hc : ∀ j, j < 2 → (clAt t (2 * f + j)).1 = (t.n f).blk j := by
  intro j hj
  rw [clAt_of, show (2 * f + j) / 2 = f by omega, show (2 * f + j) % 2 = j by omega]
  rfl
 have := h.bf.one (2 * f + i) (2 * f + j) (by omega) (by omega) (by omega) (by rw [hc i hi]; exact h0)
 rw [hc i hi, hc j hj] at this
 exact this
theorem blk_pos {t : TR} (h : WF t) {f : Nat} (hf1 : 1 ≤ f) (hf : f < 8) (hk : (t.n f).kind = 2) {j : Nat} (hj : j < 2) (hs : (j : Int) * 40 < (t.n f).size) : 0 < (t.n f).blk j ∧ (t.n f).blk j ≤ 8 := by
 have hsh := ((h.nd f hf1 hf).resolve_left (kind_nz (by rw [hk]; decide))).sh
 unfold Shaped at hsh
 rcases (show j = 0 ∨ j = 1 by omega) with rfl | rfl
 ·show 0 < (t.n f).b0 ∧ (t.n f).b0 ≤ 8; omega
 ·show 0 < (t.n f).b1 ∧ (t.n f).b1 ≤ 8; omega
theorem write_peek {t u : TR} (h : WF t) {f : Nat} (hf1 : 1 ≤ f) (hf : f < 8) (hk : (t.n f).kind = 2) {size quota : Int} (hg : growM t f size quota = some u) (hs1 : (t.n f).size ≤ size) (hs2 : size ≤ 80) {a : Nat} {l : Str} (hal : (a : Int) + l.length ≤ size) {i : Nat} (hi : (i : Int) < size) :
  peekM (pokesM u f a l) f i = if a ≤ i ∧ i < a + l.length then l[i - a]?.getD 0 else if (i : Int) < (t.n f).size then peekM t f i else 0 := by
 have hw := wf_write h hf1 hf hk hg hs1 hs2 hal
 obtain ⟨x0, x1, G⟩ := grown_of h.ok hf hg
 obtain ⟨hu, hub, hus, hun⟩ := growM_facts h.ok hf (bksJ_iff.2 (h.bks f hf)) hg
 have hnf : u.n f = { t.n f with size := size, b0 := x0, b1 := x1 } := by rw [G.eq, TR.n_set h.ok hf, if_pos rfl]
 have hblk : ∀ k : Nat, (k : Int) < size → 0 < (u.n f).blk (k / 40) ∧ (u.n f).blk (k / 40) ≤ 8 := by
  intro k hk'
  have hj : k / 40 < 2 := by omega
  have b1 := hub _ hj
  have b2 := hun _ hj (by have := Nat.div_mul_le_self k 40; omega)
  omega
 have hwn : (pokesM u f a l).n f = u.n f := pokes_n
 rw [peek_pokes hu (fun k h1 h2 => hblk k (by omega)) (hblk i hi) (fun k h1 h2 hne => by
  have := blk_ne hw hf (i := i / 40) (j := k / 40) (by omega) (by omega) hne (by rw [hwn]; have := hblk i hi; omega)
  rw [hwn] at this
  exact this)]
 split
 ·rfl
 have hubb : ∀ k, u.b k = t.b k := fun k => by rw [G.eq]; rfl
 have hj2 : i / 40 < 2 := by omega
 have hor : (u.n f).blk (i / 40) = (t.n f).blk (i / 40) ∨ ((t.n f).blk (i / 40) = 0 ∧ Fresh t ((u.n f).blk (i / 40))) := by
  rw [hnf]
  rcases (show i / 40 = 0 ∨ i / 40 = 1 by omega) with e | e
  ·rw [e]
   rcases G.a0 with h' | ⟨h1, _, h3⟩
   ·exact .inl h'
   ·exact .inr ⟨h1, h3⟩
  ·rw [e]
   rcases G.a1 with h' | ⟨h1, _, h3, _⟩
   ·exact .inl h'
   ·exact .inr ⟨h1, h3⟩
 have hbi := hblk i hi
 split
 ·rename_i hlt
  have := blk_pos h hf1 hf hk hj2 (by have := Nat.div_mul_le_self i 40; omega)
  rcases hor with e | ⟨e, _⟩
  ·unfold peekM; rw [e, hubb]
  ·omega
 ·rename_i hge
  unfold peekM
  rw [hubb]
  have hm : i % 40 < 40 := Nat.mod_lt _ (by omega)
  have hk8 : ((u.n f).blk (i / 40) - 1).toNat < 8 := by omega
  have hkk : (u.n f).blk (i / 40) = (((u.n f).blk (i / 40) - 1).toNat : Int) + 1 := by omega
  rcases hor with e | ⟨_, hfr⟩
  ·rw [behind h hf hj2 hm hk8 (by rw [← hkk, e]) (by
    have := Nat.div_add_mod i 40
    unfold least
    split <;> omega)]
   rfl
  ·rw [h.bf.nought _ _ hk8 hm (fun p hp he => by
    exfalso
    rw [← hkk] at he
    have := hfr.2.2 (p / 2) (by omega)
    rw [clAt_of] at he
    split at he
    ·exact this.1 he
    ·exact this.2 he)]
   rfl
theorem sum_set : ∀ (l : List Nat) (i x : Nat) (h : i < l.length), (l.set i x).sum + l[i] = l.sum + x
 | a :: l, 0, x, _ => by simp only [List.set_cons_zero, List.sum_cons, List.getElem_cons_zero]; omega
 | a :: l, i + 1, x, h => by
  have := sum_set l i x (by simpa using h)
  simp only [List.set_cons_succ, List.sum_cons, List.getElem_cons_succ]
  omega
theorem used_set {t : TR} (ht : t.Ok) {f : Nat} (hf : f < 8) (x : Nd) : usedN (t.set f x) + (t.n f).nblk = usedN t + x.nblk := by
 have := sum_set (t.nd.map Nd.nblk) f x.nblk (by rw [List.length_map, ht.n8]; exact hf)
 rw [← List.map_set, List.getElem_map, ← TR.n_get ht hf] at this
 exact this
theorem pokes_nd {f : Nat} : ∀ {l : Str} {u : TR} {p : Nat}, (pokesM u f p l).nd = u.nd
 | [], u, p => rfl
 | c :: l, u, p => by rw [pokesM, pokes_nd]; rfl
theorem growJ_used {t v : TR} (ht : t.Ok) {f : Nat} (hf : f < 8) {size quota : Int} {j : Nat} (hj : j < 2) (h : growJ t f size quota j = some v) : v.Ok ∧ ((usedN v : Int) ≤ usedN t ∨ (usedN v : Int) ≤ quota) := by
 unfold growJ at h
 split at h
 ·cases h; exact ⟨ht, .inl (Int.le_refl _)⟩
 ·rename_i hc
  split at h
  ·cases h
  ·rename_i hc2
   cases h
   refine ⟨TR.ok_set ht _ _, .inr ?_⟩
   have h1 := used_set ht hf ((t.n f).setBlk j (unusedM t))
   have h2 : ((t.n f).setBlk j (unusedM t)).nblk ≤ (t.n f).nblk + 1 := by
    unfold Nd.setBlk Nd.nblk
    split <;> dsimp only <;> split <;> split <;> omega
   omega
theorem growM_used {t u : TR} (ht : t.Ok) {f : Nat} (hf : f < 8) {size quota : Int} (h : growM t f size quota = some u) : (usedN u : Int) ≤ usedN t ∨ (usedN u : Int) ≤ quota := by
 rw [growM_eq] at h
 unfold growTo growTo growTo at h
 simp only [Option.bind_some] at h
 cases h0 : growJ t f size quota 0 with
 | none => rw [h0] at h; cases h
 | some a =>
  rw [h0, Option.bind_some] at h
  cases h1 : growJ a f size quota 1 with
  | none => rw [h1] at h; cases h
  | some b =>
   rw [h1, Option.map_some] at h
   cases h
   obtain ⟨a1, a2⟩ := growJ_used ht hf (by omega) h0
   obtain ⟨b1, b2⟩ := growJ_used a1 hf (by omega) h1
   have h3 := used_set b1 hf ⟨(b.n f).kind, (b.n f).parent, (b.n f).name, size, (b.n f).b0, (b.n f).b1⟩
   have h4 : (⟨(b.n f).kind, (b.n f).parent, (b.n f).name, size, (b.n f).b0, (b.n f).b1⟩ : Nd).nblk = (b.n f).nblk := rfl
   change (usedN (b.set f ⟨(b.n f).kind, (b.n f).parent, (b.n f).name, size, (b.n f).b0, (b.n f).b1⟩) : Int) ≤ _ ∨ _
   omega
structure Written (t w : TR) (p : Str) (o : Nat) (l : Str) (quota : Int) : Prop where
 chk : checkM w = true
 rd : (readM w p 0 80).2 = 0
 used : (usedN w : Int) ≤ usedN t ∨ (usedN w : Int) ≤ quota
 len : (readM w p 0 80).1.length = if l.length = 0 ∨ o + l.length < (readM t p 0 80).1.length then (readM t p 0 80).1.length else o + l.length
 byte : ∀ i : Nat, i < (readM w p 0 80).1.length → (readM w p 0 80).1[i]? = some (if o ≤ i ∧ i - o < l.length then l[i - o]?.getD 0 else if i < (readM t p 0 80).1.length then (readM t p 0 80).1[i]?.getD 0 else 0)
theorem file_size {t : TR} (h : WF t) {f : Nat} (hf : f < 8) (hk : (t.n f).kind = 2) : 0 ≤ (t.n f).size ∧ (t.n f).size ≤ 80 := by
 have := ((h.nd f (file_pos h.root hk) hf).resolve_left (kind_nz (by rw [hk]; decide))).sh
 unfold Shaped at this
 omega
theorem written {t : TR} (ht : t.Ok) {p : Str} {a : Int} {l : Str} {qu : Int} (h : (writeM t p a l qu).2 = 0) : ∃ o : Nat, a = o ∧ o ≤ 80 ∧ Written t (writeM t p a l qu).1 p o l qu := by
 have hcw := check_write ht h
 obtain ⟨hc, f, o, hfd, hf, hk, rfl, ho, hcase⟩ := write_ok h
 have hw := (check_wf ht).1 hc
 have hf1 := file_pos hw.root hk
 have hsz := file_size hw hf hk
 have hrt := read_all hc hfd hk hsz.2
 refine ⟨o, rfl, by omega, ?_⟩
 rcases hcase with ⟨hl, e⟩ | ⟨hl, u, hg, e⟩
 ·rw [e]
  refine ⟨hc, by rw [hrt], .inl (Int.le_refl _), by rw [hrt, if_pos (.inl hl)], fun i hi => ?_⟩
  rw [hrt] at hi ⊢
  dsimp only at hi ⊢
  rw [if_neg (by omega), if_pos hi, List.getElem?_eq_getElem hi]
  rfl
 ·rw [e] at hcw ⊢
  have hg' := growM_facts ht hf (bksJ_iff.2 (hw.bks f hf)) hg
  have hmo : most (t.n f).size ((o : Int) + l.length) ≤ 80 := by unfold most; split <;> omega
  obtain ⟨x0, x1, G⟩ := grown_of ht hf hg
  have hsame : SameP t (pokesM u f o l) := fun j => by
   rw [pokes_n, G.eq, TR.n_set ht hf]
   split
   ·rename_i e'; subst e'; exact ⟨rfl, rfl, rfl⟩
   ·exact ⟨rfl, rfl, rfl⟩
  have hfw : findM (pokesM u f o l) p = ((f : Int), 0) := by rw [find_same hsame, hfd]
  have hkw : ((pokesM u f o l).n f).kind = 2 := by rw [(hsame f).2.2, hk]
  have hsw : ((pokesM u f o l).n f).size = most (t.n f).size ((o : Int) + l.length) := by rw [pokes_n]; exact hg'.2.2.1
  have hrw := read_all hcw hfw hkw (by rw [hsw]; exact hmo)
  have hlw : (bytesOf (pokesM u f o l) f).length = (most (t.n f).size ((o : Int) + l.length)).toNat := by rw [bytesOf_len, hsw]
  have hlt : (bytesOf t f).length = (t.n f).size.toNat := bytesOf_len
  refine ⟨hcw, by rw [hrw], ?_, ?_, fun i hi => ?_⟩
  ·have := growM_used ht hf hg
   unfold usedN at this ⊢
   rw [pokes_nd]
   exact this
  ·rw [hrw, hrt]
   dsimp only
   rw [hlw, hlt]
   unfold most
   split <;> split <;> omega
  ·rw [hrw] at hi ⊢
   rw [hrt]
   dsimp only at hi ⊢
   rw [hlw] at hi
   rw [bytesOf_get (by rw [hsw]; exact hi), write_peek hw hf1 hf hk hg (by unfold most; split <;> omega) hmo (by unfold most; split <;> omega) (by omega), hlt]
   by_cases h1 : o ≤ i ∧ i < o + l.length
   ·rw [if_pos h1, if_pos (by omega)]
   ·have e1 : ¬ (o ≤ i ∧ i - o < l.length) := by omega
    rw [if_neg h1, if_neg e1]
    by_cases h2 : (i : Int) < (t.n f).size
    ·rw [if_pos h2, if_pos (by omega), bytesOf_get (by omega)]
     rfl
    ·rw [if_neg h2, if_neg (by omega)]
section
variable {t : TR} (ht : t.Ok) {p q r : Str} (hr : (readM t p 0 80).2 = 0)
include ht hr
end
theorem used_make {t : TR} (ht : t.Ok) {p : Str} {k : Int} (h : (makeM t p k).2 = 0) : usedN (makeM t p k).1 ≤ usedN t := by
 obtain ⟨_, _, _, i, d, _, _, _, _, _, hi, _, e⟩ := make_ok h
 rw [e]
 have := used_set ht hi ⟨k, (d : Int), (splitM p).2, 0, 0, 0⟩
 have h0 : Nd.nblk ⟨k, (d : Int), (splitM p).2, 0, 0, 0⟩ = 0 := rfl
 omega
theorem used_clr {t : TR} {b : Int} : usedN (clrM t b) = usedN t := by
 unfold clrM
 split <;> rfl
theorem used_empty {t : TR} (ht : t.Ok) {i : Nat} (hi : i < 8) : usedN (emptyM t i) ≤ usedN t := by
 unfold emptyM
 have := used_set (ok_clr (ok_clr ht) : (clrM (clrM t (t.n i).b0) (t.n i).b1).Ok) hi { t.n i with size := 0, b0 := 0, b1 := 0 }
 have h0 : Nd.nblk { t.n i with size := 0, b0 := 0, b1 := 0 } = 0 := rfl
 rw [used_clr, used_clr] at this
 omega
theorem used_remove {t : TR} (ht : t.Ok) {p : Str} (h : (removeM t p).2 = 0) : usedN (removeM t p).1 ≤ usedN t := by
 obtain ⟨_, _, f, _, _, hf, _, e⟩ := remove_ok h
 rw [e]
 have h1 := used_set (ok_empty ht : (emptyM t f).Ok) hf Nd.zero
 have h2 := used_empty ht hf
 have h0 : Nd.nblk Nd.zero = 0 := rfl
 omega
theorem used_write {t : TR} (ht : t.Ok) {p : Str} {a : Int} {l : Str} {qu : Int} (h : (writeM t p a l qu).2 = 0) : (usedN (writeM t p a l qu).1 : Int) ≤ usedN t ∨ (usedN (writeM t p a l qu).1 : Int) ≤ qu := by
 obtain ⟨_, _, _, hW⟩ := written ht h
 exact hW.used
theorem read_len {t : TR} (ht : t.Ok) {p : Str} {a n : Int} (ha : 0 ≤ a) (h80 : a ≤ 80) : 0 ≤ a + ((readM t p a n).1.length : Int) ∧ a + ((readM t p a n).1.length : Int) ≤ 80 := by
 unfold readM
 split
 ·simp; omega
 rename_i hc
 split
 ·simp; omega
 rename_i hk
 split
 ·simp; omega
 rename_i han
 split
 ·simp; omega
 rename_i hsz
 obtain ⟨q, hq, e, hkd, _⟩ := kindOfM_range (t := t) (p := p) (k := 2) (by simpa using hk)
 rw [e] at hsz ⊢
 dsimp only at hsz ⊢
 rw [Int.toNat_natCast] at hsz ⊢
 have hw := (check_wf ht).1 (by simpa using hc)
 have := file_size hw hq hkd
 rw [List.length_map, List.length_range]
 unfold least
 split <;> omega
theorem write_len {t : TR} {p : Str} {a : Int} {l : Str} {qu : Int} (h : (writeM t p a l qu).2 = 0) : 0 ≤ a ∧ a + (l.length : Int) ≤ 80 := by
 unfold writeM at h
 split at h
 ·simp at h
 split at h
 ·rename_i hk; exact absurd h hk
 split at h
 ·simp at h
 split at h
 ·simp at h
 omega
section
variable {w : World} {s : Ro} {R : List Asn} {p : Str} {t : TR}
end
structure Hd where
 op : Bool
 node : Int
 at_ : Int
def Hd.cells (h : Hd) : List Value := [.bool h.op, .int .i64 h.node, .int .i64 h.at_]
def Hd.zero : Hd := ⟨false, 0, 0⟩
def Hd.Ok (h : Hd) : Prop := 0 ≤ h.at_ ∧ h.at_ ≤ 80
def HOk (hs : List Hd) : Prop := hs.length = 4 ∧ ∀ h ∈ hs, h.Ok
theorem Hd.cells_len (h : Hd) : h.cells.length = 3 := rfl
theorem Hd.cells_one (h : Hd) : ∀ v ∈ h.cells, v.oneCell' = true := by
 intro v hv
 simp only [Hd.cells, List.mem_cons, List.not_mem_nil, or_false] at hv
 rcases hv with rfl | rfl | rfl <;> rfl
theorem HOk.get {hs : List Hd} (h : HOk hs) {i : Nat} (hi : i < 4) : (hs[i]?.getD Hd.zero).Ok := by
 rw [List.getElem?_eq_getElem (by rw [h.1]; exact hi)]
 exact h.2 _ (List.getElem_mem _)
theorem HOk.set {hs : List Hd} (h : HOk hs) (i : Nat) {x : Hd} (hx : x.Ok) : HOk (hs.set i x) := ⟨by rw [List.length_set, h.1], fun y hy => by
 rcases List.mem_or_eq_of_mem_set hy with hy | rfl
 ·exact h.2 y hy
 ·exact hx⟩
theorem HOk.rep : HOk (List.replicate 4 Hd.zero) := ⟨rfl, fun x hx => by
 rw [List.eq_of_mem_replicate hx]; exact ⟨by decide, by decide⟩⟩
abbrev hd (hs : List Hd) (i : Nat) : Hd := hs[i]?.getD Hd.zero
def fsC (bL : Nat) (t : TR) (q : Int) (hs : List Hd) : List Value := .pointer (some ⟨bL, 0, none⟩) :: (t.cells ++ (.int .i64 q :: hs.flatMap Hd.cells))
abbrev fsV (bF bL : Nat) (t : TR) (q : Int) (hs : List Hd) : Asn := var bF 102 (fsC bL t q hs)
section
variable {bL : Nat} {t u : TR} {q : Int} {hs : List Hd}
theorem hs_len (h : hs.length = 4) : (hs.flatMap Hd.cells).length = 12 := by rw [flatS_len hs (fun x _ => Hd.cells_len x), h]
theorem fsC_len (ht : t.Ok) (h : hs.length = 4) : (fsC bL t q hs).length = 382 := by
 unfold fsC
 rw [List.length_cons, List.length_append, List.length_cons, TR.cells_len ht, hs_len h]
theorem fs_app (ht : t.Ok) : fsC bL t q hs = (.pointer (some ⟨bL, 0, none⟩) :: (t.cells ++ [.int .i64 q])) ++ hs.flatMap Hd.cells := by
 unfold fsC
 simp
theorem fs_pre (ht : t.Ok) : (Value.pointer (some ⟨bL, 0, none⟩) :: (t.cells ++ [.int .i64 q])).length = 370 := by
 rw [List.length_cons, List.length_append, TR.cells_len ht]; rfl
theorem fs_tree (ht : t.Ok) : ((fsC bL t q hs).drop 1).take 368 = t.cells := by
 unfold fsC
 rw [List.drop_succ_cons, List.drop_zero, List.take_left' (TR.cells_len ht)]
theorem fs_put (ht : t.Ok) : (fsC bL t q hs).take 1 ++ u.cells ++ (fsC bL t q hs).drop (1 + 368) = fsC bL u q hs := by
 unfold fsC
 rw [show 1 + 368 = 368 + 1 by rfl, List.drop_succ_cons, List.drop_left' (TR.cells_len ht)]
 simp
theorem fs_q (ht : t.Ok) : (fsC bL t q hs)[369]? = some (.int .i64 q) := by
 unfold fsC
 rw [List.getElem?_cons_succ, List.getElem?_append_right (by rw [TR.cells_len ht]; exact Nat.le_refl _), TR.cells_len ht]
 rfl
theorem hd_get (h : hs.length = 4) {i : Nat} (hi : i < 4) : hd hs i = hs[i]'(by rw [h]; exact hi) := by
 unfold hd
 rw [List.getElem?_eq_getElem (by rw [h]; exact hi)]; rfl
theorem fs_h (ht : t.Ok) (h : hs.length = 4) {i : Nat} (hi : i < 4) {k : Nat} {v : Value} (hk : (hd hs i).cells[k]? = some v) : (fsC bL t q hs)[370 + i * 3 + k]? = some v := by
 have hk3 : k < 3 := by
  rw [← Hd.cells_len (hd hs i)]
  exact (List.getElem?_eq_some_iff.1 hk).1
 rw [fs_app ht, List.getElem?_append_right (by rw [fs_pre ht]; omega), fs_pre ht, show 370 + i * 3 + k - 370 = i * 3 + k by omega, flat_get hs (fun x _ => Hd.cells_len x) i k (by rw [h]; exact hi) hk3, ← hd_get h hi]
 exact hk
theorem fs_hs (ht : t.Ok) (h : hs.length = 4) : ((fsC bL t q hs).drop 370).take 12 = hs.flatMap Hd.cells := by
 rw [fs_app ht, List.drop_left' (fs_pre ht), List.take_of_length_le (by rw [hs_len h]; exact Nat.le_refl _)]
theorem fs_set (ht : t.Ok) (h : hs.length = 4) {i : Nat} (hi : i < 4) {k : Nat} (hk : k < 3) {v : Value} {x : Hd} (hx : x.cells = (hd hs i).cells.set k v) : (fsC bL t q hs).set (370 + i * 3 + k) v = fsC bL t q (hs.set i x) := by
 rw [fs_app ht, fs_app ht, List.set_append_right _ _ (by rw [fs_pre ht]; omega), fs_pre ht, show 370 + i * 3 + k - 370 = i * 3 + k by omega, flatS_set (f := Hd.cells) hs (fun x _ => Hd.cells_len x) i k v x (by rw [h]; exact hi) hk (by rw [hx, hd_get h hi])]
theorem fs_putH (ht : t.Ok) (h : hs.length = 4) {i : Nat} (hi : i < 4) (x : Hd) : (fsC bL t q hs).take (370 + i * 3) ++ x.cells ++ (fsC bL t q hs).drop (370 + i * 3 + 3) = fsC bL t q (hs.set i x) := by
 have e : putL (fsC bL t q hs) (370 + i * 3) x.cells = fsC bL t q (hs.set i x) := by
  rw [fs_app ht, fs_app ht, putL_right (by rw [fs_pre ht]; omega), fs_pre ht, show 370 + i * 3 - 370 = i * 3 + 0 by omega, flatS_put (f := Hd.cells) hs (fun x _ => Hd.cells_len x) i 0 x.cells x (by rw [h]; exact hi) (by rw [Hd.cells_len]; omega) (by simp [putL, Hd.cells])]
 exact e
end
section
variable {n : Nat} {ops : Array Oper} {Q : Post} {rest : List Oper} {e : Env} {w : World} {s : Ro} {rs R : List Asn} {tt : Nat} {pp : String} {af : Array Edge} {g : Option (Nat × Bool)} {d : Nat}
variable {x y : Operand} {b bL : Nat} {tp : TypeId} {t u : TR} {q : Int} {hs : List Hd} {f : List Value → List Asn}
theorem X.ldF (H : Holds s w rs) (h : L Tryz.prog n ops Q rest (upd e d (.agg t.cells.toArray)) w) (hw : wg n ops g e = true := by rfl) (hd : Nat.blt d n = true := by rfl) (hx : ev e x = .pointer (some ⟨b, 1, none⟩) := by rfl) (T : PutV rs b tp (fsC bL t q hs) f := by infer_instance) (ht : t.Ok := by assumption) : L Tryz.prog n ops Q (⟨some d, .load 41 x, tt, pp, af, g⟩ :: rest) e w :=
 X.ldp (k := 368) t.cells H h hw hd hx T (fs_tree ht) (TR.cells_len ht)
theorem X.stF (H : Holds s w rs) (h : ∀ w', Holds s w' (f (fsC bL u q hs)) → L Tryz.prog n ops Q rest e w') (hw : wg n ops g e = true := by rfl) (hx : ev e x = .pointer (some ⟨b, 1, none⟩) := by rfl) (V : PutV rs b tp (fsC bL t q hs) f := by infer_instance) (hy : ev e y = .agg u.cells.toArray := by rfl) (ht : t.Ok := by assumption) (hu : u.Ok := by assumption) (h8 : hs.length = 4 := by assumption) : L Tryz.prog n ops Q (⟨none, .store 41 x y, tt, pp, af, g⟩ :: rest) e w :=
 X.stp (k := 368) (ys := u.cells) (fsC bL u q hs) H h hw hx V hy (fs_put ht) (TR.cells_all hu) (TR.cells_len hu) (by rw [Nat.ble_eq, fsC_len ht h8]; decide)
theorem X.ldFq {ty : TypeId} [OneC Tryz.prog ty] (H : Holds s w rs) (h : L Tryz.prog n ops Q rest (upd e d (.int .i64 q)) w) (hw : wg n ops g e = true := by rfl) (hd : Nat.blt d n = true := by rfl) (hx : ev e x = .pointer (some ⟨b, 369, none⟩) := by rfl) (T : PutV rs b tp (fsC bL t q hs) f := by infer_instance) (ht : t.Ok := by assumption) : L Tryz.prog n ops Q (⟨some d, .load ty x, tt, pp, af, g⟩ :: rest) e w := X.ld H h hw hd hx T (fs_q ht)
theorem X.ldH {ty : TypeId} [OneC Tryz.prog ty] {v : Value} {off : Nat} (i k : Nat) (H : Holds s w rs) (hi : i < 4) (hk : (Go.Proofs.YtgilmcpdpggikaaGreatDoor.hd hs i).cells[k]? = some v) (h : L Tryz.prog n ops Q rest (upd e d v) w) (ho : off = 370 + i * 3 + k := by rfl) (hw : wg n ops g e = true := by rfl) (hd : Nat.blt d n = true := by rfl) (hx : ev e x = .pointer (some ⟨b, off, none⟩) := by rfl) (T : PutV rs b tp (fsC bL t q hs) f := by infer_instance) (ht : t.Ok := by assumption) (h8 : hs.length = 4 := by assumption) : L Tryz.prog n ops Q (⟨some d, .load ty x, tt, pp, af, g⟩ :: rest) e w := by
 subst ho
 exact X.ld H h hw hd hx T (fs_h ht h8 hi hk)
theorem X.stH {ty : TypeId} [OneC Tryz.prog ty] {v : Value} {off : Nat} (i k : Nat) (z : Hd) (H : Holds s w rs) (hi : i < 4) (hk : k < 3) (hz : z.cells = (Go.Proofs.YtgilmcpdpggikaaGreatDoor.hd hs i).cells.set k v) (h : ∀ w', Holds s w' (f (fsC bL t q (hs.set i z))) → L Tryz.prog n ops Q rest e w') (ho : off = 370 + i * 3 + k := by rfl) (hw : wg n ops g e = true := by rfl) (hx : ev e x = .pointer (some ⟨b, off, none⟩) := by rfl) (V : PutV rs b tp (fsC bL t q hs) f := by infer_instance) (hy : ev e y = v := by rfl) (h1 : v.oneCell' = true := by rfl) (ht : t.Ok := by assumption) (h8 : hs.length = 4 := by assumption) : L Tryz.prog n ops Q (⟨none, .store ty x y, tt, pp, af, g⟩ :: rest) e w := by
 obtain ⟨j, hj, hf⟩ := V.ix
 subst ho
 exact K.store j H hw hx hj hy h1 (by rw [Nat.blt_eq, fsC_len ht h8]; omega) (fun w' H' => h w' (by rw [hf, fs_set ht h8 hi hk hz] at H'; exact H'))
theorem X.putH {ty : TypeId} [RowC Tryz.prog ty 3] {off : Nat} (i : Nat) (z : Hd) (H : Holds s w rs) (hi : i < 4) (h : ∀ w', Holds s w' (f (fsC bL t q (hs.set i z))) → L Tryz.prog n ops Q rest e w') (ho : off = 370 + i * 3 := by rfl) (hw : wg n ops g e = true := by rfl) (hx : ev e x = .pointer (some ⟨b, off, none⟩) := by rfl) (V : PutV rs b tp (fsC bL t q hs) f := by infer_instance) (hy : ev e y = .agg z.cells.toArray := by rfl) (ht : t.Ok := by assumption) (h8 : hs.length = 4 := by assumption) : L Tryz.prog n ops Q (⟨none, .store ty x y, tt, pp, af, g⟩ :: rest) e w := by
 subst ho
 exact X.stp (k := 3) (ys := z.cells) (fsC bL t q (hs.set i z)) H h hw hx V hy (fs_putH ht h8 hi z) (List.all_eq_true.2 (Hd.cells_one z)) (Hd.cells_len z) (by rw [Nat.ble_eq, fsC_len ht h8]; omega)
theorem X.ldHs {ty : TypeId} [RowC Tryz.prog ty 12] (H : Holds s w rs) (h : L Tryz.prog n ops Q rest (upd e d (.agg (hs.flatMap Hd.cells).toArray)) w) (hw : wg n ops g e = true := by rfl) (hd : Nat.blt d n = true := by rfl) (hx : ev e x = .pointer (some ⟨b, 370, none⟩) := by rfl) (T : PutV rs b tp (fsC bL t q hs) f := by infer_instance) (ht : t.Ok := by assumption) (h8 : hs.length = 4 := by assumption) : L Tryz.prog n ops Q (⟨some d, .load ty x, tt, pp, af, g⟩ :: rest) e w :=
 X.ldp (k := 12) (hs.flatMap Hd.cells) H h hw hd hx T (fs_hs ht h8) (hs_len h8)
end
end Go.Proofs.YtgilmcpdpggikaaGreatDoor

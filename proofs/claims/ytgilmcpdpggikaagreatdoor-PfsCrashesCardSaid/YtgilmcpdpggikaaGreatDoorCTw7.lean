/- Squeezed copy of the texts Tw7. -/
import Derived.Test.YtgilmcpdpggikaaGreatDoorCRa
set_option maxRecDepth 100000
set_option maxHeartbeats 1000000
set_option linter.unusedSimpArgs false
set_option linter.unusedVariables false
namespace Go.Proofs.YtgilmcpdpggikaaGreatDoor
open Go Go.RowKit Go.Own
section
variable {s : Ro} {w : World} {R : List Asn} {p : Str}
theorem names_s (H : Holds s w R) : Calls Tryz.prog 96 #[.string ⟨p.toArray⟩] w fun e w' => ∃ b, e = .returned (.func (.func 122) #[] #[.pointer (some ⟨b, 0, none⟩)]) ∧ Holds s w' (var b 9 [.string ⟨p.toArray⟩] :: R) := by
 refine enter Tryz.func96 rfl Tryz.ntmps96 rfl ?_
 repeat' (first | (refine B.fn (l := []) ?_) | refine Go2 H ?_ | (refine Gs2 H ?_; clear H; (try clear w); intro w H) | (refine Gn H ?_; clear H; (try clear w); intro _ w H))
 exact ⟨_, resT rfl, _, rfl, H⟩
theorem parts_ne (s : Str) : parts s ≠ [] := by
 cases h : (cutS s).2 with
 | none => rw [parts_none h]; simp
 | some r => rw [parts_some h]; simp
theorem names1_k {m b : Nat} {t : TypeId} {f : Nat × Nat} (hp0 : p[0]? = some 47) (hp : p.length ≤ 1000) (hb : w.heap[b]? = some (.cells #[.string ⟨p.toArray⟩] t f)) : SeqStopsK (WF none) m Tryz.prog 122 #[.pointer (some ⟨b, 0, none⟩)] (fun x : Str => #[.string ⟨x.toArray⟩]) (fun _ _ => True) (fun xs => xs = namesM p) (fun pre => pre <+: namesM p) (namesM p).length w := by
 intro l Ja Jb W hbel hJ hJx hY h0
 show CallsIn (WF none) m _ _ (#[.func (.yield l) #[] #[], .pointer (some ⟨b, 0, none⟩)]) W _
 refine enterI (args := [.func (.yield l) #[] #[], .pointer (some ⟨b, 0, none⟩)]) Tryz.func122 rfl Tryz.ntmps122 rfl ?_
 have hbW : W.heap[b]? = some (.cells #[.string ⟨p.toArray⟩] t f) := by rw [hbel.block b (lt_of_heap hb)]; exact hb
 have H := Holds.start W
 have hpin : Pin (startRo W) b 0 (.string ⟨p.toArray⟩) := ⟨_, _, _, hbW, rfl⟩
 by_cases hroot : p = [47]
 ·subst hroot
  have hpin2 : Pin (startRo W) b 0 (.string ⟨([47] : Str).toArray⟩) := hpin
  repeat' (first | (refine CI.seq ?_) | (refine CI.region ?_) | (refine CI.block ?_) | (refine CI.tru ?_) | (refine CI.fls ?_) | (refine CI.ret ?_) | (refine CI.skip ?_; try change CI _ _ _ _ _ _ _ _) | (refine CI.exit ?_; try change CI _ _ _ _ _ _ _ _) | (refine L.nil ?_; try change CI _ _ _ _ _ _ _ _) | (refine X.eqL (a := [47]) (b := [47]) ?_ ?_ <;> intro hc <;> first | (exfalso; exact hc rfl) | skip) | refine Go2 H ?_ | (refine Gs2 H ?_; clear H; (try clear w); intro w H) | (refine Gn H ?_; clear H; (try clear w); intro _ w H))
  exact ⟨_, res0 rfl, ⟨_, rfl⟩, .inl ⟨[], by rfl, h0⟩⟩
 have hnm : namesM p = parts (p.drop 1) := if_neg hroot
 rw [hnm] at hY ⊢
 have hp1 : 1 ≤ p.length := (List.getElem?_eq_some_iff.1 hp0).1
 repeat' (first | (refine CI.seq ?_) | (refine CI.region ?_) | (refine CI.block ?_) | (refine CI.tru ?_) | (refine CI.fls ?_) | (refine CI.ret ?_) | (refine CI.skip ?_; try change CI _ _ _ _ _ _ _ _) | (refine CI.exit ?_; try change CI _ _ _ _ _ _ _ _) | (refine L.nil ?_; try change CI _ _ _ _ _ _ _ _) | (refine X.eqL (a := p) (b := [47]) ?_ ?_ <;> intro hc <;> first | (exfalso; exact hroot hc) | skip) | (refine X.from (l := p) 1 ?_ rfl hp1) | refine Go2 H ?_ | (refine Gs2 H ?_; clear H; (try clear w); intro w H) | (refine Gn H ?_; clear H; (try clear w); intro _ w H))
 clear H hpin
 refine CI.loopS [3, 4, 5, 10, 11, 12, 13, 14, 15, 16, 17, 18, 19, 20] [3, 4] rfl (fun k vs W' => ∃ pre, (∃ r : Str, k = r.length + 1 ∧ r.length ≤ 1000 ∧ vs = [.string ⟨r.toArray⟩, .bool true] ∧ parts (p.drop 1) = pre ++ parts r ∧ Ja pre W') ∨ (∃ r : Str, k = 0 ∧ vs = [.string ⟨r.toArray⟩, .bool false] ∧ parts (p.drop 1) = pre ∧ Ja pre W')) ((p.drop 1).length + 1) ⟨[], .inl ⟨p.drop 1, rfl, by simp; omega, rfl, rfl, h0⟩⟩ ?_
 clear hbW hbel h0 hJx
 rintro k vs hv w1 ⟨pre, ⟨r, rfl, hrl, rfl, hpar, hJp⟩ | ⟨r, rfl, rfl, hpar, hJp⟩⟩
 rotate_left
 ·have H := Holds.start w1
  repeat' (first | (refine CI.seq ?_) | (refine CI.region ?_) | (refine CI.block ?_) | (refine CI.tru ?_) | (refine CI.fls ?_) | (refine CI.ret ?_) | (refine CI.skip ?_; try change CI _ _ _ _ _ _ _ _) | (refine CI.exit ?_; try change CI _ _ _ _ _ _ _ _) | (refine L.nil ?_; try change CI _ _ _ _ _ _ _ _) | refine Go2 H ?_ | (refine Gs2 H ?_; clear H; (try clear w); intro w H) | (refine Gn H ?_; clear H; (try clear w); intro _ w H))
  exact ⟨_, res0 rfl, ⟨_, rfl⟩, .inl ⟨_, hpar.symm, hJp⟩⟩
 have H := Holds.start w1
 have hlen : pre.length < (parts (p.drop 1)).length := by
  rw [hpar, List.length_append]
  have := List.length_pos_iff.2 (parts_ne r)
  omega
 repeat' (first | (refine CI.seq ?_) | (refine CI.region ?_) | (refine CI.block ?_) | (refine CI.tru ?_) | (refine CI.fls ?_) | (refine CI.ret ?_) | (refine CI.skip ?_; try change CI _ _ _ _ _ _ _ _) | (refine CI.exit ?_; try change CI _ _ _ _ _ _ _ _) | (refine L.nil ?_; try change CI _ _ _ _ _ _ _ _) | refine Go2 H ?_ | (refine Gs2 H ?_; clear H; (try clear w); intro w H) | (refine Gn H ?_; clear H; (try clear w); intro _ w H))
 (refine X.call (Cut_s (l := r) H (by omega)) ?_; (try clear H); rintro _ w ⟨rfl, H⟩; refine ⟨_, rfl, ?_⟩)
 have ho := Holds.fin (Ro.Le.refl _) H
 have hJ2 := Abides.only hJ hJp ho
 clear H ho hJp
 have H := Holds.start w
 cases hcut : (cutS r).2 with
 | none =>
  have hpr := parts_none hcut
  unfold cutV
  rw [hcut]
  repeat' (first | (refine CI.seq ?_) | (refine L.nil ?_; try change CI _ _ _ _ _ _ _ _) | refine Go2 H ?_ | (refine Gs2 H ?_; clear H; (try clear w); intro w H) | (refine Gn H ?_; clear H; (try clear w); intro _ w H))
  refine CI.regionI (LI.of 2 rfl ?_)
  simp only [List.take_succ_cons, List.take_zero, List.drop_succ_cons, List.drop_zero]
  refine Gq2 H ?_
  change LI _ _ _ _ _ _ _ _ _
  refine LI.yield (args := [.string ⟨(cutS r).1.toArray⟩]) (hY pre (cutS r).1 w hJ2 hlen) ?_
  clear H
  rintro x w2 (⟨rfl, hJ3, _⟩ | ⟨rfl, hJ3⟩)
  ·refine ⟨_, rfl, LI.of 1 rfl ?_⟩
   simp only [List.take_succ_cons, List.take_zero, List.drop_succ_cons, List.drop_zero]
   have H := Holds.start w2
   refine Gq2 H ?_
   refine LI.nil ?_
   repeat' (first | (refine CI.seq ?_) | (refine CI.region ?_) | (refine CI.block ?_) | (refine CI.tru ?_) | (refine CI.fls ?_) | (refine CI.ret ?_) | (refine CI.skip ?_; try change CI _ _ _ _ _ _ _ _) | (refine CI.exit ?_; try change CI _ _ _ _ _ _ _ _) | (refine L.nil ?_; try change CI _ _ _ _ _ _ _ _) | refine Go2 H ?_ | (refine Gs2 H ?_; clear H; (try clear w); intro w H) | (refine Gn H ?_; clear H; (try clear w); intro _ w H))
   exact ⟨agr, 0, by omega, pre ++ [(cutS r).1], .inr ⟨_, rfl, rfl, by rw [hpar, hpr], hJ3⟩⟩
  ·refine ⟨_, rfl, LI.of 1 rfl ?_⟩
   simp only [List.take_succ_cons, List.take_zero, List.drop_succ_cons, List.drop_zero]
   have H := Holds.start w2
   refine Gq2 H ?_
   refine LI.nil ?_
   repeat' (first | (refine CI.seq ?_) | (refine CI.region ?_) | (refine CI.block ?_) | (refine CI.tru ?_) | (refine CI.fls ?_) | (refine CI.ret ?_) | (refine CI.skip ?_; try change CI _ _ _ _ _ _ _ _) | (refine CI.exit ?_; try change CI _ _ _ _ _ _ _ _) | (refine L.nil ?_; try change CI _ _ _ _ _ _ _ _) | refine Go2 H ?_ | (refine Gs2 H ?_; clear H; (try clear w); intro w H) | (refine Gn H ?_; clear H; (try clear w); intro _ w H))
   exact ⟨_, res0 rfl, ⟨_, rfl⟩, .inr ⟨_, by rw [hpar, hpr]; exact List.prefix_refl _, hJ3⟩⟩
 | some r' =>
  have hpr := parts_some hcut
  have hrr := cutS_len r r' hcut
  unfold cutV
  rw [hcut]
  repeat' (first | (refine CI.seq ?_) | (refine L.nil ?_; try change CI _ _ _ _ _ _ _ _) | refine Go2 H ?_ | (refine Gs2 H ?_; clear H; (try clear w); intro w H) | (refine Gn H ?_; clear H; (try clear w); intro _ w H))
  refine CI.regionI (LI.of 2 rfl ?_)
  simp only [List.take_succ_cons, List.take_zero, List.drop_succ_cons, List.drop_zero]
  refine Gq2 H ?_
  change LI _ _ _ _ _ _ _ _ _
  refine LI.yield (args := [.string ⟨(cutS r).1.toArray⟩]) (hY pre (cutS r).1 w hJ2 hlen) ?_
  clear H
  rintro x w2 (⟨rfl, hJ3, _⟩ | ⟨rfl, hJ3⟩)
  ·refine ⟨_, rfl, LI.of 1 rfl ?_⟩
   simp only [List.take_succ_cons, List.take_zero, List.drop_succ_cons, List.drop_zero]
   have H := Holds.start w2
   refine Gq2 H ?_
   refine LI.nil ?_
   repeat' (first | (refine CI.seq ?_) | (refine CI.region ?_) | (refine CI.block ?_) | (refine CI.tru ?_) | (refine CI.fls ?_) | (refine CI.ret ?_) | (refine CI.skip ?_; try change CI _ _ _ _ _ _ _ _) | (refine CI.exit ?_; try change CI _ _ _ _ _ _ _ _) | (refine L.nil ?_; try change CI _ _ _ _ _ _ _ _) | refine Go2 H ?_ | (refine Gs2 H ?_; clear H; (try clear w); intro w H) | (refine Gn H ?_; clear H; (try clear w); intro _ w H))
   exact ⟨agr, r'.length + 1, by omega, pre ++ [(cutS r).1], .inl ⟨r', rfl, by omega, rfl, by rw [hpar, hpr]; simp, hJ3⟩⟩
  ·refine ⟨_, rfl, LI.of 1 rfl ?_⟩
   simp only [List.take_succ_cons, List.take_zero, List.drop_succ_cons, List.drop_zero]
   have H := Holds.start w2
   refine Gq2 H ?_
   refine LI.nil ?_
   repeat' (first | (refine CI.seq ?_) | (refine CI.region ?_) | (refine CI.block ?_) | (refine CI.tru ?_) | (refine CI.fls ?_) | (refine CI.ret ?_) | (refine CI.skip ?_; try change CI _ _ _ _ _ _ _ _) | (refine CI.exit ?_; try change CI _ _ _ _ _ _ _ _) | (refine L.nil ?_; try change CI _ _ _ _ _ _ _ _) | refine Go2 H ?_ | (refine Gs2 H ?_; clear H; (try clear w); intro w H) | (refine Gn H ?_; clear H; (try clear w); intro _ w H))
   exact ⟨_, res0 rfl, ⟨_, rfl⟩, .inr ⟨_, by rw [hpar, hpr]; exact ⟨parts r', by simp⟩, hJ3⟩⟩
theorem isPath_root {p : Str} (h : p = [47]) : isPathM p = true := by rw [isPathM, decide_eq_true h]; rfl
theorem isPath_odd {p : Str} (h1 : p ≠ [47]) (h : ¬ (p ≠ [] ∧ p.length ≤ 72 ∧ p[0]? = some 47)) : isPathM p = false := by rw [isPathM, decide_eq_false h1, decide_eq_false h]; rfl
theorem isPath_names {p : Str} (h1 : p ≠ [47]) (h : p ≠ [] ∧ p.length ≤ 72 ∧ p[0]? = some 47) : isPathM p = (namesM p).all isNameM := by rw [isPathM, decide_eq_false h1, decide_eq_true h]; rfl
theorem isPath_k {w0 : World} (H : Holds (startRo w0) w []) : Calls Tryz.prog 95 #[.string ⟨p.toArray⟩] w fun e w' => e = .returned (.bool (isPathM p)) ∧ Only [] w0 w' := by
 refine enterM (args := [.string ⟨p.toArray⟩]) 10 Tryz.func95 rfl Tryz.ntmps95 rfl ?_
 by_cases hroot : p = [47]
 ·subst hroot
  repeat' (first | refine D.block ?_ | refine LD.lenL ?_ | refine D.ret ?_ | refine D.seq ?_ | refine D.region ?_ | (refine LD.nil ?_; change D _ _ _ _ _ _ _) | (refine D.skip ?_; change D _ _ _ _ _ _ _) | refine D.tru ?_ | refine D.fls ?_ | refine LD.not ?_ | refine LD.len ?_ | refine LD.nchk ?_ | (refine LD.one rfl ?_; repeat' (first | (refine X.eqL (a := [47]) (b := [47]) ?_ ?_ <;> intro hc <;> first | (exfalso; exact hc rfl) | skip) | refine Go2 H ?_ | (refine Gs2 H ?_; clear H; (try clear w); intro w H) | (refine Gn H ?_; clear H; (try clear w); (first | ((fail_if_success (have := bl1)); intro bl1 w H) | intro _ w H))); all_goals (first | refine L.nil ⟨rfl, ?_⟩ | refine ⟨rfl, ?_⟩)))
  exact retM0 (resC1 0 H rfl rfl rfl) ⟨by rw [isPath_root rfl], Holds.fin (Ro.Le.refl _) H⟩
 by_cases hok : p ≠ [] ∧ p.length ≤ 72 ∧ p[0]? = some 47
 rotate_left
 ·have hf := isPath_odd hroot hok
  by_cases h0 : p.length = 0
  ·repeat' (first | refine D.block ?_ | refine LD.lenL ?_ | refine D.ret ?_ | refine D.seq ?_ | refine D.region ?_ | (refine LD.nil ?_; change D _ _ _ _ _ _ _) | (refine D.skip ?_; change D _ _ _ _ _ _ _) | refine D.tru ?_ | refine D.fls ?_ | refine LD.not ?_ | refine LD.len ?_ | refine LD.nchk ?_ | (refine LD.one rfl ?_; repeat' (first |  (refine X.lenL ?_) | (refine X.lv H ?_) | (refine X.lp H ?_) | (refine X.eqL ?_ ?_ <;> intro hc <;> first | (exfalso; first | exact absurd hc (by assumption) | exact absurd (by assumption) hc) | skip) | refine Z H ?_ | (refine Zc ?_ ?_ <;> intro hc <;> first | (exfalso; omega) | skip) | (refine Y ?_; try change C _ _ _ _ _ _) | (refine Zs H ?_; clear H; (try clear w); intro w H) | (refine Zn H ?_; clear H; (try clear w); (first | ((fail_if_success (have := bl1)); intro bl1 w H) | intro _ w H)) | (refine Ze H ?_; clear H; (try clear w); intro gv w H)); all_goals (first | refine L.nil ⟨rfl, ?_⟩ | refine ⟨rfl, ?_⟩)))
   all_goals exact retM0 (resC1 0 H rfl rfl rfl) ⟨by rw [hf], Holds.fin (Ro.Le.refl _) H⟩
  by_cases h72 : 72 < p.length
  ·repeat' (first | refine D.block ?_ | refine LD.lenL ?_ | refine D.ret ?_ | refine D.seq ?_ | refine D.region ?_ | (refine LD.nil ?_; change D _ _ _ _ _ _ _) | (refine D.skip ?_; change D _ _ _ _ _ _ _) | refine D.tru ?_ | refine D.fls ?_ | refine LD.not ?_ | refine LD.len ?_ | refine LD.nchk ?_ | (refine LD.one rfl ?_; repeat' (first |  (refine X.lenL ?_) | (refine X.lv H ?_) | (refine X.lp H ?_) | (refine X.eqL ?_ ?_ <;> intro hc <;> first | (exfalso; first | exact absurd hc (by assumption) | exact absurd (by assumption) hc) | skip) | refine Z H ?_ | (refine Zc ?_ ?_ <;> intro hc <;> first | (exfalso; omega) | skip) | (refine Y ?_; try change C _ _ _ _ _ _) | (refine Zs H ?_; clear H; (try clear w); intro w H) | (refine Zn H ?_; clear H; (try clear w); (first | ((fail_if_success (have := bl1)); intro bl1 w H) | intro _ w H)) | (refine Ze H ?_; clear H; (try clear w); intro gv w H)); all_goals (first | refine L.nil ⟨rfl, ?_⟩ | refine ⟨rfl, ?_⟩)))
   all_goals exact retM0 (resC1 0 H rfl rfl rfl) ⟨by rw [hf], Holds.fin (Ro.Le.refl _) H⟩
  have hl0 : 0 < p.length := by omega
  have hg : p[0]? = some (p[0]?.getD 0) := by rw [List.getElem?_eq_getElem hl0]; rfl
  have hx : (p[0]?.getD 0).toNat ≠ 47 := fun h => hok ⟨fun h => h0 (by rw [h]; rfl), by omega, by rw [hg]; exact congrArg some (UInt8.toNat_inj.1 h)⟩
  repeat' (first | refine D.block ?_ | refine LD.lenL ?_ | refine D.ret ?_ | refine D.seq ?_ | refine D.region ?_ | (refine LD.nil ?_; change D _ _ _ _ _ _ _) | (refine D.skip ?_; change D _ _ _ _ _ _ _) | refine D.tru ?_ | refine D.fls ?_ | refine LD.not ?_ | refine LD.len ?_ | refine LD.nchk ?_ | (refine LD.one rfl ?_; repeat' (first | (refine X.sidx (l := p) 0 ?_) | refine Go2 H ?_ | (refine Gs2 H ?_; clear H; (try clear w); intro w H) | (refine Gn H ?_; clear H; (try clear w); (first | ((fail_if_success (have := bl1)); intro bl1 w H) | intro _ w H))); all_goals (first | refine L.nil ⟨rfl, ?_⟩ | refine ⟨rfl, ?_⟩)))
  exact retM0 (resC1 0 H rfl rfl rfl) ⟨by rw [hf], Holds.fin (Ro.Le.refl _) H⟩
 have hnm := isPath_names hroot hok
 obtain ⟨hne, h72, hp0⟩ := hok
 have hl0 : 0 < p.length := List.length_pos_iff.2 hne
 have hx : (p[0]?.getD 0).toNat = 47 := by rw [hp0]; rfl
 repeat' (first | refine D.block ?_ | refine LD.lenL ?_ | refine D.ret ?_ | refine D.seq ?_ | refine D.region ?_ | (refine LD.nil ?_; change D _ _ _ _ _ _ _) | (refine D.skip ?_; change D _ _ _ _ _ _ _) | refine D.tru ?_ | refine D.fls ?_ | refine LD.not ?_ | refine LD.len ?_ | refine LD.nchk ?_ | (refine LD.one rfl ?_; repeat' (first | (refine X.sidx (l := p) 0 ?_) | refine Go2 H ?_ | (refine Gs2 H ?_; clear H; (try clear w); intro w H) | (refine Gn H ?_; clear H; (try clear w); (first | ((fail_if_success (have := bl1)); intro bl1 w H) | intro _ w H))); all_goals (first | refine L.nil ⟨rfl, ?_⟩ | refine ⟨rfl, ?_⟩)))
 refine LD.call (names_s (p := p) H) ?_
 clear H
 rintro _ w ⟨b, rfl, H⟩
 refine ⟨_, rfl, ?_⟩
 repeat' (first | refine D.block ?_ | refine LD.lenL ?_ | refine D.ret ?_ | refine D.seq ?_ | refine D.region ?_ | (refine LD.nil ?_; change D _ _ _ _ _ _ _) | (refine D.skip ?_; change D _ _ _ _ _ _ _) | refine D.tru ?_ | refine D.fls ?_ | refine LD.not ?_ | refine LD.len ?_ | refine LD.nchk ?_ | (refine LD.one rfl ?_; repeat' (first |  (refine X.lenL ?_) | (refine X.lv H ?_) | (refine X.lp H ?_) | (refine X.eqL ?_ ?_ <;> intro hc <;> first | (exfalso; first | exact absurd hc (by assumption) | exact absurd (by assumption) hc) | skip) | refine Z H ?_ | (refine Zc ?_ ?_ <;> intro hc <;> first | (exfalso; omega) | skip) | (refine Y ?_; try change C _ _ _ _ _ _) | (refine Zs H ?_; clear H; (try clear w); intro w H) | (refine Zn H ?_; clear H; (try clear w); (first | ((fail_if_success (have := bl1)); intro bl1 w H) | intro _ w H)) | (refine Ze H ?_; clear H; (try clear w); intro gv w H)); all_goals (first | refine L.nil ⟨rfl, ?_⟩ | refine ⟨rfl, ?_⟩)))
 have hb := H.var (i := 0) rfl
 have hB := H.var (i := 1) rfl
 have hB0 := H.newB (i := 1) rfl
 have hBs := lt_of_heap hB
 have ho := Holds.fin (Ro.Le.refl _) H
 clear H
 refine D.rangeF (m := 10) (α := Str) (fun x => .string ⟨x.toArray⟩) (gf := 122) (lb := #[.pointer (some ⟨b, 0, none⟩)]) rfl (names1_k (m := 9) hp0 (by omega) hb) (by omega)
  (fun pre W => VarL.at_ [(bl1, 4, [.bool false])] W ∧ pre.all isNameM = true ∧ Only [] w0 W) (fun pre W => VarL.at_ [(bl1, 4, [.bool false])] W ∧ pre.all isNameM = false ∧ Only [] w0 W)
  (own_and (at_own _) (own_and own_pure (only_own ho.size))) (own_and (at_own _) (own_and own_pure (only_own ho.size))) ⟨fun y hy => by rw [List.mem_singleton.1 hy]; exact hB, rfl, ho⟩
  (fun x e => upd (upd e 21 (.string ⟨x.toArray⟩)) 3 (.string ⟨x.toArray⟩)) rfl ?_ ?_ ?_ ?_
 ·intro l x W
  have H := Holds.start W
  repeat' (first | (refine CI.seq ?_) | (refine CI.region ?_) | (refine CI.block ?_) | (refine CI.tru ?_) | (refine CI.fls ?_) | (refine CI.ret ?_) | (refine CI.skip ?_; try change CI _ _ _ _ _ _ _ _) | (refine CI.exit ?_; try change CI _ _ _ _ _ _ _ _) | (refine L.nil ?_; try change CI _ _ _ _ _ _ _ _) | refine Go2 H ?_ | (refine Gs2 H ?_; clear H; (try clear w); intro w H) | (refine Gn H ?_; clear H; (try clear w); (first | ((fail_if_success (have := bl1)); intro bl1 w H) | intro _ w H)))
  exact ⟨rfl, rfl⟩
 ·rintro l pre x W ⟨hV, hall, ho1⟩
  have H : Holds (roBut W [bl1]) W (var bl1 4 [.bool false] :: []) := Holds.but (V := [(bl1, 4, [.bool false])]) (by simp [VarL.blocks]) hV
  have hfin : ∀ w1 : World, Holds (roBut W [bl1]) w1 (var bl1 4 [.bool false] :: []) → KeepsFrom w.heap.size W w1 ∧ VarL.at_ [(bl1, 4, [.bool false])] w1 ∧ Only [] w0 w1 := fun w1 H1 => by
   have hV1 : VarL.at_ [(bl1, 4, [.bool false])] w1 := fun y hy => by rw [List.mem_singleton.1 hy]; exact H1.var (i := 0) rfl
   have ho2 := but_only (V := [(bl1, 4, [.bool false])]) (Ro.Le.refl _) H1 hV rfl hV1
   exact ⟨keeps_of_only ho2 (fun k hk => by rw [List.mem_singleton.1 hk]; exact hBs), hV1, ho1.trans' ho2 (fun k hk => .inr (by rw [List.mem_singleton.1 hk]; exact hB0))⟩
  have hN := isName_s (l := x) H
  by_cases hxn : isNameM x = true
  ·rw [hxn] at hN
   repeat' (first | (refine CI.seq ?_) | (refine CI.region ?_) | (refine CI.block ?_) | (refine CI.tru ?_) | (refine CI.fls ?_) | (refine CI.ret ?_) | (refine CI.skip ?_; try change CI _ _ _ _ _ _ _ _) | (refine CI.exit ?_; try change CI _ _ _ _ _ _ _ _) | (refine L.nil ?_; try change CI _ _ _ _ _ _ _ _) | refine Go2 H ?_ | (refine Gs2 H ?_; clear H; (try clear w); intro w H) | (refine Gn H ?_; clear H; (try clear w); (first | ((fail_if_success (have := bl1)); intro bl1 w H) | intro _ w H)))
   (refine X.call (hN) ?_; (try clear H); rintro _ w ⟨rfl, H⟩; refine ⟨_, rfl, ?_⟩)
   repeat' (first | (refine CI.seq ?_) | (refine CI.region ?_) | (refine CI.block ?_) | (refine CI.tru ?_) | (refine CI.fls ?_) | (refine CI.ret ?_) | (refine CI.skip ?_; try change CI _ _ _ _ _ _ _ _) | (refine CI.exit ?_; try change CI _ _ _ _ _ _ _ _) | (refine L.nil ?_; try change CI _ _ _ _ _ _ _ _) | refine Go2 H ?_ | (refine Gs2 H ?_; clear H; (try clear w); intro w H) | (refine Gn H ?_; clear H; (try clear w); (first | ((fail_if_success (have := bl1)); intro bl1 w H) | intro _ w H)))
   obtain ⟨h1, h2, h3⟩ := hfin _ H
   exact ⟨h1, h2, by simp [hall, hxn], h3⟩
  ·have hxn' : isNameM x = false := by simpa using hxn
   rw [hxn'] at hN
   repeat' (first | (refine CI.seq ?_) | (refine CI.region ?_) | (refine CI.block ?_) | (refine CI.tru ?_) | (refine CI.fls ?_) | (refine CI.ret ?_) | (refine CI.skip ?_; try change CI _ _ _ _ _ _ _ _) | (refine CI.exit ?_; try change CI _ _ _ _ _ _ _ _) | (refine L.nil ?_; try change CI _ _ _ _ _ _ _ _) | refine Go2 H ?_ | (refine Gs2 H ?_; clear H; (try clear w); intro w H) | (refine Gn H ?_; clear H; (try clear w); (first | ((fail_if_success (have := bl1)); intro bl1 w H) | intro _ w H)))
   (refine X.call (hN) ?_; (try clear H); rintro _ w ⟨rfl, H⟩; refine ⟨_, rfl, ?_⟩)
   repeat' (first | (refine CI.seq ?_) | (refine CI.region ?_) | (refine CI.block ?_) | (refine CI.tru ?_) | (refine CI.fls ?_) | (refine CI.ret ?_) | (refine CI.skip ?_; try change CI _ _ _ _ _ _ _ _) | (refine CI.exit ?_; try change CI _ _ _ _ _ _ _ _) | (refine L.nil ?_; try change CI _ _ _ _ _ _ _ _) | refine Go2 H ?_ | (refine Gs2 H ?_; clear H; (try clear w); intro w H) | (refine Gn H ?_; clear H; (try clear w); (first | ((fail_if_success (have := bl1)); intro bl1 w H) | intro _ w H)))
   obtain ⟨h1, h2, h3⟩ := hfin _ H
   exact ⟨h1, h2, by simp [hxn'], h3⟩
 ·rintro dk xs W hD rfl ⟨hV, hall, ho1⟩ hK
  have H : Holds (roBut W [bl1]) W (var bl1 4 [.bool false] :: []) := Holds.but (V := [(bl1, 4, [.bool false])]) (by simp [VarL.blocks]) hV
  have hfin : ∀ w1 : World, Holds (roBut W [bl1]) w1 (var bl1 4 [.bool true] :: []) → w1.heap[dk]? = some (.deferred (some [])) ∧ VarL.at_ [(bl1, 4, [.bool true])] (w1.putObj dk (.deferred none)) ∧ Only [] w0 (w1.putObj dk (.deferred none)) := fun w1 H1 => by
   have hV1 : VarL.at_ [(bl1, 4, [.bool true])] w1 := fun y hy => by rw [List.mem_singleton.1 hy]; exact H1.var (i := 0) rfl
   have ho2 := but_only (V := [(bl1, 4, [.bool false])]) (V' := [(bl1, 4, [.bool true])]) (Ro.Le.refl _) H1 hV rfl hV1
   have ho3 : Only [] w0 w1 := ho1.trans' ho2 (fun k hk => .inr (by rw [List.mem_singleton.1 hk]; exact hB0))
   have hDl : dk ∉ [bl1] := by simp; omega
   refine ⟨but_block (Ro.Le.refl _) H1 hDl hK, fun y hy => ?_, ho3.trans' (only_putObj (b := dk)) (fun k hk => .inr (by rw [List.mem_singleton.1 hk]; have := ho.size; omega))⟩
   rw [World.putObj_heap_other (fun h => hDl (by rw [← h]; rw [List.mem_singleton.1 hy]; simp))]
   exact hV1 y hy
  change D _ _ _ _ _ _ _
  repeat' (first | refine D.block ?_ | refine LD.lenL ?_ | refine D.ret ?_ | refine D.seq ?_ | refine D.region ?_ | (refine LD.nil ?_; change D _ _ _ _ _ _ _) | (refine D.skip ?_; change D _ _ _ _ _ _ _) | refine D.tru ?_ | refine D.fls ?_ | refine LD.not ?_ | refine LD.len ?_ | refine LD.nchk ?_ | (refine LD.one rfl ?_; (refine Gq2 H ?_; clear H; (try clear w); intro w H); all_goals (first | refine L.nil ⟨rfl, ?_⟩ | refine ⟨rfl, ?_⟩)))
  obtain ⟨h1, h2, h3⟩ := hfin _ H
  exact retM1 h1 (resC1 0 (Holds.but (V := [(bl1, 4, [.bool true])]) (by simp [VarL.blocks]) h2) rfl rfl rfl) ⟨by rw [hnm, hall], h3⟩
 ·rintro dk pre W hD hpre ⟨hV, hall, ho1⟩ hK
  have hDl : dk ∉ [bl1] := by simp; omega
  have h2 : VarL.at_ [(bl1, 4, [.bool false])] (W.putObj dk (.deferred none)) := fun y hy => by
   rw [World.putObj_heap_other (fun h => hDl (by rw [← h]; rw [List.mem_singleton.1 hy]; simp))]
   exact hV y hy
  have hall2 : (namesM p).all isNameM = false := by
   obtain ⟨t, ht⟩ := hpre
   rw [← ht, List.all_append, hall, Bool.false_and]
  exact retM1 hK (resC1 0 (Holds.but (V := [(bl1, 4, [.bool false])]) (by simp [VarL.blocks]) h2) rfl rfl rfl) ⟨by rw [hnm, hall2], ho1.trans' (only_putObj (b := dk)) (fun k hk => .inr (by rw [List.mem_singleton.1 hk]; have := ho.size; omega))⟩
theorem isPath_s (H : Holds s w R) : Calls Tryz.prog 95 #[.string ⟨p.toArray⟩] w fun e w' => e = .returned (.bool (isPathM p)) ∧ Holds s w' R :=
 (isPath_k (Holds.start w)).mono fun e w' ⟨he, ho⟩ => ⟨he, H.only0 ho⟩
end
end Go.Proofs.YtgilmcpdpggikaaGreatDoor

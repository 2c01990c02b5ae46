/- package tree, walked: a directory's child, blocks counted and looked for. Nodes and trees: made and compared. package tree, walked: a block that no file has; whether a node fits. -/
import Derived.Test.YtlchnabnhimlcaaTnTy2
import Derived.Test.YtlchnabnhimlcaaTnK4
set_option linter.unusedSimpArgs false
set_option linter.unusedVariables false
namespace Go.Proofs.Ytlchnabnhimlcaa
open Go Go.RowKit Go.Own
theorem TR.nodeL {t : TR} (h : t.Ok) {i : Nat} (hi : i < 8) : ((t.nd.flatMap Nd.cells).drop (i * 6)).take 6 = (t.n i).cells := by
  have := flatS_part (f := Nd.cells) t.nd (fun x _ => Nd.cells_len x) i 0 6 (by rw [h.n8]; exact hi) (by omega)
  rw [Nat.add_zero] at this
  rw [this, ← TR.n_get h hi]
  rfl
section
variable {s : Ro} {w : World} {R : List Asn} {b : Nat} {t : TR}
set_option maxRecDepth 100000 in
set_option maxHeartbeats 1000000 in
theorem child_s {dir : Int} {nm : Str} (H : Holds s w (var b 34 t.cells :: R)) (ht : t.Ok) : Calls Try.prog 48 #[.pointer (some ⟨b, 0, none⟩), .int .i64 dir, .string ⟨nm.toArray⟩] w fun e w' => e = .returned (.int .i64 (childM t dir nm)) ∧ Holds s w' (var b 34 t.cells :: R) := by
  refine enter Try.func48 rfl Try.ntmps48 rfl ?_
  repeat' (first | (refine X.lenL ?_) | (refine X.lv H ?_) | (refine X.lp H ?_) | (refine X.eqL ?_ ?_ <;> intro hc <;> first | (exfalso; first | exact absurd hc (by assumption) | exact absurd (by assumption) hc) | skip) | refine Z H ?_ | (refine Zc ?_ ?_ <;> intro hc <;> first | (exfalso; omega) | skip) | (refine Y ?_; try change C _ _ _ _ _ _) | (refine Zs H ?_; clear H; (try clear w); intro w H) | (refine Zn H ?_; clear H; (try clear w); intro _ w H) | (refine Ze H ?_; clear H; (try clear w); intro gv w H))
  refine C.loopH H [6, 7, 8, 9, 10, 11, 12, 13, 14, 15, 16, 17, 18, 19, 20, 21, 22, 23, 24, 25, 26, 27, 28, 29, 30, 31, 32, 33, 34] [7] rfl (fun m vs => ∃ i : Nat, m = 8 - i ∧ 1 ≤ i ∧ i ≤ 8 ∧ vs = [.int .i64 (i : Int)] ∧ childFrom t dir nm (8 - i) i = childM t dir nm) 7 ⟨1, rfl, by omega, by omega, rfl, rfl⟩ ?_
  clear H
  rintro m vs hv w ⟨i, rfl, hi1, hi, rfl, hr⟩ H
  by_cases hlt : i < 8
  rotate_left
  · obtain rfl : i = 8 := by omega
    repeat' (first | (refine X.lenL ?_) | (refine X.lv H ?_) | (refine X.lp H ?_) | (refine X.eqL ?_ ?_ <;> intro hc <;> first | (exfalso; first | exact absurd hc (by assumption) | exact absurd (by assumption) hc) | skip) | refine Z H ?_ | (refine Zc ?_ ?_ <;> intro hc <;> first | (exfalso; omega) | skip) | (refine Y ?_; try change C _ _ _ _ _ _) | (refine Zs H ?_; clear H; (try clear w); intro w H) | (refine Zn H ?_; clear H; (try clear w); intro _ w H) | (refine Ze H ?_; clear H; (try clear w); intro gv w H))
    exact ⟨_, resT rfl, by rw [← hr]; rfl, H⟩
  have hn := TR.node ht hlt
  rw [show 8 - i = (7 - i) + 1 by omega, childFrom] at hr
  by_cases hk : (t.n i).kind ≠ 0 ∧ (t.n i).parent = dir ∧ (t.n i).name = nm
  · rw [if_pos hk] at hr
    obtain ⟨k1, k2, k3⟩ := hk
    repeat' (first | (refine K.iaA (i := i) rfl rfl rfl rfl (by omega) hlt ?_) | (refine X.lenL ?_) | (refine X.lv H ?_) | (refine X.lp H ?_) | (refine X.eqL ?_ ?_ <;> intro hc <;> first | (exfalso; first | exact absurd hc (by assumption) | exact absurd (by assumption) hc) | skip) | refine Z H ?_ | (refine Zc ?_ ?_ <;> intro hc <;> first | (exfalso; omega) | skip) | (refine Y ?_; try change C _ _ _ _ _ _) | (refine Zs H ?_; clear H; (try clear w); intro w H) | (refine Zn H ?_; clear H; (try clear w); intro _ w H) | (refine Ze H ?_; clear H; (try clear w); intro gv w H))
    exact ⟨_, resT rfl, by rw [← hr]; rfl, H.tail⟩
  · rw [if_neg hk] at hr
    by_cases k1 : (t.n i).kind ≠ 0 ∧ (t.n i).parent = dir
    · obtain ⟨k1, k2⟩ := k1
      have k3 : ¬ (t.n i).name = nm := fun h => hk ⟨k1, k2, h⟩
      repeat' (first | (refine K.iaA (i := i) rfl rfl rfl rfl (by omega) hlt ?_) | (refine X.lenL ?_) | (refine X.lv H ?_) | (refine X.lp H ?_) | (refine X.eqL ?_ ?_ <;> intro hc <;> first | (exfalso; first | exact absurd hc (by assumption) | exact absurd (by assumption) hc) | skip) | refine Z H ?_ | (refine Zc ?_ ?_ <;> intro hc <;> first | (exfalso; omega) | skip) | (refine Y ?_; try change C _ _ _ _ _ _) | (refine Zs H ?_; clear H; (try clear w); intro w H) | (refine Zn H ?_; clear H; (try clear w); intro _ w H) | (refine Ze H ?_; clear H; (try clear w); intro gv w H))
      exact ⟨by (repeat (first | exact Agr.refl | exact Agr.hav | refine Agr.upd rfl ?_ | refine Agr.in rfl ?_)), 8 - (i + 1), by omega, ⟨i + 1, rfl, by omega, by omega, rfl, by rw [← hr]; congr 1; omega⟩, H.tail⟩
    · repeat' (first | (refine K.iaA (i := i) rfl rfl rfl rfl (by omega) hlt ?_) | (refine X.lenL ?_) | (refine X.lv H ?_) | (refine X.lp H ?_) | (refine X.eqL ?_ ?_ <;> intro hc <;> first | (exfalso; first | exact absurd hc (by assumption) | exact absurd (by assumption) hc) | skip) | refine Z H ?_ | (refine Zc ?_ ?_ <;> intro hc <;> first | (exfalso; omega) | skip) | (refine Y ?_; try change C _ _ _ _ _ _) | (refine Zs H ?_; clear H; (try clear w); intro w H) | (refine Zn H ?_; clear H; (try clear w); intro _ w H) | (refine Ze H ?_; clear H; (try clear w); intro gv w H))
      all_goals first
        | (exfalso; exact k1 ⟨by assumption, by assumption⟩)
        | exact ⟨by (repeat (first | exact Agr.refl | exact Agr.hav | refine Agr.upd rfl ?_ | refine Agr.in rfl ?_)), 8 - (i + 1), by omega, ⟨i + 1, rfl, by omega, by omega, rfl, by rw [← hr]; congr 1; omega⟩, H.tail⟩
set_option maxRecDepth 100000 in
set_option maxHeartbeats 1000000 in
theorem used_s (H : Holds s w (var b 34 t.cells :: R)) (ht : t.Ok) : Calls Try.prog 40 #[.pointer (some ⟨b, 0, none⟩)] w fun e w' => e = .returned (.int .i64 (usedN t : Int)) ∧ Holds s w' (var b 34 t.cells :: R) := by
  refine enter Try.func40 rfl Try.ntmps40 rfl ?_
  have hnd := TR.nodes ht
  have hl48 := TR.nd_len ht
  repeat' (first | (refine X.lenL ?_) | (refine X.lv H ?_) | (refine X.lp H ?_) | (refine X.eqL ?_ ?_ <;> intro hc <;> first | (exfalso; first | exact absurd hc (by assumption) | exact absurd (by assumption) hc) | skip) | refine Z H ?_ | (refine Zc ?_ ?_ <;> intro hc <;> first | (exfalso; omega) | skip) | (refine Y ?_; try change C _ _ _ _ _ _) | (refine Zs H ?_; clear H; (try clear w); intro w H) | (refine Zn H ?_; clear H; (try clear w); intro _ w H) | (refine Ze H ?_; clear H; (try clear w); intro gv w H))
  refine C.loopH H [3, 5, 7, 12, 13, 14, 15, 16, 17, 18, 19, 20, 21, 22, 23, 24, 25] [3, 12] rfl (fun m vs => ∃ i c : Nat, m = 8 - i ∧ i ≤ 8 ∧ vs = [.int .i64 (c : Int), .int .i64 (i : Int)] ∧ c = ((t.nd.take i).map Nd.nblk).sum ∧ c ≤ 2 * i) 8 ⟨0, 0, rfl, by omega, rfl, by simp, by omega⟩ ?_
  clear H
  rintro m vs hv w ⟨i, c, rfl, hi, rfl, hc0, hcb⟩ H
  by_cases hlt : i < 8
  rotate_left
  · obtain rfl : i = 8 := by omega
    repeat' (first | (refine X.lenL ?_) | (refine X.lv H ?_) | (refine X.lp H ?_) | (refine X.eqL ?_ ?_ <;> intro hc <;> first | (exfalso; first | exact absurd hc (by assumption) | exact absurd (by assumption) hc) | skip) | refine Z H ?_ | (refine Zc ?_ ?_ <;> intro hc <;> first | (exfalso; omega) | skip) | (refine Y ?_; try change C _ _ _ _ _ _) | (refine Zs H ?_; clear H; (try clear w); intro w H) | (refine Zn H ?_; clear H; (try clear w); intro _ w H) | (refine Ze H ?_; clear H; (try clear w); intro gv w H))
    exact ⟨_, resT rfl, by rw [usedN, hc0, List.take_of_length_le (by rw [ht.n8]; omega)]; rfl, H⟩
  have hn := TR.nodeL ht hlt
  repeat' (first | (refine X.ixP i ?_ hn hlt) | (refine X.ldp [.int .i64 (t.n i).b0, .int .i64 (t.n i).b1] H ?_) | (refine X.lenL ?_) | (refine X.lv H ?_) | (refine X.lp H ?_) | (refine X.eqL ?_ ?_ <;> intro hc <;> first | (exfalso; first | exact absurd hc (by assumption) | exact absurd (by assumption) hc) | skip) | refine Z H ?_ | (refine Zc ?_ ?_ <;> intro hc <;> first | (exfalso; omega) | skip) | (refine Y ?_; try change C _ _ _ _ _ _) | (refine Zs H ?_; clear H; (try clear w); intro w H) | (refine Zn H ?_; clear H; (try clear w); intro _ w H) | (refine Ze H ?_; clear H; (try clear w); intro gv w H))
  have hst : ((t.nd.take (i + 1)).map Nd.nblk).sum = c + (t.n i).nblk := by
    rw [List.take_succ_eq_append_getElem (by rw [ht.n8]; exact hlt), ← TR.n_get ht hlt, List.map_append, List.sum_append, ← hc0]
    simp
  have hnb : (t.n i).nblk ≤ 2 := by unfold Nd.nblk; split <;> split <;> omega
  refine C.loopH H [3, 7, 17, 18, 19, 20, 21, 22, 23, 24] [3, 17] rfl (fun m vs => ∃ j c' : Nat, m = 2 - j ∧ j ≤ 2 ∧ vs = [.int .i64 (c' : Int), .int .i64 (j : Int)] ∧ c' ≤ c + j ∧ c' = c + (if 0 < j ∧ (t.n i).b0 ≠ 0 then 1 else 0) + (if 1 < j ∧ (t.n i).b1 ≠ 0 then 1 else 0)) 2 ⟨0, c, rfl, by omega, rfl, by omega, by simp⟩ ?_
  clear H
  rintro m vs hv1 w ⟨j, c', rfl, hj, rfl, hcl, hc'⟩ H
  rcases (show j = 0 ∨ j = 1 ∨ j = 2 by omega) with rfl | rfl | rfl
  · rw [if_neg (by omega), if_neg (by omega)] at hc'
    by_cases hb : (t.n i).b0 = 0
    · repeat' (first | (refine X.ix1 (v := .int .i64 (t.n i).b0) 0 ?_ rfl (by decide)) | (refine X.lenL ?_) | (refine X.lv H ?_) | (refine X.lp H ?_) | (refine X.eqL ?_ ?_ <;> intro hc <;> first | (exfalso; first | exact absurd hc (by assumption) | exact absurd (by assumption) hc) | skip) | refine Z H ?_ | (refine Zc ?_ ?_ <;> intro hc <;> first | (exfalso; omega) | skip) | (refine Y ?_; try change C _ _ _ _ _ _) | (refine Zs H ?_; clear H; (try clear w); intro w H) | (refine Zn H ?_; clear H; (try clear w); intro _ w H) | (refine Ze H ?_; clear H; (try clear w); intro gv w H))
      exact ⟨by (repeat (first | exact Agr.refl | exact Agr.hav | refine Agr.upd rfl ?_ | refine Agr.in rfl ?_)), 1, by omega, ⟨1, c', rfl, by omega, rfl, by omega, by rw [if_neg (by omega), if_neg (by omega)]; exact hc'⟩, H⟩
    · repeat' (first | (refine X.ix1 (v := .int .i64 (t.n i).b0) 0 ?_ rfl (by decide)) | (refine X.lenL ?_) | (refine X.lv H ?_) | (refine X.lp H ?_) | (refine X.eqL ?_ ?_ <;> intro hc <;> first | (exfalso; first | exact absurd hc (by assumption) | exact absurd (by assumption) hc) | skip) | refine Z H ?_ | (refine Zc ?_ ?_ <;> intro hc <;> first | (exfalso; omega) | skip) | (refine Y ?_; try change C _ _ _ _ _ _) | (refine Zs H ?_; clear H; (try clear w); intro w H) | (refine Zn H ?_; clear H; (try clear w); intro _ w H) | (refine Ze H ?_; clear H; (try clear w); intro gv w H))
      exact ⟨by (repeat (first | exact Agr.refl | exact Agr.hav | refine Agr.upd rfl ?_ | refine Agr.in rfl ?_)), 1, by omega, ⟨1, c' + 1, rfl, by omega, rfl, by omega, by rw [if_pos ⟨by omega, hb⟩, if_neg (by omega)]; omega⟩, H⟩
  · rw [if_neg (show ¬ (1 < 1 ∧ (t.n i).b1 ≠ 0) by omega)] at hc'
    by_cases hb : (t.n i).b1 = 0
    · repeat' (first | (refine X.ix1 (v := .int .i64 (t.n i).b1) 1 ?_ rfl (by decide)) | (refine X.lenL ?_) | (refine X.lv H ?_) | (refine X.lp H ?_) | (refine X.eqL ?_ ?_ <;> intro hc <;> first | (exfalso; first | exact absurd hc (by assumption) | exact absurd (by assumption) hc) | skip) | refine Z H ?_ | (refine Zc ?_ ?_ <;> intro hc <;> first | (exfalso; omega) | skip) | (refine Y ?_; try change C _ _ _ _ _ _) | (refine Zs H ?_; clear H; (try clear w); intro w H) | (refine Zn H ?_; clear H; (try clear w); intro _ w H) | (refine Ze H ?_; clear H; (try clear w); intro gv w H))
      exact ⟨by (repeat (first | exact Agr.refl | exact Agr.hav | refine Agr.upd rfl ?_ | refine Agr.in rfl ?_)), 0, by omega, ⟨2, c', rfl, by omega, rfl, by omega, by rw [if_neg (show ¬ (1 < 2 ∧ (t.n i).b1 ≠ 0) by omega), hc']; split <;> split <;> omega⟩, H⟩
    · repeat' (first | (refine X.ix1 (v := .int .i64 (t.n i).b1) 1 ?_ rfl (by decide)) | (refine X.lenL ?_) | (refine X.lv H ?_) | (refine X.lp H ?_) | (refine X.eqL ?_ ?_ <;> intro hc <;> first | (exfalso; first | exact absurd hc (by assumption) | exact absurd (by assumption) hc) | skip) | refine Z H ?_ | (refine Zc ?_ ?_ <;> intro hc <;> first | (exfalso; omega) | skip) | (refine Y ?_; try change C _ _ _ _ _ _) | (refine Zs H ?_; clear H; (try clear w); intro w H) | (refine Zn H ?_; clear H; (try clear w); intro _ w H) | (refine Ze H ?_; clear H; (try clear w); intro gv w H))
      exact ⟨by (repeat (first | exact Agr.refl | exact Agr.hav | refine Agr.upd rfl ?_ | refine Agr.in rfl ?_)), 0, by omega, ⟨2, c' + 1, rfl, by omega, rfl, by omega, by rw [if_pos (show (1 < 2 ∧ (t.n i).b1 ≠ 0) from ⟨by omega, hb⟩)]; split at hc' <;> split <;> omega⟩, H⟩
  · repeat' (first | (refine X.lenL ?_) | (refine X.lv H ?_) | (refine X.lp H ?_) | (refine X.eqL ?_ ?_ <;> intro hc <;> first | (exfalso; first | exact absurd hc (by assumption) | exact absurd (by assumption) hc) | skip) | refine Z H ?_ | (refine Zc ?_ ?_ <;> intro hc <;> first | (exfalso; omega) | skip) | (refine Y ?_; try change C _ _ _ _ _ _) | (refine Zs H ?_; clear H; (try clear w); intro w H) | (refine Zn H ?_; clear H; (try clear w); intro _ w H) | (refine Ze H ?_; clear H; (try clear w); intro gv w H))
    exact ⟨by (repeat (first | exact Agr.refl | exact Agr.hav | refine Agr.upd rfl ?_ | refine Agr.in rfl ?_)), 8 - (i + 1), by omega, ⟨i + 1, c', rfl, by omega, rfl, by rw [hst, hc', Nd.nblk]; split <;> split <;> split <;> split <;> omega, by rw [hc']; split <;> split <;> omega⟩, H.tail⟩
end
end Go.Proofs.Ytlchnabnhimlcaa
set_option linter.unusedSimpArgs false
set_option linter.unusedVariables false
namespace Go.Proofs.Ytlchnabnhimlcaa
open Go Go.RowKit Go.Own
theorem build_blk0 (w : World) : (Instr.build 27 ([] : List (Nat × Value)).toArray).run Try.prog w = .ok (.agg ([.int .i64 0, .int .i64 0] : List Value).toArray) w := by kernel_rfl
theorem build_node0 (w : World) : (Instr.build 29 ([] : List (Nat × Value)).toArray).run Try.prog w = .ok (.agg Nd.zero.cells.toArray) w := by kernel_rfl
theorem build_root (w : World) : (Instr.build 29 ([(0, .int .i64 1)] : List (Nat × Value)).toArray).run Try.prog w = .ok (.agg Nd.root.cells.toArray) w := by kernel_rfl
theorem build_node (k p : Int) (nm : Str) (w : World) : (Instr.build 29 ([(0, .int .i64 k), (1, .int .i64 p), (2, .string ⟨nm.toArray⟩)] : List (Nat × Value)).toArray).run Try.prog w = .ok (.agg (Nd.cells ⟨k, p, nm, 0, 0, 0⟩).toArray) w := by kernel_rfl
theorem build_tree0 (w : World) : (Instr.build 34 ([] : List (Nat × Value)).toArray).run Try.prog w = .ok (.agg TR.zero.cells.toArray) w := by kernel_rfl
theorem build_block0 (w : World) : (Instr.build 31 ([] : List (Nat × Value)).toArray).run Try.prog w = .ok (.agg (u8s (List.replicate 40 0)).toArray) w := by kernel_rfl
theorem build_place (d : Int) (nm : Str) (w : World) : (Instr.build 89 ([(0, .int .i64 d), (1, .string ⟨nm.toArray⟩)] : List (Nat × Value)).toArray).run Try.prog w = .ok (.agg ([.int .i64 d, .string ⟨nm.toArray⟩] : List Value).toArray) w := by kernel_rfl
theorem eq_blk (d : Nat) (a b a' b' : Int) : EqA Try.prog (d + 2) 27 [.int .i64 a, .int .i64 b] [.int .i64 a', .int .i64 b'] (a = a' ∧ b = b') :=
  (EqA.arr (b := fun i => if i = 0 then a = a' else b = b') Try.underlying27 (c := 1) (by kernel_rfl) (fun i hi => by
    rcases (show i = 0 ∨ i = 1 by omega) with rfl | rfl
    · exact EqP.int Try.underlying3 rfl rfl
    · exact EqP.int Try.underlying3 rfl rfl)).iff ⟨fun h => ⟨h 0 (by omega), h 1 (by omega)⟩, fun h i hi => by
      rcases (show i = 0 ∨ i = 1 by omega) with rfl | rfl
      · exact h.1
      · exact h.2⟩
theorem eq_node (d : Nat) (x y : Nd) : EqA Try.prog (d + 3) 29 x.cells y.cells (x = y) :=
  (EqA.struct (b := fun f => match f.offset with
      | 0 => x.kind = y.kind
      | 1 => x.parent = y.parent
      | 2 => x.name = y.name
      | 3 => x.size = y.size
      | _ => x.b0 = y.b0 ∧ x.b1 = y.b1) Try.underlying29 (by kernel_rfl) (fun f hf => by
    simp only [List.mem_cons, List.not_mem_nil, or_false] at hf
    rcases hf with rfl | rfl | rfl | rfl | rfl
    · exact ⟨by decide, EqP.int Try.underlying3 rfl rfl⟩
    · exact ⟨by decide, EqP.int Try.underlying3 rfl rfl⟩
    · exact ⟨by decide, EqP.str Try.underlying9 rfl rfl⟩
    · exact ⟨by decide, EqP.int Try.underlying3 rfl rfl⟩
    · exact ⟨by decide, EqA.at_ (n := 2) (eq_blk d _ _ _ _)⟩)).iff (by
    obtain ⟨k, p, nm, s, b0, b1⟩ := x
    obtain ⟨k', p', nm', s', b0', b1'⟩ := y
    simp only [List.mem_cons, List.not_mem_nil, or_false, forall_eq_or_imp, forall_eq, Nd.mk.injEq])
theorem guard_node : Try.prog.eqGuardType Try.prog.depth 29 = false := by kernel_rfl
theorem guard_blk : Try.prog.eqGuardType Try.prog.depth 27 = false := by kernel_rfl
end Go.Proofs.Ytlchnabnhimlcaa
set_option linter.unusedSimpArgs false
set_option linter.unusedVariables false
namespace Go.Proofs.Ytlchnabnhimlcaa
open Go Go.RowKit Go.Own
section
variable {s : Ro} {w : World} {R : List Asn} {b : Nat} {t : TR}
set_option maxRecDepth 100000 in
set_option maxHeartbeats 1000000 in
theorem unused_s (H : Holds s w (var b 34 t.cells :: R)) (ht : t.Ok) : Calls Try.prog 60 #[.pointer (some ⟨b, 0, none⟩)] w fun e w' => e = .returned (.int .i64 (unusedM t : Int)) ∧ Holds s w' (var b 34 t.cells :: R) := by
  refine enter Try.func60 rfl Try.ntmps60 rfl ?_
  have hnd := TR.nodes ht
  have hl48 := TR.nd_len ht
  repeat' (first | (refine C.scope ?_) | (refine C.label ?_; try change C _ _ _ _ _ _) | (refine X.lenL ?_) | (refine X.lv H ?_) | (refine X.lp H ?_) | (refine X.eqL ?_ ?_ <;> intro hc <;> first | (exfalso; first | exact absurd hc (by assumption) | exact absurd (by assumption) hc) | skip) | refine Z H ?_ | (refine Zc ?_ ?_ <;> intro hc <;> first | (exfalso; omega) | skip) | (refine Y ?_; try change C _ _ _ _ _ _) | (refine Zs H ?_; clear H; (try clear w); intro w H) | (refine Zn H ?_; clear H; (try clear w); intro _ w H) | (refine Ze H ?_; clear H; (try clear w); intro gv w H))
  refine C.loopH H [2, 3, 5, 6, 7, 8, 9, 10, 11, 12, 13, 14, 15, 16, 17, 18, 19, 20, 21, 22, 23, 24, 25, 26, 27, 28, 29, 30] [3] rfl (fun m vs => ∃ i : Nat, m = 9 - i ∧ 1 ≤ i ∧ i ≤ 9 ∧ vs = [.int .i64 (i : Int)] ∧ unusedFrom t (9 - i) i = unusedM t) 8 ⟨1, rfl, by omega, by omega, rfl, rfl⟩ ?_
  clear H
  rintro m vs hv w ⟨i, rfl, hi1, hi, rfl, hr⟩ H
  by_cases hlt : i < 9
  rotate_left
  · obtain rfl : i = 9 := by omega
    repeat' (first | (refine X.lenL ?_) | (refine X.lv H ?_) | (refine X.lp H ?_) | (refine X.eqL ?_ ?_ <;> intro hc <;> first | (exfalso; first | exact absurd hc (by assumption) | exact absurd (by assumption) hc) | skip) | refine Z H ?_ | (refine Zc ?_ ?_ <;> intro hc <;> first | (exfalso; omega) | skip) | (refine Y ?_; try change C _ _ _ _ _ _) | (refine Zs H ?_; clear H; (try clear w); intro w H) | (refine Zn H ?_; clear H; (try clear w); intro _ w H) | (refine Ze H ?_; clear H; (try clear w); intro gv w H))
    exact ⟨_, resT rfl, by rw [← hr]; rfl, H⟩
  rw [show 9 - i = (8 - i) + 1 by omega, unusedFrom] at hr
  repeat' (first | (refine X.lenL ?_) | (refine X.lv H ?_) | (refine X.lp H ?_) | (refine X.eqL ?_ ?_ <;> intro hc <;> first | (exfalso; first | exact absurd hc (by assumption) | exact absurd (by assumption) hc) | skip) | refine Z H ?_ | (refine Zc ?_ ?_ <;> intro hc <;> first | (exfalso; omega) | skip) | (refine Y ?_; try change C _ _ _ _ _ _) | (refine Zs H ?_; clear H; (try clear w); intro w H) | (refine Zn H ?_; clear H; (try clear w); intro _ w H) | (refine Ze H ?_; clear H; (try clear w); intro gv w H))
  refine C.loopH H [5, 14, 15, 16, 17, 18, 19, 20, 21, 22, 23, 24, 25, 26, 27, 28, 29] [14] rfl (fun m vs => ∃ j : Nat, m = 8 - j ∧ j ≤ 8 ∧ vs = [.int .i64 (j : Int)] ∧ (t.nd.take j).any (fun n => decide (n.b0 = (i : Int) ∨ n.b1 = (i : Int))) = false) 8 ⟨0, rfl, by omega, rfl, by simp⟩ ?_
  clear H
  rintro m vs hv1 w ⟨j, rfl, hj, rfl, ha⟩ H
  by_cases hjl : j < 8
  rotate_left
  · obtain rfl : j = 8 := by omega
    rw [List.take_of_length_le (by rw [ht.n8]; omega)] at ha
    rw [if_neg (by rw [hasB, ha]; simp)] at hr
    repeat' (first | (refine X.lenL ?_) | (refine X.lv H ?_) | (refine X.lp H ?_) | (refine X.eqL ?_ ?_ <;> intro hc <;> first | (exfalso; first | exact absurd hc (by assumption) | exact absurd (by assumption) hc) | skip) | refine Z H ?_ | (refine Zc ?_ ?_ <;> intro hc <;> first | (exfalso; omega) | skip) | (refine Y ?_; try change C _ _ _ _ _ _) | (refine Zs H ?_; clear H; (try clear w); intro w H) | (refine Zn H ?_; clear H; (try clear w); intro _ w H) | (refine Ze H ?_; clear H; (try clear w); intro gv w H))
    exact ⟨_, resT rfl, by rw [← hr]; rfl, H⟩
  have hn := TR.nodeL ht hjl
  have hmem : t.n j ∈ t.nd := by rw [TR.n_get ht hjl]; exact List.getElem_mem _
  have htk : (t.nd.take (j + 1)).any (fun n => decide (n.b0 = (i : Int) ∨ n.b1 = (i : Int))) = decide ((t.n j).b0 = (i : Int) ∨ (t.n j).b1 = (i : Int)) := by
    rw [List.take_succ_eq_append_getElem (by rw [ht.n8]; exact hjl), ← TR.n_get ht hjl, List.any_append, ha]
    simp
  by_cases hb : (t.n j).b0 = (i : Int) ∨ (t.n j).b1 = (i : Int)
  · rw [if_pos (by rw [hasB, List.any_eq_true]; exact ⟨_, hmem, by simpa using hb⟩)] at hr
    repeat' (first | (refine X.ixP j ?_ hn hjl) | (refine K.iaA (i := 0) rfl rfl rfl rfl rfl (by decide) ?_) | (refine K.iaA (i := 1) rfl rfl rfl rfl rfl (by decide) ?_) | (refine X.lenL ?_) | (refine X.lv H ?_) | (refine X.lp H ?_) | (refine X.eqL ?_ ?_ <;> intro hc <;> first | (exfalso; first | exact absurd hc (by assumption) | exact absurd (by assumption) hc) | skip) | refine Z H ?_ | (refine Zc ?_ ?_ <;> intro hc <;> first | (exfalso; omega) | skip) | (refine Y ?_; try change C _ _ _ _ _ _) | (refine Zs H ?_; clear H; (try clear w); intro w H) | (refine Zn H ?_; clear H; (try clear w); intro _ w H) | (refine Ze H ?_; clear H; (try clear w); intro gv w H))
    all_goals exact ⟨by (repeat (first | exact Agr.refl | exact Agr.hav | refine Agr.upd rfl ?_ | refine Agr.in rfl ?_)), 9 - (i + 1), by omega, ⟨i + 1, rfl, by omega, by omega, rfl, by rw [← hr]; congr 1; omega⟩, H.tail⟩
  · repeat' (first | (refine X.ixP j ?_ hn hjl) | (refine K.iaA (i := 0) rfl rfl rfl rfl rfl (by decide) ?_) | (refine K.iaA (i := 1) rfl rfl rfl rfl rfl (by decide) ?_) | (refine X.lenL ?_) | (refine X.lv H ?_) | (refine X.lp H ?_) | (refine X.eqL ?_ ?_ <;> intro hc <;> first | (exfalso; first | exact absurd hc (by assumption) | exact absurd (by assumption) hc) | skip) | refine Z H ?_ | (refine Zc ?_ ?_ <;> intro hc <;> first | (exfalso; omega) | skip) | (refine Y ?_; try change C _ _ _ _ _ _) | (refine Zs H ?_; clear H; (try clear w); intro w H) | (refine Zn H ?_; clear H; (try clear w); intro _ w H) | (refine Ze H ?_; clear H; (try clear w); intro gv w H))
    exact ⟨by (repeat (first | exact Agr.refl | exact Agr.hav | refine Agr.upd rfl ?_ | refine Agr.in rfl ?_)), 8 - (j + 1), by omega, ⟨j + 1, rfl, by omega, rfl, by rw [htk]; simpa using hb⟩, H.tail⟩
set_option maxRecDepth 100000 in
set_option maxHeartbeats 1000000 in
theorem nodeFits_s {i : Nat} (H : Holds s w (var b 34 t.cells :: R)) (ht : t.Ok) (hi : i < 8) : Calls Try.prog 37 #[.pointer (some ⟨b, 0, none⟩), .int .i64 (i : Int)] w fun e w' => e = .returned (.bool (decide (Fits t i))) ∧ Holds s w' (var b 34 t.cells :: R) := by
  refine enter Try.func37 rfl Try.ntmps37 rfl ?_
  have hn := TR.node ht hi
  repeat' (first | (refine K.iaA (i := i) rfl rfl rfl rfl (by omega) hi ?_) | (refine X.lenL ?_) | (refine X.lv H ?_) | (refine X.lp H ?_) | (refine X.eqL ?_ ?_ <;> intro hc <;> first | (exfalso; first | exact absurd hc (by assumption) | exact absurd (by assumption) hc) | skip) | ((fail_if_success (with_reducible show C _ _ _ (Code.seq (Code.seq (Code.region 2 _ _) _) _) _ _)); refine Z H ?_) | (refine Zc ?_ ?_ <;> intro hc <;> first | (exfalso; omega) | skip) | (refine Y ?_; try change C _ _ _ _ _ _) | (refine Zs H ?_; clear H; (try clear w); intro w H) | (refine Zn H ?_; clear H; (try clear w); (first | ((fail_if_success (have := bl1)); intro bl1 w H) | intro _ w H)) | (refine Ze H ?_; clear H; (try clear w); intro gv w H))
  refine C.cut [4, 14, 15, 16, 17, 18, 19, 20, 21, 22, 23, 24, 25, 26, 27, 28, 29, 30, 31, 32] [] rfl (fun vs w => 0 ≤ (t.n i).parent ∧ (t.n i).parent < 8 ∧ (t.n (t.n i).parent.toNat).kind = 1 ∧ Holds s w (var bl1 29 (t.n i).cells :: var b 34 t.cells :: R)) ?_ ?_
  · by_cases hp : 0 ≤ (t.n i).parent ∧ (t.n i).parent < 8
    · obtain ⟨hp0, hp8⟩ := hp
      obtain ⟨p, hpp⟩ : ∃ p : Nat, (t.n i).parent = p := ⟨(t.n i).parent.toNat, by omega⟩
      have hkp := TR.cell0 ht (i := p) (by omega)
      have hpt : (t.n i).parent.toNat = p := by omega
      by_cases hk : (t.n p).kind = 1
      · repeat' (first | refine Z H ?_ | (refine Zc ?_ ?_ <;> intro hc <;> first | (exfalso; omega) | skip) | (refine Y ?_; try change C _ _ _ _ _ _) | (refine Zs H ?_; clear H; (try clear w); intro w H) | (refine Zn H ?_; clear H; (try clear w); (first | ((fail_if_success (have := bl1)); intro bl1 w H) | intro _ w H)) | (refine Ze H ?_; clear H; (try clear w); intro gv w H))
        refine C.drawn1 [0, 1, 0, 0, 0, 1, 0, 0, 0, 0, 0, 1, 0, 0, 0, 0, 1, 0, 0] [0, 1, 3, 7, 15, 31, 63, 127, 255, 511, 511, 1535, 1023, 5119, 16383, 32767, 65535, 131071, 262143] (by kernel_rfl) ?_; replace H := H.drew
        repeat' (first | (refine K.iaA (i := p) rfl rfl rfl rfl hpp (by omega) ?_) | (refine X.lenL ?_) | (refine X.lv H ?_) | (refine X.lp H ?_) | (refine X.eqL ?_ ?_ <;> intro hc <;> first | (exfalso; first | exact absurd hc (by assumption) | exact absurd (by assumption) hc) | skip) | refine Z H ?_ | (refine Zc ?_ ?_ <;> intro hc <;> first | (exfalso; omega) | skip) | (refine Y ?_; try change C _ _ _ _ _ _) | (refine Zs H ?_; clear H; (try clear w); intro w H) | (refine Zn H ?_; clear H; (try clear w); (first | ((fail_if_success (have := bl1)); intro bl1 w H) | intro _ w H)) | (refine Ze H ?_; clear H; (try clear w); intro gv w H))
        exact ⟨by (repeat (first | exact Agr.refl | exact Agr.hav | refine Agr.upd rfl ?_ | refine Agr.in rfl ?_)), hp0, hp8, by rw [hpt]; exact hk, H⟩
      · repeat' (first | refine Z H ?_ | (refine Zc ?_ ?_ <;> intro hc <;> first | (exfalso; omega) | skip) | (refine Y ?_; try change C _ _ _ _ _ _) | (refine Zs H ?_; clear H; (try clear w); intro w H) | (refine Zn H ?_; clear H; (try clear w); (first | ((fail_if_success (have := bl1)); intro bl1 w H) | intro _ w H)) | (refine Ze H ?_; clear H; (try clear w); intro gv w H))
        refine C.drawn1 [0, 1, 0, 0, 0, 1, 0, 0, 0, 0, 0, 1, 0, 0, 0, 0, 1, 0, 0] [0, 1, 3, 7, 15, 31, 63, 127, 255, 511, 511, 1535, 1023, 5119, 16383, 32767, 65535, 131071, 262143] (by kernel_rfl) ?_; replace H := H.drew
        repeat' (first | (refine K.iaA (i := p) rfl rfl rfl rfl hpp (by omega) ?_) | (refine X.lenL ?_) | (refine X.lv H ?_) | (refine X.lp H ?_) | (refine X.eqL ?_ ?_ <;> intro hc <;> first | (exfalso; first | exact absurd hc (by assumption) | exact absurd (by assumption) hc) | skip) | refine Z H ?_ | (refine Zc ?_ ?_ <;> intro hc <;> first | (exfalso; omega) | skip) | (refine Y ?_; try change C _ _ _ _ _ _) | (refine Zs H ?_; clear H; (try clear w); intro w H) | (refine Zn H ?_; clear H; (try clear w); (first | ((fail_if_success (have := bl1)); intro bl1 w H) | intro _ w H)) | (refine Ze H ?_; clear H; (try clear w); intro gv w H))
        exact ⟨_, resT rfl, by rw [decide_eq_false (fun h => hk (by have := h.2.2.1; rwa [hpt] at this))]; rfl, H.tail⟩
    · repeat' (first | refine Z H ?_ | (refine Zc ?_ ?_ <;> intro hc <;> first | (exfalso; omega) | skip) | (refine Y ?_; try change C _ _ _ _ _ _) | (refine Zs H ?_; clear H; (try clear w); intro w H) | (refine Zn H ?_; clear H; (try clear w); (first | ((fail_if_success (have := bl1)); intro bl1 w H) | intro _ w H)) | (refine Ze H ?_; clear H; (try clear w); intro gv w H))
      refine C.drawn1 [0, 1, 0, 0, 0, 1, 0, 0, 0, 0, 0, 1, 0, 0, 0, 0, 1, 0, 0] [0, 1, 3, 7, 15, 31, 63, 127, 255, 511, 511, 1535, 1023, 5119, 16383, 32767, 65535, 131071, 262143] (by kernel_rfl) ?_; replace H := H.drew
      repeat' (first | (refine X.lenL ?_) | (refine X.lv H ?_) | (refine X.lp H ?_) | (refine X.eqL ?_ ?_ <;> intro hc <;> first | (exfalso; first | exact absurd hc (by assumption) | exact absurd (by assumption) hc) | skip) | refine Z H ?_ | (refine Zc ?_ ?_ <;> intro hc <;> first | (exfalso; omega) | skip) | (refine Y ?_; try change C _ _ _ _ _ _) | (refine Zs H ?_; clear H; (try clear w); intro w H) | (refine Zn H ?_; clear H; (try clear w); (first | ((fail_if_success (have := bl1)); intro bl1 w H) | intro _ w H)) | (refine Ze H ?_; clear H; (try clear w); intro gv w H))
      all_goals exact ⟨_, resT rfl, by rw [decide_eq_false (fun h => hp ⟨h.1, h.2.1⟩)]; rfl, H.tail⟩
  clear H
  rintro vs hv w ⟨hp0, hp8, hk, H⟩
  by_cases hnm : isNameM (t.n i).name = true
  rotate_left
  · have hnf : isNameM (t.n i).name = false := by simpa using hnm
    repeat' (first | (refine X.lenL ?_) | (refine X.lv H ?_) | (refine X.lp H ?_) | (refine X.eqL ?_ ?_ <;> intro hc <;> first | (exfalso; first | exact absurd hc (by assumption) | exact absurd (by assumption) hc) | skip) | refine Z H ?_ | (refine Zc ?_ ?_ <;> intro hc <;> first | (exfalso; omega) | skip) | (refine Y ?_; try change C _ _ _ _ _ _) | (refine Zs H ?_; clear H; (try clear w); intro w H) | (refine Zn H ?_; clear H; (try clear w); (first | ((fail_if_success (have := bl1)); intro bl1 w H) | intro _ w H)) | (refine Ze H ?_; clear H; (try clear w); intro gv w H))
    have hN := isName_s (l := (t.n i).name) H
    rw [hnf] at hN
    (refine X.call (hN) ?_; (try clear H); rintro _ w ⟨rfl, H⟩; refine ⟨_, rfl, ?_⟩)
    clear hN
    repeat' (first | (refine X.lenL ?_) | (refine X.lv H ?_) | (refine X.lp H ?_) | (refine X.eqL ?_ ?_ <;> intro hc <;> first | (exfalso; first | exact absurd hc (by assumption) | exact absurd (by assumption) hc) | skip) | refine Z H ?_ | (refine Zc ?_ ?_ <;> intro hc <;> first | (exfalso; omega) | skip) | (refine Y ?_; try change C _ _ _ _ _ _) | (refine Zs H ?_; clear H; (try clear w); intro w H) | (refine Zn H ?_; clear H; (try clear w); (first | ((fail_if_success (have := bl1)); intro bl1 w H) | intro _ w H)) | (refine Ze H ?_; clear H; (try clear w); intro gv w H))
    exact ⟨_, resT rfl, by rw [decide_eq_false (fun h => hnm h.2.2.2.1)]; rfl, H.tail⟩
  repeat' (first | (refine X.lenL ?_) | (refine X.lv H ?_) | (refine X.lp H ?_) | (refine X.eqL ?_ ?_ <;> intro hc <;> first | (exfalso; first | exact absurd hc (by assumption) | exact absurd (by assumption) hc) | skip) | refine Z H ?_ | (refine Zc ?_ ?_ <;> intro hc <;> first | (exfalso; omega) | skip) | (refine Y ?_; try change C _ _ _ _ _ _) | (refine Zs H ?_; clear H; (try clear w); intro w H) | (refine Zn H ?_; clear H; (try clear w); (first | ((fail_if_success (have := bl1)); intro bl1 w H) | intro _ w H)) | (refine Ze H ?_; clear H; (try clear w); intro gv w H))
  have hN := isName_s (l := (t.n i).name) H
  rw [hnm] at hN
  (refine X.call (hN) ?_; (try clear H); rintro _ w ⟨rfl, H⟩; refine ⟨_, rfl, ?_⟩)
  clear hN
  repeat' (first | (refine X.lenL ?_) | (refine X.lv H ?_) | (refine X.lp H ?_) | (refine X.eqL ?_ ?_ <;> intro hc <;> first | (exfalso; first | exact absurd hc (by assumption) | exact absurd (by assumption) hc) | skip) | refine Z H ?_ | (refine Zc ?_ ?_ <;> intro hc <;> first | (exfalso; omega) | skip) | (refine Y ?_; try change C _ _ _ _ _ _) | (refine Zs H ?_; clear H; (try clear w); intro w H) | (refine Zn H ?_; clear H; (try clear w); (first | ((fail_if_success (have := bl1)); intro bl1 w H) | intro _ w H)) | (refine Ze H ?_; clear H; (try clear w); intro gv w H))
  have H1 := H.up 1 rfl
  clear H
  have H : Holds s _ (var b 34 t.cells :: var bl1 29 (t.n i).cells :: R) := H1
  clear H1
  have hR := rooted_s (i := i) H ht hi
  by_cases hr : rootedM t i = true
  rotate_left
  · rw [show rootedM t i = false by simpa using hr] at hR
    (refine X.call (hR) ?_; (try clear H); rintro _ w ⟨rfl, H⟩; refine ⟨_, rfl, ?_⟩)
    clear hR
    repeat' (first | (refine X.lenL ?_) | (refine X.lv H ?_) | (refine X.lp H ?_) | (refine X.eqL ?_ ?_ <;> intro hc <;> first | (exfalso; first | exact absurd hc (by assumption) | exact absurd (by assumption) hc) | skip) | refine Z H ?_ | (refine Zc ?_ ?_ <;> intro hc <;> first | (exfalso; omega) | skip) | (refine Y ?_; try change C _ _ _ _ _ _) | (refine Zs H ?_; clear H; (try clear w); intro w H) | (refine Zn H ?_; clear H; (try clear w); (first | ((fail_if_success (have := bl1)); intro bl1 w H) | intro _ w H)) | (refine Ze H ?_; clear H; (try clear w); intro gv w H))
    exact ⟨_, resT rfl, by rw [decide_eq_false (fun h => hr h.2.2.2.2.1)]; rfl, (H.up 1 rfl).tail⟩
  rw [hr] at hR
  (refine X.call (hR) ?_; (try clear H); rintro _ w ⟨rfl, H⟩; refine ⟨_, rfl, ?_⟩)
  clear hR
  have H1 := H.up 1 rfl
  clear H
  have H : Holds s _ (var bl1 29 (t.n i).cells :: var b 34 t.cells :: R) := H1
  clear H1
  have hff : ∀ {x : Bool}, decide (Shaped (t.n i)) = x → decide (Fits t i) = x := fun h => by
    rw [← h]
    exact decide_eq_decide.2 ⟨fun h => h.2.2.2.2.2, fun h => ⟨hp0, hp8, hk, hnm, hr, h⟩⟩
  have hB : ∀ {x : Bool}, decide (Shaped (t.n i)) = x → decide (Fits t i) = x := hff
  clear hff
  by_cases h1 : (t.n i).kind = 1
  · by_cases h2 : (t.n i).size = 0
    · by_cases h3 : (t.n i).b0 = 0 ∧ (t.n i).b1 = 0
      · repeat' (first | (refine X.ldp [.int .i64 (t.n i).b0, .int .i64 (t.n i).b1] H ?_) | (refine K.build [] _ build_blk0 rfl rfl rfl ?_) | (refine X.eqA (eq_blk 9998 (t.n i).b0 (t.n i).b1 0 0) guard_blk ?_) | (refine X.lenL ?_) | (refine X.lv H ?_) | (refine X.lp H ?_) | (refine X.eqL ?_ ?_ <;> intro hc <;> first | (exfalso; first | exact absurd hc (by assumption) | exact absurd (by assumption) hc) | skip) | refine Z H ?_ | (refine Zc ?_ ?_ <;> intro hc <;> first | (exfalso; omega) | skip) | (refine Y ?_; try change C _ _ _ _ _ _) | (refine Zs H ?_; clear H; (try clear w); intro w H) | (refine Zn H ?_; clear H; (try clear w); (first | ((fail_if_success (have := bl1)); intro bl1 w H) | intro _ w H)) | (refine Ze H ?_; clear H; (try clear w); intro gv w H))
        exact ⟨_, resT rfl, by rw [hB (decide_eq_true (.inl ⟨h1, h2, h3⟩))]; show Ending.returned (Value.bool (decide _)) = _; rw [decide_eq_true h3], H.tail⟩
      · repeat' (first | (refine X.ldp [.int .i64 (t.n i).b0, .int .i64 (t.n i).b1] H ?_) | (refine K.build [] _ build_blk0 rfl rfl rfl ?_) | (refine X.eqA (eq_blk 9998 (t.n i).b0 (t.n i).b1 0 0) guard_blk ?_) | (refine X.lenL ?_) | (refine X.lv H ?_) | (refine X.lp H ?_) | (refine X.eqL ?_ ?_ <;> intro hc <;> first | (exfalso; first | exact absurd hc (by assumption) | exact absurd (by assumption) hc) | skip) | refine Z H ?_ | (refine Zc ?_ ?_ <;> intro hc <;> first | (exfalso; omega) | skip) | (refine Y ?_; try change C _ _ _ _ _ _) | (refine Zs H ?_; clear H; (try clear w); intro w H) | (refine Zn H ?_; clear H; (try clear w); (first | ((fail_if_success (have := bl1)); intro bl1 w H) | intro _ w H)) | (refine Ze H ?_; clear H; (try clear w); intro gv w H))
        exact ⟨_, resT rfl, by rw [hB (decide_eq_false (by rintro (⟨_, _, h⟩ | ⟨h, _⟩) <;> omega))]; show Ending.returned (Value.bool (decide _)) = _; rw [decide_eq_false h3], H.tail⟩
    · repeat' (first | (refine X.lenL ?_) | (refine X.lv H ?_) | (refine X.lp H ?_) | (refine X.eqL ?_ ?_ <;> intro hc <;> first | (exfalso; first | exact absurd hc (by assumption) | exact absurd (by assumption) hc) | skip) | refine Z H ?_ | (refine Zc ?_ ?_ <;> intro hc <;> first | (exfalso; omega) | skip) | (refine Y ?_; try change C _ _ _ _ _ _) | (refine Zs H ?_; clear H; (try clear w); intro w H) | (refine Zn H ?_; clear H; (try clear w); (first | ((fail_if_success (have := bl1)); intro bl1 w H) | intro _ w H)) | (refine Ze H ?_; clear H; (try clear w); intro gv w H))
      exact ⟨_, resT rfl, by rw [hB (decide_eq_false (by rintro (⟨_, h, _⟩ | ⟨h, _⟩) <;> omega))]; rfl, H.tail⟩
  by_cases h2 : (t.n i).kind = 2
  rotate_left
  · repeat' (first | (refine X.lenL ?_) | (refine X.lv H ?_) | (refine X.lp H ?_) | (refine X.eqL ?_ ?_ <;> intro hc <;> first | (exfalso; first | exact absurd hc (by assumption) | exact absurd (by assumption) hc) | skip) | refine Z H ?_ | (refine Zc ?_ ?_ <;> intro hc <;> first | (exfalso; omega) | skip) | (refine Y ?_; try change C _ _ _ _ _ _) | (refine Zs H ?_; clear H; (try clear w); intro w H) | (refine Zn H ?_; clear H; (try clear w); (first | ((fail_if_success (have := bl1)); intro bl1 w H) | intro _ w H)) | (refine Ze H ?_; clear H; (try clear w); intro gv w H))
    exact ⟨_, resT rfl, by rw [hB (decide_eq_false (by rintro (⟨h, _⟩ | ⟨h, _⟩) <;> omega))]; rfl, H.tail⟩
  by_cases h3 : 0 ≤ (t.n i).size ∧ (t.n i).size ≤ 80
  rotate_left
  · repeat' (first | (refine X.lenL ?_) | (refine X.lv H ?_) | (refine X.lp H ?_) | (refine X.eqL ?_ ?_ <;> intro hc <;> first | (exfalso; first | exact absurd hc (by assumption) | exact absurd (by assumption) hc) | skip) | refine Z H ?_ | (refine Zc ?_ ?_ <;> intro hc <;> first | (exfalso; omega) | skip) | (refine Y ?_; try change C _ _ _ _ _ _) | (refine Zs H ?_; clear H; (try clear w); intro w H) | (refine Zn H ?_; clear H; (try clear w); (first | ((fail_if_success (have := bl1)); intro bl1 w H) | intro _ w H)) | (refine Ze H ?_; clear H; (try clear w); intro gv w H))
    all_goals exact ⟨_, resT rfl, by rw [hB (decide_eq_false (by rintro (⟨h, _⟩ | ⟨_, h, h', _⟩) <;> omega))]; rfl, H.tail⟩
  obtain ⟨h3, h4⟩ := h3
  repeat' (first | (refine X.ldp [.int .i64 (t.n i).b0, .int .i64 (t.n i).b1] H ?_) | (refine X.lenL ?_) | (refine X.lv H ?_) | (refine X.lp H ?_) | (refine X.eqL ?_ ?_ <;> intro hc <;> first | (exfalso; first | exact absurd hc (by assumption) | exact absurd (by assumption) hc) | skip) | refine Z H ?_ | (refine Zc ?_ ?_ <;> intro hc <;> first | (exfalso; omega) | skip) | (refine Y ?_; try change C _ _ _ _ _ _) | (refine Zs H ?_; clear H; (try clear w); intro w H) | (refine Zn H ?_; clear H; (try clear w); (first | ((fail_if_success (have := bl1)); intro bl1 w H) | intro _ w H)) | (refine Ze H ?_; clear H; (try clear w); intro gv w H))
  refine C.loopH H [4, 6, 7, 68, 69, 70, 71, 72, 73, 74, 75, 76, 77, 78, 79, 80, 81, 82, 83, 84, 85] [68] rfl (fun m vs => ∃ j : Nat, m = 2 - j ∧ j ≤ 2 ∧ vs = [.int .i64 (j : Int)] ∧ (0 < j → ((t.n i).size ≤ 0 → (t.n i).b0 = 0) ∧ (0 < (t.n i).size → 1 ≤ (t.n i).b0 ∧ (t.n i).b0 ≤ 8)) ∧ (1 < j → ((t.n i).size ≤ 40 → (t.n i).b1 = 0) ∧ (40 < (t.n i).size → 1 ≤ (t.n i).b1 ∧ (t.n i).b1 ≤ 8))) 2 ⟨0, rfl, by omega, rfl, fun h => by omega, fun h => by omega⟩ ?_
  clear H
  rintro m vs hv1 w ⟨j, rfl, hj, rfl, q0, q1⟩ H
  rcases (show j = 0 ∨ j = 1 ∨ j = 2 by omega) with rfl | rfl | rfl
  · by_cases hq : ((t.n i).size ≤ 0 → (t.n i).b0 = 0) ∧ (0 < (t.n i).size → 1 ≤ (t.n i).b0 ∧ (t.n i).b0 ≤ 8)
    · repeat' (first | (refine X.ix1 (v := .int .i64 (t.n i).b0) 0 ?_ rfl (by decide)) | (refine J.mul ?_) | (refine X.lenL ?_) | (refine X.lv H ?_) | (refine X.lp H ?_) | (refine X.eqL ?_ ?_ <;> intro hc <;> first | (exfalso; first | exact absurd hc (by assumption) | exact absurd (by assumption) hc) | skip) | refine Z H ?_ | (refine Zc ?_ ?_ <;> intro hc <;> first | (exfalso; omega) | skip) | (refine Y ?_; try change C _ _ _ _ _ _) | (refine Zs H ?_; clear H; (try clear w); intro w H) | (refine Zn H ?_; clear H; (try clear w); (first | ((fail_if_success (have := bl1)); intro bl1 w H) | intro _ w H)) | (refine Ze H ?_; clear H; (try clear w); intro gv w H))
      all_goals exact ⟨by (repeat (first | exact Agr.refl | exact Agr.hav | refine Agr.upd rfl ?_ | refine Agr.in rfl ?_)), 1, by omega, ⟨1, rfl, by omega, rfl, fun _ => hq, fun h => by omega⟩, H⟩
    · repeat' (first | (refine X.ix1 (v := .int .i64 (t.n i).b0) 0 ?_ rfl (by decide)) | (refine J.mul ?_) | (refine X.lenL ?_) | (refine X.lv H ?_) | (refine X.lp H ?_) | (refine X.eqL ?_ ?_ <;> intro hc <;> first | (exfalso; first | exact absurd hc (by assumption) | exact absurd (by assumption) hc) | skip) | refine Z H ?_ | (refine Zc ?_ ?_ <;> intro hc <;> first | (exfalso; omega) | skip) | (refine Y ?_; try change C _ _ _ _ _ _) | (refine Zs H ?_; clear H; (try clear w); intro w H) | (refine Zn H ?_; clear H; (try clear w); (first | ((fail_if_success (have := bl1)); intro bl1 w H) | intro _ w H)) | (refine Ze H ?_; clear H; (try clear w); intro gv w H))
      all_goals first
        | (exfalso; exact hq ⟨fun _ => by omega, fun _ => by omega⟩)
        | exact ⟨_, resT rfl, by rw [hB (decide_eq_false (by rintro (⟨h, _⟩ | ⟨_, _, _, a, b, _⟩) <;> first | omega | exact hq ⟨a, b⟩))]; rfl, H.tail⟩
  · by_cases hq : ((t.n i).size ≤ 40 → (t.n i).b1 = 0) ∧ (40 < (t.n i).size → 1 ≤ (t.n i).b1 ∧ (t.n i).b1 ≤ 8)
    · repeat' (first | (refine X.ix1 (v := .int .i64 (t.n i).b1) 1 ?_ rfl (by decide)) | (refine J.mul ?_) | (refine X.lenL ?_) | (refine X.lv H ?_) | (refine X.lp H ?_) | (refine X.eqL ?_ ?_ <;> intro hc <;> first | (exfalso; first | exact absurd hc (by assumption) | exact absurd (by assumption) hc) | skip) | refine Z H ?_ | (refine Zc ?_ ?_ <;> intro hc <;> first | (exfalso; omega) | skip) | (refine Y ?_; try change C _ _ _ _ _ _) | (refine Zs H ?_; clear H; (try clear w); intro w H) | (refine Zn H ?_; clear H; (try clear w); (first | ((fail_if_success (have := bl1)); intro bl1 w H) | intro _ w H)) | (refine Ze H ?_; clear H; (try clear w); intro gv w H))
      all_goals exact ⟨by (repeat (first | exact Agr.refl | exact Agr.hav | refine Agr.upd rfl ?_ | refine Agr.in rfl ?_)), 0, by omega, ⟨2, rfl, by omega, rfl, fun _ => q0 (by omega), fun _ => hq⟩, H⟩
    · repeat' (first | (refine X.ix1 (v := .int .i64 (t.n i).b1) 1 ?_ rfl (by decide)) | (refine J.mul ?_) | (refine X.lenL ?_) | (refine X.lv H ?_) | (refine X.lp H ?_) | (refine X.eqL ?_ ?_ <;> intro hc <;> first | (exfalso; first | exact absurd hc (by assumption) | exact absurd (by assumption) hc) | skip) | refine Z H ?_ | (refine Zc ?_ ?_ <;> intro hc <;> first | (exfalso; omega) | skip) | (refine Y ?_; try change C _ _ _ _ _ _) | (refine Zs H ?_; clear H; (try clear w); intro w H) | (refine Zn H ?_; clear H; (try clear w); (first | ((fail_if_success (have := bl1)); intro bl1 w H) | intro _ w H)) | (refine Ze H ?_; clear H; (try clear w); intro gv w H))
      all_goals first
        | (exfalso; exact hq ⟨fun _ => by omega, fun _ => by omega⟩)
        | exact ⟨_, resT rfl, by rw [hB (decide_eq_false (by rintro (⟨h, _⟩ | ⟨_, _, _, _, _, a, b⟩) <;> first | omega | exact hq ⟨a, b⟩))]; rfl, H.tail⟩
  · obtain ⟨a0, a1⟩ := q0 (by omega)
    obtain ⟨b0, b1⟩ := q1 (by omega)
    repeat' (first | (refine X.lenL ?_) | (refine X.lv H ?_) | (refine X.lp H ?_) | (refine X.eqL ?_ ?_ <;> intro hc <;> first | (exfalso; first | exact absurd hc (by assumption) | exact absurd (by assumption) hc) | skip) | refine Z H ?_ | (refine Zc ?_ ?_ <;> intro hc <;> first | (exfalso; omega) | skip) | (refine Y ?_; try change C _ _ _ _ _ _) | (refine Zs H ?_; clear H; (try clear w); intro w H) | (refine Zn H ?_; clear H; (try clear w); (first | ((fail_if_success (have := bl1)); intro bl1 w H) | intro _ w H)) | (refine Ze H ?_; clear H; (try clear w); intro gv w H))
    exact ⟨_, resT rfl, by rw [hB (decide_eq_true (.inr ⟨h2, h3, h4, a0, a1, b0, b1⟩))]; rfl, H.tail⟩
end
end Go.Proofs.Ytlchnabnhimlcaa

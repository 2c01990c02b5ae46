/- Contracts of the disk's functions: Arm, Power, New, Image. -/
import Derived.Test.YteoopnhogfjeaaaDiskF
set_option linter.unusedSimpArgs false
set_option linter.unusedVariables false
namespace Go.Proofs.Yteoopnhogfjeaaa
open Go Go.RowKit Go.Own

theorem e_clone_bool : ElT Try.prog 35 4 1 1 (.bool false) := elT Try.underlying35 (by kernel_rfl) rfl (by decide)
set_option maxHeartbeats 400000 in
theorem clone_bool (v : Value) (n : Nat) (xs : List Value) (w : World) (h : Sl w v 1 n xs) (h1 : ∀ u ∈ xs, u.oneCell' = true) (hb : n * 1 ≤ 140737488355328) :
    Calls Try.prog 55 #[v] w fun e w' => ∃ v', e = .returned v' ∧ w'.ownsRow w.heap.size 4 1 v' n xs ∧ Only [] w w' := by
  obtain ⟨a, c, rfl, hl, hc, hm, hcells⟩ := h
  have hq := fun (w : World) (a : Option Addr) (n c : Nat) => Lib.run_eql_slice_nil (P := Try.prog) w 35 4 a n c 0 0 Try.underlying35
  cases a with
  | none =>
    have hn : xs = [] := by
      cases xs with
      | nil => rfl
      | cons x r => obtain ⟨_, he, _⟩ := hcells 0 x rfl; cases he
    subst hn
    have hn0 : n = 0 := by simp at hl; omega
    subst hn0
    go_enter Try.func55, Try.ntmps55
    go_wp2
    go_ret
    exact ⟨_, rfl, World.ownsRow_nil _ _ _ _, Only.refl _ _⟩
  | some ad =>
    have hsl : Sl (w.alloc (.cells #[] 4)) (.slice (some ad) n c) 1 n xs := Sl.only (S := []) ⟨_, c, rfl, hl, hc, hm, hcells⟩ (only_alloc _ _ _) (by simp)
    have hown : (w.alloc (.cells #[] 4)).ownsRow 0 4 1 (.slice (some ⟨w.heap.size, 0, none⟩) 0 0) 0 [] := World.ownsRow_made w #[] 0 (Nat.zero_le _) (by decide) (by simp)
    have HSL := Lib.hid hsl
    have HOWN := Lib.hid hown
    have hm' : n ≤ maxLen := Nat.le_trans hc hm
    clear hsl hown hcells hl
    go_enter Try.func55, Try.ntmps55
    go_wp2_with ((with_reducible show wpList _ _ _ (⟨_, .call ⟨.builtin .append, _, _⟩, _, _, _, _⟩ :: _) _ _); refine append_row (s := .tmp 5) (x := .tmp 6) (v := .slice (some ⟨w.heap.size, 0, none⟩) 0 0) (xv := .slice (some ad) n c) e_clone_bool rfl rfl rfl HOWN.out rfl HSL.out h1 (by omega) (by omega) ?_; intro v' w' hq1 hq2 hq3; have HQ1 := Lib.hid hq1; have HQ2 := Lib.hid hq2; have HQ3 := Lib.hid hq3; clear hq1 hq2 hq3)
    go_ret
    refine ⟨v', rfl, ?_, ?_⟩
    · have h1 := HQ1.out
      rw [Nat.zero_add, List.nil_append] at h1
      exact own_base h1 (fun k hk => by
        rcases HQ3.out k hk with h | h
        · cases h; exact Nat.le_refl _
        · simp at h; omega)
    · exact (only_alloc [] _ _).trans' HQ2.out (fun x hx => .inr (by simp [Value.ownBlock] at hx; omega))

theorem bools_one (l : List Bool) : ∀ u ∈ l.map Value.bool, u.oneCell' = true := by
  intro u hu; obtain ⟨b, _, rfl⟩ := List.mem_map.1 hu; rfl

theorem foot_nil_v {b bs : Nat} {vp vs : Value} (h : (dfoot b bs vp vs).Nodup) : (dfoot b bs vp (.slice none 0 0)).Nodup :=
  h.sublist (((List.Sublist.append_left (List.nil_sublist _) vp.ownBlock.toList).cons_cons bs).cons_cons b)
theorem foot_set_v {b bs : Nat} {vp vs : Value} (h : (dfoot b bs vp vs).Nodup) {v : Value} (hv : ∀ g, v.ownBlock = some g → g ≠ b ∧ g ≠ bs ∧ vp.ownBlock ≠ some g) : (dfoot b bs vp v).Nodup := by
  have h' : (b :: bs :: (vp.ownBlock.toList ++ [])).Nodup := foot_nil_v h
  cases hq : v.ownBlock with
  | none => simp only [dfoot, hq]; exact h'
  | some g =>
    obtain ⟨h1, h2, h3⟩ := hv g hq
    simp only [dfoot, hq]
    cases hp : vp.ownBlock with
    | none => rw [hp] at h'; simp at h' ⊢; exact ⟨⟨h', Ne.symm h1⟩, Ne.symm h2⟩
    | some k =>
      have h3' : g ≠ k := fun e => h3 (by rw [hp, e])
      rw [hp] at h'; simp at h' ⊢
      exact ⟨⟨h'.1.1, h'.1.2, Ne.symm h1⟩, ⟨h'.2, Ne.symm h2⟩, Ne.symm h3'⟩

/-- the disk behind disarm -/
theorem disarm_to {b : Nat} {d : DM} {bs : Nat} {vp vs : Value} {w : World} (hw : d.Wf) (hr : DiskRaw w b d bs vp vs) (hn : (dfoot b bs vp vs).Nodup) :
    DiskRaw (w.setRow b #[.slice (some ⟨bs, 0, none⟩) d.secs.length d.secs.length, vp, .bool d.off, .bool false, .int .i64 0, .slice none 0 0]) b d.disarm bs vp (.slice none 0 0) := by
  have hn' := hn
  simp only [dfoot, List.nodup_cons, List.mem_cons, List.mem_append, Option.mem_toList, not_or] at hn'
  refine ⟨?_, ?_, own_setRow hr.2.2.1 _ hn'.1.2.1, World.ownsRow_nil _ _ _ _⟩
  · rw [setRow_heap _ _ _ _ _ _ hr.1]; rfl
  · rw [setRow_other _ _ _ _ (fun e => hn'.1.1 e.symm)]; exact hr.2.1

set_option maxHeartbeats 400000 in
theorem Arm_at (b : Nat) (d : DM) (F : List Nat) (n : Int) (vsv : Value) (sv : List Bool) (w : World) (h : DiskAt w b d F) (hst : Stable w F vsv 1 sv.length (sv.map Value.bool))
    (hn : n ≤ 9223372036854775807) (hsv : sv.length ≤ 140737488355328) :
    Calls Try.prog 19 #[.pointer (some ⟨b, 0, none⟩), .int .i64 n, vsv] w fun e w' => e = .returned (.tuple #[]) ∧ DiskTo w w' b (d.arm n sv) F := by
  have hwf' := h.1.arm n sv hn
  have c2 := h.c2
  have hd := h
  have HST := Lib.hid hst
  clear hst
  cases hoff : d.off with
  | true =>
    have he : d.arm n sv = d := by simp [DM.arm, hoff]
    rw [he]
    rw [hoff] at c2
    clear hoff he hwf'
    go_enter Try.func19, Try.ntmps19
    go_wp2
    exact bodyPost_ret (v := .tuple #[]) (by simp [results, Try.results19]) rfl ⟨rfl, F, hd, fun k hk => .inl hk, Only.refl _ _⟩
  | false =>
    obtain ⟨hw, bs, vp, vs, hr, rfl, hnd⟩ := h
    have hraw1 := disarm_to hw hr hnd
    have hn' := hnd
    simp only [dfoot, List.nodup_cons, List.mem_cons, List.mem_append, Option.mem_toList, not_or] at hn'
    rw [hoff] at c2
    generalize hW : w.setRow b #[.slice (some ⟨bs, 0, none⟩) d.secs.length d.secs.length, vp, .bool d.off, .bool false, .int .i64 0, .slice none 0 0] = W at hraw1
    have oW : Only (dfoot b bs vp vs) w W := by rw [← hW]; exact only_setRow _ _ _ (by simp [dfoot])
    have hdis := disarm_any b _ _ _ _ _ _ _ w hr.1
    rw [hW] at hdis
    have HD := Lib.hid hdis
    clear hdis hW
    by_cases hneg : n < 0
    · have he : d.arm n sv = d.disarm := by simp [DM.arm, hoff, hneg]
      rw [he] at hwf' ⊢
      clear hoff he
      go_enter Try.func19, Try.ntmps19
      go_wp2_with (go_at_call 54; refine HD.out.mono ?_; rintro e w' ⟨rfl, rfl⟩)
      exact bodyPost_ret (v := .tuple #[]) (by simp [results, Try.results19]) rfl ⟨rfl, dfoot b bs vp (.slice none 0 0), ⟨hwf', bs, vp, _, hraw1, rfl, foot_nil_v hnd⟩, fun k hk => .inl (by
        simp only [dfoot, List.mem_cons, List.mem_append] at hk ⊢
        rcases hk with h | h | h | h
        · exact .inl h
        · exact .inr (.inl h)
        · exact .inr (.inr (.inl h))
        · simp [Value.ownBlock] at h), oW⟩
    · have he : d.arm n sv = { d with armed := true, left := n, surv := sv } := by simp [DM.arm, hoff, hneg]
      have hb := hraw1.1
      rw [he] at hwf' ⊢
      have k3 : W.cell? ⟨b, 3, none⟩ = some (.bool false) := by simp [World.cell?, hb, DM.disarm]
      have k4 : W.cell? ⟨b, 4, none⟩ = some (.int .i64 0) := by simp [World.cell?, hb, DM.disarm]
      have k5 : W.cell? ⟨b, 5, none⟩ = some (.slice none 0 0) := by simp [World.cell?, hb]
      have kf : ∀ o, W.frozen? ⟨b, o, none⟩ = false := by simp [World.frozen?, hb]
      have h3 := heap_setCell_same _ b 3 _ _ (.bool true) hb
      have h4 := heap_setCell_same _ b 4 _ _ (.int .i64 n) h3
      generalize hX : (W.setCell ⟨b, 3, none⟩ (.bool true)).setCell ⟨b, 4, none⟩ (.int .i64 n) = X at h4
      have oX : Only [b] W X := by rw [← hX]; exact (only_setCell _ _ _ (by simp)).trans (only_setCell _ _ _ (by simp))
      have hslX : Sl X vsv 1 sv.length (sv.map Value.bool)   := HST.out X (oW.trans (oX.mono (fun x hx => .inl (by simp at hx; simp [dfoot, hx]))))
      have hclone := clone_bool vsv sv.length _ X hslX (bools_one sv) (by omega)
      rw [← hX] at hclone
      have HC := Lib.hid hclone
      have HX := Lib.hid hX
      clear hoff he hclone hX
      go_enter Try.func19, Try.ntmps19
      go_wp2_with (first
        | (go_at_call 54; refine HD.out.mono ?_; rintro e w' ⟨rfl, rfl⟩)
        | (go_at_call 55; refine HC.out.mono ?_; rw [HX.out]; rintro e w' ⟨v', rfl, hq1, hq2⟩; have hkb := hq2.heap h4 (by simp); have hkc : w'.cell? ⟨b, 5, none⟩ = some (.slice none 0 0) := (by simp [World.cell?, hkb]); have hkf : w'.frozen? ⟨b, 5, none⟩ = false := (by simp [World.frozen?, hkb]); obtain ⟨va, vc, rfl, _⟩ := own_sl hq1; have HQ1 := Lib.hid hq1; have HKB := Lib.hid hkb; clear hq1 hkb))
      go_end0
      have hq1 := HQ1.out
      have lX : ∀ g, (Value.slice va sv.length vc).ownBlock = some g → X.heap.size ≤ g := fun g hg => (hq1.lt g hg).1
      have szs : w.heap.size ≤ X.heap.size := Nat.le_trans oW.size oX.size
      have o2 : Only (dfoot b bs vp vs) w (w'.setCell ⟨b, 5, none⟩ (.slice va sv.length vc)) :=
        oW.trans ((oX.mono (fun x hx => .inl (by simp at hx; simp [dfoot, hx]))).trans ((hq2.mono (by simp)).trans (only_setCell _ _ _ (by simp [dfoot]))))
      refine ⟨rfl, dfoot b bs vp (.slice va sv.length vc), ⟨hwf', bs, vp, _, ⟨?_, ?_, ?_, ?_⟩, rfl, foot_set_v hnd (fun g hg => ?_)⟩, ?_, o2⟩
      · rw [heap_setCell_same _ _ _ _ _ _ HKB.out]; rfl
      · rw [heap_setCell_other _ _ _ _ (fun e => hn'.1.1 e.symm)]
        exact hq2.heap (oX.heap hraw1.2.1 (by simpa using fun e => hn'.1.1 e.symm)) (by simp)
      · refine own_setCell (own_only (own_only hraw1.2.2.1 oX (fun j hj hm => ?_)) hq2 (by simp)) _ hn'.1.2.1
        simp at hm; subst hm; exact hn'.1.2.1 hj
      · refine own_base (own_setCell hq1 _ (fun e => ?_)) (fun _ _ => Nat.zero_le _)
        have := lX _ e
        have := lt_of_heap h4
        simp at *; omega
      · have := lX g hg
        have l1 := lt_of_heap hr.1
        have l2 := lt_of_heap hr.2.1
        refine ⟨by omega, by omega, fun e => ?_⟩
        have := own_lt hr.2.2.1 e
        omega
      · intro j hj
        simp only [dfoot, List.mem_cons, List.mem_append, Option.mem_toList] at hj ⊢
        rcases hj with h | h | h | h
        · exact .inl (.inl h)
        · exact .inl (.inr (.inl h))
        · exact .inl (.inr (.inr (.inl h)))
        · right; exact Nat.le_trans szs (lX j h)
end Go.Proofs.Yteoopnhogfjeaaa

/- The walk of DiskSizes. -/
import Derived.Test.YteoopnhogfjeaaaAwake
set_option linter.unusedSimpArgs false
set_option linter.unusedVariables false
namespace Go.Proofs.Yteoopnhogfjeaaa
open Go Go.RowKit Go.Own

theorem DiskSizes_bad (n : Int) (w : World) (h : n < 1 ∨ 256 < n) :
    Calls Try.prog 3 #[.int .i64 n] w fun e w' => e = .returned (.bool true) ∧ Below w.heap.size w w' := by
  have key : ∀ (hd : decide (n < 1) = true ∨ (decide (n < 1) = false ∧ decide (256 < n) = true)), Calls Try.prog 3 #[.int .i64 n] w fun e w' => e = .returned (.bool true) ∧ Below w.heap.size w w' := by
    intro hd
    rcases hd with hd | ⟨hd, hd2⟩
    all_goals
      go_enter Try.func3, Try.ntmps3
      go_wp2_with (first
        | (go_at_call 12; refine (New_bad _ _ h).mono ?_; rintro e w' ⟨rfl, rfl⟩)
        | (go_at_call 13; refine (awake05 _).mono ?_; rintro e w' ⟨rfl, ho⟩))
      go_ret
      exact ⟨rfl, ho.below⟩
  apply key
  rcases h with h | h
  · left; simpa using h
  · right; exact ⟨by simp; omega, by simpa using h⟩

set_option maxRecDepth 100000 in
set_option maxHeartbeats 1000000 in
theorem DiskSizes_ok (n : Nat) (w : World) (h1 : 1 ≤ n) (h2 : n ≤ 256) :
    Calls Try.prog 3 #[.int .i64 n] w fun e w' => e = .returned (.bool true) ∧ Below w.heap.size w w' := by
  have hd : decide ((n : Int) < 1) = false := by simp; omega
  have hd2 : decide (256 < (n : Int)) = false := by simp; omega
  have hlen : (DM.new n).secs.length = n := by simp [DM.new]
  have hsec : ∀ h, (DM.new n).secs[n - 1]'h = List.replicate 64 0 := by intro h; simp [DM.new]
  have himg : (DM.new n).image.length = 64 * n := by
    have := flat_len (DM.Wf.new h1 h2).sec
    rw [hlen] at this
    show (DM.new n).secs.flatten.length = _
    omega
  have hoff : (DM.new n).off = false := rfl
  have HLEN := Lib.hid hlen
  have HSEC := Lib.hid hsec
  have HIMG := Lib.hid himg
  clear hlen hsec himg
  go_enter Try.func3, Try.ntmps3
  go_wp2_with fail
  refine (New_ok n _ h1 h2).mono ?_
  rintro e w1 ⟨b, F1, rfl, hd1, hF1, o1⟩
  go_wp2_with fail
  have hcast : (n : Int) - 1 = ((n - 1 : Nat) : Int) := by omega
  rw [hcast]
  refine (Has_in b _ F1 (n - 1) _ hd1 (by rw [HLEN.out]; omega)).mono ?_
  rintro e w2 ⟨vb, rfl, nb, o2⟩
  rw [HSEC.out] at nb
  have sb := newB_safe nb hd1.lt
  have hd2' := hd1.only0 o2
  have o2' := o1.trans o2
  clear nb hd1 o1 o2 hcast
  go_wp2_with fail
  refine (Has_out b _ F1 n _ hd2' (by rw [HLEN.out]; omega)).mono ?_
  rintro e w3 ⟨rfl, rfl⟩
  obtain ⟨gb, ob, cb, rfl, _⟩ := sl_some sb.1 (by decide) (by decide)
  have bB : Bs w2.drew (.slice (some ⟨gb, ob, none⟩) 64 cb) (List.replicate 64 0) := sb.1.drew
  have hblk := sl_block bB (by decide)
  have hd3 := hd2'.drew
  have o3 := o2'.drew
  clear sb hd2' o2'
  go_wp2_with fail
  refine Reg.region2d [gb] [0, 0, 0, 0, 2, 0, 0, 0, 0, 0, 2, 0, 0, 0, 2, 0, 0, 0, 0, 0, 0, 0, 1, 2, 0, 0, 0, 0, 0, 0, 0, 0, 0, 0, 0, 2, 0, 0] [5, 6, 4, 9, 12] [0, 1, 3, 7, 15, 7, 63, 127, 255, 511, 1023, 2047, 4095, 8191, 16383, 32767, 8191, 73727, 262143, 524287, 1048575, 2097151, 4194303, 2097151, 16777215, 33554431, 67108863, 134217727, 268435455, 536870911, 1073741823, 2147483647, 4294967295, 8589934591, 17179869183, 34359738367, 68719476735, 137438953471] (by kernel_rfl) ?_
  simp only [Reg.segW, List.take_succ_cons, List.take_zero, List.drop_succ_cons, List.drop_zero]
  intro Q1 hQ1
  go_wp2_with (go_at_call 15; refine (Size_at _ _ _ _ hd3).mono ?_; rintro e w' ⟨rfl, rfl⟩; rw [HLEN.out])
  refine ⟨⟨by rfl, (by intro q hq; have hq' : q ∈ ([] : List Nat) := hq; first | (simp at hq'; done) | (simp at hq' ⊢; omega))⟩, fun _ _ => rfl, ?_⟩
  intro Q2 hQ2
  go_wp2_with (go_at_call 16; refine (On_at _ _ _ _ hd3).mono ?_; rintro e w' ⟨rfl, rfl⟩; rw [hoff])
  refine ⟨⟨by rfl, (by intro q hq; have hq' : q ∈ ([] : List Nat) := hq; first | (simp at hq'; done) | (simp at hq' ⊢; omega))⟩, fun _ _ => rfl, ?_⟩
  intro Q3 hQ3
  go_wp2_with (go_at_call 17; refine (Image_at _ _ _ _ hd3).mono ?_; rintro e w4 ⟨vi, rfl, ni, oi⟩; have hbi := newB_bs ni; obtain ⟨ia, ic, rfl, _⟩ := newB_bs ni; rw [HIMG.out])
  refine ⟨⟨by rfl, (by intro q hq; have hq' : q ∈ ([] : List Nat) := hq; first | (simp at hq'; done) | (simp at hq' ⊢; omega))⟩, keep_only oi (by intro k hk; simp at hk; subst hk; exact ⟨by simp, hblk⟩), ?_⟩
  intro Q4 hQ4
  have bB4 : Bs w4 (.slice (some ⟨gb, ob, none⟩) 64 cb) (List.replicate 64 0) := bB.only oi (by simp)
  have hzs : zs 64 = ⟨(List.replicate 64 (0 : UInt8)).toArray⟩ := rfl
  have o4 := o3.trans oi
  clear bB hblk hd3 o3 ni oi hbi
  go_wp2_with (first
    | ((with_reducible show wpList _ _ _ (⟨_, .convert _ _ _, _, _, _, _⟩ :: _) _ _); refine conv_string_g (x := .tmp 63) (v := .slice (some ⟨gb, ob, none⟩) 64 cb) Try.underlying27 Try.underlying5 Try.underlying9 rfl rfl rfl bB4 ?_)
    | (go_at_call 18; refine (Noughts_at _).mono ?_; rintro e w' ⟨rfl, rfl⟩))
  refine ⟨⟨by rfl, (by intro q hq; have hq' : q ∈ ([gb] : List Nat) := hq; first | (simp at hq'; done) | (simp at hq' ⊢; omega))⟩, fun _ _ => rfl, ?_⟩
  intro Q5 hQ5
  go_wp2_with (go_at_call 13; refine (awake05 _).mono ?_; rintro e w5 ⟨rfl, o5⟩)
  refine ⟨⟨by rfl, (by intro q hq; have hq' : q ∈ ([] : List Nat) := hq; first | (simp at hq'; done) | (simp at hq' ⊢; omega))⟩, keep_only o5 (by intro k hk; simp at hk; subst hk; exact ⟨by simp, sl_block bB4 (by decide)⟩), ?_⟩
  intro Q6 hQ6
  go_wp2_with fail
  refine ⟨⟨by rfl, (by intro q hq; have hq' : q ∈ ([] : List Nat) := hq; first | (simp at hq'; done) | (simp at hq' ⊢; omega))⟩, ?_⟩
  go_wp2_with fail
  go_ret
  exact ⟨rfl, (o4.trans o5).below⟩
end Go.Proofs.Yteoopnhogfjeaaa

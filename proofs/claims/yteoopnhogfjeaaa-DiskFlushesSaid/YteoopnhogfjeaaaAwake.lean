/- Contracts of Noughts and of layer 5's examples (awake). -/
import Derived.Test.YteoopnhogfjeaaaDiskI
set_option linter.unusedSimpArgs false
set_option linter.unusedVariables false
namespace Go.Proofs.Yteoopnhogfjeaaa
open Go Go.RowKit Go.Own

def zs (i : Nat) : ByteArray := ⟨(List.replicate i (0 : UInt8)).toArray⟩
theorem zs_size (i : Nat) : (zs i).size = i := by simp [zs, ByteArray.size]
theorem zs_succ (i : Nat) : zs i ++ ⟨#[0]⟩ = zs (i + 1) := by
  apply ByteArray.ext
  simp [zs, ByteArray.data_append, Array.replicate_succ]

theorem Noughts_at (w : World) : Calls Try.prog 18 #[] w fun e w' => e = .returned (.string (zs 64)) ∧ w = w' := by
  go_enter Try.func18, Try.ntmps18
  go_wp2
  go_loop [1, 2] (fun s c => ∃ i : Nat, i ≤ 64 ∧ c = .int .i64 i ∧ s = .string (zs i)) (fun _ c => 64 - (intOf c).toNat)
  case atStart => exact ⟨0, by omega, rfl, rfl⟩
  case round =>
    obtain ⟨i, hi, rfl, rfl⟩ := hrel
    have hsz := zs_size i
    by_cases hlt : i < 64
    · have hlti : (i : Int) < 64 := by omega
      have hsum : ((zs i).size : Int) + 1 ≤ 9223372036854775807 := by rw [hsz]; omega
      go_wp2
      go_round
      case rel => exact ⟨i + 1, by omega, by go_num, by rw [zs_succ]⟩
      case measure => simp [intOf]; omega
    · have he : i = 64 := by omega
      subst he
      go_wp2
      go_ret
      exact ⟨rfl, rfl⟩

/-- bytes beside a disk's blocks -/
def Safe (w : World) (F : List Nat) (v : Value) (l : List UInt8) : Prop := Bs w v l ∧ ∀ k, v.ownBlock = some k → k ∉ F ∧ k < w.heap.size
theorem newB_bs {w w' : World} {v : Value} {l : List UInt8} (h : NewB w w' v l) : Bs w' v l := by obtain ⟨e, h⟩ := h; exact own_sl h
theorem newB_safe {w w' : World} {v : Value} {l : List UInt8} {F : List Nat} (h : NewB w w' v l) (hF : ∀ k ∈ F, k < w.heap.size) : Safe w' F v l := by
  refine ⟨newB_bs h, fun k hk => ?_⟩
  obtain ⟨e, h⟩ := h
  have := h.lt k hk
  exact ⟨fun hm => by have := hF k hm; omega, this.2⟩
theorem Safe.to {w w' : World} {F F' : List Nat} {v : Value} {l : List UInt8} (h : Safe w F v l) (ho : Only F w w') (hf : FootOk w F F') : Safe w' F' v l := by
  refine ⟨h.1.only ho (fun k hk => (h.2 k hk).1), fun k hk => ⟨fun hm => ?_, Nat.lt_of_lt_of_le (h.2 k hk).2 ho.size⟩⟩
  rcases hf k hm with h1 | h1
  · exact (h.2 k hk).1 h1
  · have := (h.2 k hk).2; omega
theorem Safe.only {w w' : World} {F : List Nat} {v : Value} {l : List UInt8} (h : Safe w F v l) (ho : Only [] w w') : Safe w' F v l :=
  ⟨h.1.only ho (by simp), fun k hk => ⟨(h.2 k hk).1, Nat.lt_of_lt_of_le (h.2 k hk).2 ho.size⟩⟩
theorem FootOk.fresh {w w1 : World} {F F' : List Nat} (hf : FootOk w1 F F') (h : ∀ k ∈ F, w.heap.size ≤ k) (hs : w.heap.size ≤ w1.heap.size) : ∀ k ∈ F', w.heap.size ≤ k := fun k hk => (hf k hk).elim (h k) (fun h' => Nat.le_trans hs h')
theorem DiskAt.only0 {w w' : World} {b : Nat} {d : DM} {F : List Nat} (h : DiskAt w b d F) (ho : Only [] w w') : DiskAt w' b d F := h.only ho (by simp)

def awA : List UInt8 := List.replicate 64 7
def awB : List UInt8 := List.replicate 64 8
def aw1 : DM := ((DM.new 4).write 3 awA).1
def aw2 : DM := (aw1.write 3 awB).1
def aw3 : DM := aw2.crash [true]
theorem aw1_len : aw1.secs.length = 4 := by decide +kernel
theorem aw2_len : aw2.secs.length = 4 := by decide +kernel
theorem aw3_len : aw3.secs.length = 4 := by decide +kernel
theorem aw1_cur : aw1.cur 3 = awA := by decide +kernel
theorem aw1_sec : aw1.secs[3]'(by rw [aw1_len]; decide) = List.replicate 64 0 := by decide +kernel
theorem aw3_sec : aw3.secs[3]'(by rw [aw3_len]; decide) = awA := by decide +kernel
theorem aw1_off : aw1.off = false := by decide +kernel
theorem aw3_off : aw3.off = true := by decide +kernel
theorem aw1_pend : aw1.pend.length = 1 := by decide +kernel
theorem secLen0 : secLen 0 = 64 := by decide

set_option maxRecDepth 100000 in
set_option maxHeartbeats 1000000 in
theorem awake05 (w : World) : Calls Try.prog 13 #[] w fun e w' => e = .returned (.bool true) ∧ Only [] w w' := by
  go_enter Try.func13, Try.ntmps13
  go_wp2_with fail
  refine (New_ok 4 _ (by decide) (by decide)).mono ?_
  rintro e w1 ⟨b, F1, rfl, hd1, hF1, o1⟩
  go_wp2_with fail
  refine (Sector_at 7 0 _).mono ?_
  rintro e w2 ⟨va, rfl, na, o2⟩
  rw [secLen0] at na
  have sa := newB_safe na hd1.lt
  have hd2 := hd1.only0 o2
  have o2' := o1.trans o2
  clear na hd1 o1 o2
  go_wp2_with fail
  refine (Sector_at 8 0 _).mono ?_
  rintro e w3 ⟨vb, rfl, nb, o3⟩
  rw [secLen0] at nb
  have sb := newB_safe nb hd2.lt
  have sa3 := sa.only o3
  have hd3 := hd2.only0 o3
  have o3' := o2'.trans o3
  clear nb sa hd2 o2' o3
  go_wp2_with fail
  refine (Write_do b _ F1 3 va awA _ hd3 (by decide) (by decide) sa3.1 (fun k hk => (sa3.2 k hk).1) (by decide)).mono ?_
  rintro e w4 ⟨rfl, F4, hd4, hf4, o4⟩
  have sb4 := sb.to o4 hf4
  have sa4 := sa3.to o4 hf4
  have hF4 := hf4.fresh hF1 o3'.size
  have o4' : Only [] w w4 := o3'.trans' o4 (fun k hk => .inr (hF1 k hk))
  clear sb sa3 hd3 o3' o4 hf4 hF1
  have hd4' : DiskAt w4 b aw1 F4 := hd4
  clear hd4
  go_wp2_with fail
  refine (Read_in b aw1 F4 3 _ hd4' (by rw [aw1_len]; decide) aw1_off).mono ?_
  rintro e w5 ⟨vx, rfl, nx, o5⟩
  rw [aw1_cur] at nx
  have sx := newB_safe nx hd4'.lt
  have sa5 := sa4.only o5
  have sb5 := sb4.only o5
  have hd5 := hd4'.only0 o5
  have o5' := o4'.trans o5
  clear nx sa4 sb4 hd4' o4' o5
  go_wp2_with fail
  refine (Has_in b aw1 F4 3 _ hd5 (by rw [aw1_len]; decide)).mono ?_
  rintro e w6 ⟨vy, rfl, ny, o6⟩
  rw [aw1_sec] at ny
  have sy := newB_safe ny hd5.lt
  have sa6 := sa5.only o6
  have sb6 := sb5.only o6
  have sx6 := sx.only o6
  have hd6 := hd5.only0 o6
  have o6' := o5'.trans o6
  clear ny sa5 sb5 sx hd5 o5' o6
  go_wp2_with fail
  refine (Write_do b aw1 F4 3 vb awB _ hd6 (by rw [aw1_len]; decide) (by decide) sb6.1 (fun k hk => (sb6.2 k hk).1) (by rw [aw1_pend]; decide)).mono ?_
  rintro e w7 ⟨rfl, F7, hd7, hf7, o7⟩
  have sa7 := sa6.to o7 hf7
  have sx7 := sx6.to o7 hf7
  have sy7 := sy.to o7 hf7
  have hF7 := hf7.fresh hF4 o6'.size
  have o7' : Only [] w w7 := o6'.trans' o7 (fun k hk => .inr (hF4 k hk))
  have hd7' : DiskAt w7 b aw2 F7 := hd7
  clear sa6 sb6 sx6 sy hd6 o6' o7 hf7 hF4 hd7
  have oB : Only [] w7 (w7.alloc (.cells #[.bool true] 4)) := only_alloc _ _ _
  have hd8 := hd7'.only0 oB
  have hcr := Crash_at b aw2 F7 (.slice (some ⟨w7.heap.size, 0, none⟩) 1 1) [true] _ hd8 (stable_of (sl_new (cs := [.bool true]) rfl rfl (by decide)) (fun k hk hm => by cases hk; exact absurd (hd7'.lt _ hm) (Nat.lt_irrefl _)))
  have HCR := Lib.hid hcr
  clear hcr
  go_wp2_with fail
  refine HCR.out.mono ?_
  rintro e w8 ⟨rfl, F8, hd9, hf8, o8⟩
  have sa8 := (sa7.only oB).to o8 hf8
  have sx8 := (sx7.only oB).to o8 hf8
  have sy8 := (sy7.only oB).to o8 hf8
  have hF8 := hf8.fresh hF7 (Nat.le_trans o7'.size oB.size)
  have o8' : Only [] w w8 := (o7'.trans oB).trans' o8 (fun k hk => .inr (hF7 k hk))
  have hd9' : DiskAt w8 b aw3 F8 := hd9
  clear sa7 sx7 sy7 hd7' oB hd8 HCR hd9 hf8 o8 o7' hF7
  go_wp2_with fail
  refine (Has_in b aw3 F8 3 _ hd9' (by rw [aw3_len]; decide)).mono ?_
  rintro e w9 ⟨vz, rfl, nz, o9⟩
  rw [aw3_sec] at nz
  have sz := newB_safe nz hd9'.lt
  have sa9 := sa8.only o9
  have sx9 := sx8.only o9
  have sy9 := sy8.only o9
  have hd10 := hd9'.only0 o9
  have o9' := o8'.trans o9
  clear nz sa8 sx8 sy8 hd9' o8' o9
  go_wp2_with fail
  refine (Read_off b aw3 F8 3 _ hd10 (by simp [DM.inB, aw3_len]) aw3_off).mono ?_
  rintro e w10 ⟨rfl, rfl⟩
  obtain ⟨ga, oa, ca, rfl, _⟩ := sl_some sa9.1 (by decide) (by decide)
  obtain ⟨gx, ox, cx, rfl, _⟩ := sl_some sx9.1 (by decide) (by decide)
  obtain ⟨gy, oy, cy, rfl, _⟩ := sl_some sy9.1 (by decide) (by decide)
  obtain ⟨gz, oz, cz, rfl, _⟩ := sl_some sz.1 (by decide) (by decide)
  have bA : Bs w9.drew (.slice (some ⟨ga, oa, none⟩) 64 ca) awA := sa9.1.drew
  have bX : Bs w9.drew (.slice (some ⟨gx, ox, none⟩) 64 cx) awA := sx9.1.drew
  have bY : Bs w9.drew (.slice (some ⟨gy, oy, none⟩) 64 cy) (List.replicate 64 0) := sy9.1.drew
  have bZ : Bs w9.drew (.slice (some ⟨gz, oz, none⟩) 64 cz) awA := sz.1.drew
  have hd11 := hd10.drew
  have len3 := aw3_len
  have off3 := aw3_off
  clear sa9 sx9 sy9 sz hd10
  go_wp2_with fail
  refine Reg.region2d [ga, gx, gy, gz] [0,1,0,1,0,0,0,1,2,0,0,0,0,1,0,1,0,0,0,0,0,0,0,0,2,0,0,0,0,2,0,0,0] [9, 16, 5] [0, 1, 0, 4, 15, 31, 63, 127, 63, 511, 1023, 2047, 4095, 8191, 4095, 20479, 65535, 131071, 262143, 524287, 1048575, 2097151, 4194303, 8388607, 16777215, 33554431, 67108863, 134217727, 268435455, 536870911, 1073741823, 2147483647, 4294967295] (by kernel_rfl) ?_
  simp only [Reg.segW, List.take_succ_cons, List.take_zero, List.drop_succ_cons, List.drop_zero]
  intro Q1 hQ1
  go_wp2_with (first
    | ((with_reducible show wpList _ _ _ (⟨_, .convert _ _ _, _, _, _, _⟩ :: _) _ _); refine conv_string_g (x := .tmp 50) (v := .slice (some ⟨gx, ox, none⟩) 64 cx) Try.underlying27 Try.underlying5 Try.underlying9 rfl rfl rfl bX ?_)
    | ((with_reducible show wpList _ _ _ (⟨_, .convert _ _ _, _, _, _, _⟩ :: _) _ _); refine conv_string_g (x := .tmp 52) (v := .slice (some ⟨ga, oa, none⟩) 64 ca) Try.underlying27 Try.underlying5 Try.underlying9 rfl rfl rfl bA ?_)
    | ((with_reducible show wpList _ _ _ (⟨_, .convert _ _ _, _, _, _, _⟩ :: _) _ _); refine conv_string_g (x := .tmp 56) (v := .slice (some ⟨gy, oy, none⟩) 64 cy) Try.underlying27 Try.underlying5 Try.underlying9 rfl rfl rfl bY ?_)
    | (go_at_call 18; refine (Noughts_at _).mono ?_; rintro e w' ⟨rfl, rfl⟩))
  refine ⟨⟨by rfl, ?_⟩, fun _ _ => rfl, ?_⟩
  · intro q hq
    have hq' : q ∈ [gx, ga, gy] := hq
    simp at hq' ⊢
    omega
  intro Q2 hQ2
  have hzs : zs 64 = ⟨(List.replicate 64 (0 : UInt8)).toArray⟩ := rfl
  go_wp2_with (first
    | ((with_reducible show wpList _ _ _ (⟨_, .convert _ _ _, _, _, _, _⟩ :: _) _ _); refine conv_string_g (x := .tmp 62) (v := .slice (some ⟨gz, oz, none⟩) 64 cz) Try.underlying27 Try.underlying5 Try.underlying9 rfl rfl rfl bZ ?_)
    | ((with_reducible show wpList _ _ _ (⟨_, .convert _ _ _, _, _, _, _⟩ :: _) _ _); refine conv_string_g (x := .tmp 64) (v := .slice (some ⟨ga, oa, none⟩) 64 ca) Try.underlying27 Try.underlying5 Try.underlying9 rfl rfl rfl bA ?_)
    | (go_at_call 16; refine (On_at _ _ _ _ hd11).mono ?_; rintro e w' ⟨rfl, rfl⟩))
  refine ⟨⟨by rfl, ?_⟩, fun _ _ => rfl, ?_⟩
  · intro q hq
    have hq' : q ∈ [gz, ga] := hq
    simp at hq' ⊢
    omega
  intro Q3 hQ3
  go_wp2_with (first
    | (go_at_call 15; refine (Size_at _ _ _ _ hd11).mono ?_; rintro e w' ⟨rfl, rfl⟩))
  refine ⟨⟨by rfl, ?_⟩, fun _ _ => rfl, ?_⟩
  · intro q hq
    have hq' : q ∈ ([] : List Nat) := hq
    simp at hq'
  intro Q4 hQ4
  go_wp2_with fail
  refine ⟨⟨by rfl, ?_⟩, ?_⟩
  · intro q hq
    have hq' : q ∈ ([] : List Nat) := hq
    simp at hq'
  go_wp2_with fail
  go_ret
  exact ⟨rfl, o9'.drew⟩
end Go.Proofs.Yteoopnhogfjeaaa

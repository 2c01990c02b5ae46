/- Contracts of the disk's functions. -/
import Derived.Test.YteoopnhogfjeaaaRows
import Derived.Test.YteoopnhogfjeaaaDm
set_option linter.unusedSimpArgs false
set_option linter.unusedVariables false
namespace Go.Proofs.Yteoopnhogfjeaaa
open Go Go.RowKit Go.Own

def zSec : Array Value := Array.replicate 64 (.int .u8 0)
def zWrite : Array Value := #[.int .i64 0] ++ Array.replicate 64 (.int .u8 0)
theorem zSec_size : zSec.size = 64 := by simp [zSec]
theorem zWrite_size : zWrite.size = 65 := by simp [zWrite]
theorem tSec : RowT Try.prog 112 64 zSec := ⟨⟨_, Try.underlying112, rfl⟩, by kernel_rfl, by kernel_rfl, zSec_size⟩
theorem tWrite : RowT Try.prog 115 65 zWrite := ⟨⟨_, Try.underlying115, rfl⟩, by kernel_rfl, by kernel_rfl, zWrite_size⟩

/-- a disk in memory: d, at block b; F: its blocks -/
def DiskRaw (w : World) (b : Nat) (d : DM) (bs : Nat) (vp vs : Value) : Prop :=
  w.heap[b]? = some (.cells #[.slice (some ⟨bs, 0, none⟩) d.secs.length d.secs.length, vp, .bool d.off, .bool d.armed, .int .i64 d.left, vs] 110 (0, 0)) ∧
  w.heap[bs]? = some (.cells (u8s d.secs.flatten).toArray 112 (0, 0)) ∧
  w.ownsRow 0 115 65 vp d.pend.length (pcells d.pend) ∧
  w.ownsRow 0 4 1 vs d.surv.length (d.surv.map Value.bool)
def dfoot (b bs : Nat) (vp vs : Value) : List Nat := b :: bs :: (vp.ownBlock.toList ++ vs.ownBlock.toList)
def DiskAt (w : World) (b : Nat) (d : DM) (F : List Nat) : Prop :=
  d.Wf ∧ ∃ bs vp vs, DiskRaw w b d bs vp vs ∧ F = dfoot b bs vp vs ∧ F.Nodup

theorem has_any (b n : Nat) (at_ : Int) (bs : Nat) (w : World) (hn : n ≤ 256)
    (h0 : w.cell? ⟨b, 0, none⟩ = some (.slice (some ⟨bs, 0, none⟩) n n)) :
    Calls Try.prog 53 #[.pointer (some ⟨b, 0, none⟩), .int .i64 at_] w fun e w' => e = .returned (.bool (decide (0 ≤ at_ ∧ at_ < n))) ∧ w = w' := by
  go_enter Try.func53, Try.ntmps53
  go_wp2
  · go_ret
    simp [*]
  · go_ret
    simp; omega

theorem size_any (b n : Nat) (bs : Nat) (w : World) (h0 : w.cell? ⟨b, 0, none⟩ = some (.slice (some ⟨bs, 0, none⟩) n n)) :
    Calls Try.prog 15 #[.pointer (some ⟨b, 0, none⟩)] w fun e w' => e = .returned (.int .i64 n) ∧ w = w' := by
  go_enter Try.func15, Try.ntmps15
  go_wp2
  go_ret
  exact ⟨rfl, rfl⟩

theorem on_any (b : Nat) (x : Bool) (w : World) (h0 : w.cell? ⟨b, 2, none⟩ = some (.bool x)) :
    Calls Try.prog 16 #[.pointer (some ⟨b, 0, none⟩)] w fun e w' => e = .returned (.bool (!x)) ∧ w = w' := by
  go_enter Try.func16, Try.ntmps16
  go_wp2
  go_ret
  exact ⟨rfl, rfl⟩

theorem disarm_any (b : Nat) (v0 v1 v2 v3 v4 v5 : Value) (t : TypeId) (w : World) (hb : w.heap[b]? = some (.cells #[v0, v1, v2, v3, v4, v5] t (0, 0))) :
    Calls Try.prog 54 #[.pointer (some ⟨b, 0, none⟩)] w fun e w' => e = .returned (.tuple #[]) ∧ w' = w.setRow b #[v0, v1, v2, .bool false, .int .i64 0, .slice none 0 0] := by
  have c3 : w.cell? ⟨b, 3, none⟩ = some v3 := by simp [World.cell?, hb]
  have c4 : w.cell? ⟨b, 4, none⟩ = some v4 := by simp [World.cell?, hb]
  have c5 : w.cell? ⟨b, 5, none⟩ = some v5 := by simp [World.cell?, hb]
  have fz : ∀ o, w.frozen? ⟨b, o, none⟩ = false := by simp [World.frozen?, hb]
  have HB := Lib.hid hb
  clear hb
  go_enter Try.func54, Try.ntmps54
  go_wp2
  go_end0
  refine ⟨rfl, ?_⟩
  have hb := HB.out
  rw [setCell_eq_setRow _ b 3 _ _ _ _ hb, setCell_eq_setRow _ b 4 _ _ _ _ (setRow_heap _ _ _ _ _ _ hb), setRow_setRow, setCell_eq_setRow _ b 5 _ _ _ _ (setRow_heap _ _ _ _ _ _ hb), setRow_setRow]
  rfl

/-- new bytes: v reads as l in w', in a block that w did not have -/
def NewB (w w' : World) (v : Value) (l : List UInt8) : Prop := ∃ e, w'.ownsRow w.heap.size e 1 v l.length (u8s l)

theorem newB_alloc {w w1 : World} {S : List UInt8} {n : Nat} {t : TypeId} (hw : w.heap.size ≤ w1.heap.size) (hn : S.length = n) (hm : n ≤ maxLen) : NewB w (w1.alloc (.cells (u8s S).toArray t)) (.slice (some ⟨w1.heap.size, 0, none⟩) n n) S :=
  ⟨t, by simp [u8s_len], .inr ⟨w1.heap.size, n, _, by rw [hn], hw, heap_alloc_new _ _, by omega, hm, by simp [u8s_len, hn], by rw [List.take_of_length_le]; simp [u8s_len]⟩⟩

theorem DiskRaw.range {w : World} {b : Nat} {d : DM} {bs : Nat} {vp vs : Value} (h : DiskRaw w b d bs vp vs) (hw : d.Wf) {k : Nat} (hk : k < d.secs.length) : w.rangeAt bs (k * 64) (u8s d.secs[k]) := by
  refine range_of_block h.2.1 ?_
  rw [u8s_len, hw.sec _ (List.getElem_mem hk)]
  simp only [u8s, ← List.map_drop, ← List.map_take]
  rw [flat_at hw.sec hk]

set_option maxRecDepth 100000 in
set_option maxHeartbeats 400000 in
theorem Has_in (b : Nat) (d : DM) (F : List Nat) (k : Nat) (w : World) (hd : DiskAt w b d F) (hk : k < d.secs.length) :
    Calls Try.prog 14 #[.pointer (some ⟨b, 0, none⟩), .int .i64 k] w fun e w' => ∃ v, e = .returned (.tuple #[v, .int .i64 0]) ∧ NewB w w' v d.secs[k] ∧ Only [] w w' := by
  obtain ⟨hwf, bs, vp, vs, hraw, rfl, hnd⟩ := hd
  have c0 : w.cell? ⟨b, 0, none⟩ = some (.slice (some ⟨bs, 0, none⟩) d.secs.length d.secs.length) := by simp [World.cell?, hraw.1]
  have hr := hraw.range hwf hk
  have hl : (u8s d.secs[k]).length = 64 := by rw [u8s_len]; exact hwf.sec _ (List.getElem_mem hk)
  have h256 := hwf.hi
  have hz : (0 : Int) ≤ (k : Int) := by omega
  have hki : (k : Int) < (d.secs.length : Int) := by omega
  have hdec : decide ((0 : Int) ≤ (k : Int) ∧ (k : Int) < (d.secs.length : Int)) = true := by simp; omega
  generalize d.secs[k] = S at *
  have HL := Lib.hid hl
  clear hl hk hnd
  go_enter Try.func14, Try.ntmps14
  go_wp2_with (first
    | (go_at_call 53; refine (has_any _ _ _ _ _ h256 c0).mono ?_; rintro e w' ⟨rfl, rfl⟩; rw [hdec])
    | (refine load_row (x := .tmp 16) tSec (u8s S) rfl rfl rfl hr HL.out ?_)
    | (refine alloc_row tSec rfl rfl ?_)
    | (refine store_new tSec _ rfl rfl rfl rfl zSec_size (by simpa using HL.out) (all_oneCell_toArray (u8s_one _)) ?_))
  go_ret2
  exact ⟨.slice (some ⟨w.heap.size, 0, none⟩) 64 64, rfl, newB_alloc (Nat.le_refl _) (by have := HL.out; rwa [u8s_len] at this) (by decide), only_alloc _ _ _⟩

set_option maxHeartbeats 400000 in
theorem Has_out (b : Nat) (d : DM) (F : List Nat) (n : Int) (w : World) (hd : DiskAt w b d F) (hk : n < 0 ∨ d.secs.length ≤ n) :
    Calls Try.prog 14 #[.pointer (some ⟨b, 0, none⟩), .int .i64 n] w fun e w' => e = .returned (.tuple #[.slice none 0 0, .int .i64 4]) ∧ w = w' := by
  obtain ⟨hwf, bs, vp, vs, hraw, rfl, hnd⟩ := hd
  have c0 : w.cell? ⟨b, 0, none⟩ = some (.slice (some ⟨bs, 0, none⟩) d.secs.length d.secs.length) := by simp [World.cell?, hraw.1]
  have h256 := hwf.hi
  have hdec : decide ((0 : Int) ≤ n ∧ n < (d.secs.length : Int)) = false := by simp; omega
  clear hk hnd
  go_enter Try.func14, Try.ntmps14
  go_wp2_with (first
    | (go_at_call 53; refine (has_any _ _ _ _ _ h256 c0).mono ?_; rintro e w' ⟨rfl, rfl⟩; rw [hdec]))
  go_ret2
  exact ⟨rfl, rfl⟩

/-- cells of an owned row -/
theorem own_range {w : World} {e : TypeId} {sz : Nat} {v : Value} {n : Nat} {xs : List Value} {g c : Nat} (h : w.ownsRow 0 e sz v n xs) (hv : v = .slice (some ⟨g, 0, none⟩) n c) {off : Nat} {cs : List Value} (hc : (xs.drop off).take cs.length = cs) : w.rangeAt g off cs := by
  rcases h.2 with ⟨rfl, _⟩ | ⟨g', cap, cur, rfl, _, hg, _, _, _, htake⟩
  · cases hv
  · cases hv
    intro j u hu
    rw [cell_of_row w g (off + j) cur e (0, 0) hg]
    have hj : j < cs.length := (List.getElem?_eq_some_iff.1 hu).1
    rw [← hc, List.getElem?_take_of_lt hj, List.getElem?_drop, ← htake, List.getElem?_take] at hu
    split at hu
    · simpa using hu
    · cases hu
theorem own_some {w : World} {e : TypeId} {sz : Nat} {v : Value} {n : Nat} {xs : List Value} (h : w.ownsRow 0 e sz v n xs) (hn : 0 < n) : ∃ g c, v = .slice (some ⟨g, 0, none⟩) n c ∧ n ≤ c ∧ c ≤ maxLen := by
  rcases h.2 with ⟨_, h0⟩ | ⟨g, cap, cur, rfl, _, hg, h1, h2, _, _⟩
  · omega
  · exact ⟨g, cap, rfl, h1, h2⟩
theorem range_alloc_new (w : World) (cs : List Value) (t : TypeId) (off : Nat) (xs : List Value) (h : (cs.drop off).take xs.length = xs) : (w.alloc (.cells cs.toArray t)).rangeAt w.heap.size off xs :=
  range_of_block (heap_alloc_new w _) (by simpa using h)
theorem sl_some {w : World} {v : Value} {sz n : Nat} {xs : List Value} (h : Sl w v sz n xs) (hn : 0 < n) (hz : 0 < sz) : ∃ g o c, v = .slice (some ⟨g, o, none⟩) n c ∧ n ≤ c ∧ c ≤ maxLen ∧ g < w.heap.size ∧ ∀ j x, xs[j]? = some x → w.cell? ⟨g, o + j, none⟩ = some x := by
  obtain ⟨a, c, rfl, h1, h2, h3, h4⟩ := h
  have hne : 0 < xs.length := by rw [h1]; exact Nat.mul_pos hn hz
  obtain ⟨⟨g, o, sp⟩, rfl, hc⟩ := h4 0 xs[0] (by simp [hne])
  have hsp : sp = none := by simpa [Addr.add] using World.cell?_spot hc
  subst hsp
  refine ⟨g, o, c, rfl, h2, h3, by have := World.block_lt_of_cell? w _ hc; rwa [Reg.add_block] at this, fun j x hx => ?_⟩
  obtain ⟨ad, ha, hcj⟩ := h4 j x hx
  cases ha
  rwa [Addr.add_mid] at hcj

end Go.Proofs.Yteoopnhogfjeaaa

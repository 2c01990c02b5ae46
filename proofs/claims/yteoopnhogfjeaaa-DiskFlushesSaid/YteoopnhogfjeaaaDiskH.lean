/- Contracts of the disk's functions: Power, New, Image; and of the laws' helpers Sector, Noughts. -/
import Derived.Test.YteoopnhogfjeaaaDiskG
set_option linter.unusedSimpArgs false
set_option linter.unusedVariables false
namespace Go.Proofs.Yteoopnhogfjeaaa
open Go Go.RowKit Go.Own

theorem foot_nil_pv {b bs : Nat} {vp vs : Value} (h : (dfoot b bs vp vs).Nodup) : (dfoot b bs (.slice none 0 0) (.slice none 0 0)).Nodup := foot_nil_v (foot_nil_p h)

set_option maxHeartbeats 400000 in
theorem Power_at (b : Nat) (d : DM) (F : List Nat) (w : World) (h : DiskAt w b d F) :
    Calls Try.prog 51 #[.pointer (some ⟨b, 0, none⟩)] w fun e w' => e = .returned (.tuple #[]) ∧ DiskTo w w' b d.power F := by
  have hwf' := h.1.power
  obtain ⟨hw, bs, vp, vs, hr, rfl, hnd⟩ := h
  have hb := hr.1
  have k1 : w.cell? ⟨b, 1, none⟩ = some vp := by simp [World.cell?, hb]
  have k2 : w.cell? ⟨b, 2, none⟩ = some (.bool d.off) := by simp [World.cell?, hb]
  have kf : ∀ o, w.frozen? ⟨b, o, none⟩ = false := by simp [World.frozen?, hb]
  have h2 := heap_setCell_same _ b 2 _ _ (.bool false) hb
  have h3 := heap_setCell_same _ b 1 _ _ (.slice none 0 0) h2
  have hn' := hnd
  simp only [dfoot, List.nodup_cons, List.mem_cons, List.mem_append, Option.mem_toList, not_or] at hn'
  have H3 := Lib.hid h3
  clear h2 h3 hb
  go_enter Try.func51, Try.ntmps51
  go_wp2_with (go_at_call 54; refine (disarm_any b _ _ _ _ _ _ _ _ H3.out).mono ?_; rintro e w' ⟨rfl, rfl⟩)
  go_end0
  refine ⟨rfl, dfoot b bs (.slice none 0 0) (.slice none 0 0), ⟨hwf', bs, _, _, ⟨?_, ?_, World.ownsRow_nil _ _ _ _, World.ownsRow_nil _ _ _ _⟩, rfl, foot_nil_pv hnd⟩, ?_, ?_⟩
  · rw [setRow_heap _ _ _ _ _ _ H3.out]; rfl
  · rw [setRow_other _ _ _ _ (fun e => hn'.1.1 e.symm), heap_setCell_other _ _ _ _ (fun e => hn'.1.1 e.symm), heap_setCell_other _ _ _ _ (fun e => hn'.1.1 e.symm)]
    exact hr.2.1
  · intro j hj
    simp [dfoot, Value.ownBlock] at hj
    left; rcases hj with rfl | rfl <;> simp [dfoot]
  · exact (only_setCell _ _ _ (by simp [dfoot])).trans ((only_setCell _ _ _ (by simp [dfoot])).trans (only_setRow _ _ _ (by simp [dfoot])))

/-! ### New -/
theorem build_disk (a : Option Addr) (n c : Nat) (w : World) : (Instr.build 110 #[(0, .slice a n c)]).run Try.prog w = .ok (.agg #[.slice a n c, .slice none 0 0, .bool false, .bool false, .int .i64 0, .slice none 0 0]) w := by kernel_rfl
theorem eSec : ElT Try.prog 107 112 64 64 (.agg zSec) := elT Try.underlying107 (by kernel_rfl) zSec_size (by decide)

theorem New_bad (n : Int) (w : World) (h : n < 1 ∨ 256 < n) :
    Calls Try.prog 12 #[.int .i64 n] w fun e w' => e = .returned (.tuple #[.pointer none, .int .i64 1]) ∧ w = w' := by
  rcases h with h | h
  · have hd : decide (n < 1) = true := by simpa using h
    go_enter Try.func12, Try.ntmps12
    go_wp2
    go_ret2
    exact ⟨rfl, rfl⟩
  · have hd : decide (n < 1) = false := by simp; omega
    have hd2 : decide (256 < n) = true := by simpa using h
    go_enter Try.func12, Try.ntmps12
    go_wp2
    go_ret2
    exact ⟨rfl, rfl⟩

set_option maxHeartbeats 400000 in
theorem New_ok (n : Nat) (w : World) (h1 : 1 ≤ n) (h2 : n ≤ 256) :
    Calls Try.prog 12 #[.int .i64 n] w fun e w' => ∃ b F, e = .returned (.tuple #[.pointer (some ⟨b, 0, none⟩), .int .i64 0]) ∧ DiskAt w' b (DM.new n) F ∧ (∀ k ∈ F, w.heap.size ≤ k) ∧ Only [] w w' := by
  have hd : decide ((n : Int) < 1) = false := by simp; omega
  have hd2 : decide (256 < (n : Int)) = false := by simp; omega
  have hmade : madeCells (Value.agg zSec).cells (n * 64) = (u8s (DM.new n).secs.flatten).toArray := by
    show madeCells zSec (n * 64) = _
    rw [made_rep (z := zSec) (x := .int .u8 0) (k := 64) rfl (by decide)]
    congr 1
    simp only [DM.new, u8s]
    rw [List.flatten_replicate_replicate, List.map_replicate]
    rfl
  go_enter Try.func12, Try.ntmps12
  go_wp2_with (first
    | ((with_reducible show wpList _ _ _ (⟨_, .makeSlice _ _ _, _, _, _, _⟩ :: _) _ _); refine make_sl (l := .tmp 10) (c := .tmp 10) (n := n) (m := n) eSec rfl rfl rfl rfl (Nat.le_refl _) (by omega) (by omega) ?_; rw [hmade])
    | ((with_reducible show wpList _ _ _ (⟨_, .build _ _, _, _, _, _⟩ :: _) _ _); refine build_at (build_disk (some ⟨w.heap.size, 0, none⟩) n n) rfl rfl rfl ?_))
  go_ret2
  refine ⟨w.heap.size + 1, dfoot (w.heap.size + 1) w.heap.size (.slice none 0 0) (.slice none 0 0), rfl, ⟨DM.Wf.new h1 h2, w.heap.size, _, _, ⟨?_, ?_, World.ownsRow_nil _ _ _ _, World.ownsRow_nil _ _ _ _⟩, rfl, by simp [dfoot, Value.ownBlock]⟩, ?_, (only_alloc _ _ _).trans (only_alloc _ _ _)⟩
  · have := heap_alloc_new (w.alloc (.cells (u8s (DM.new n).secs.flatten).toArray 112)) (.cells #[.slice (some ⟨w.heap.size, 0, none⟩) n n, .slice none 0 0, .bool false, .bool false, .int .i64 0, .slice none 0 0] 110)
    simpa [DM.new] using this
  · rw [heap_alloc_old _ _ (by simp)]
    exact heap_alloc_new _ _
  · intro k hk
    simp [dfoot, Value.ownBlock] at hk
    omega
end Go.Proofs.Yteoopnhogfjeaaa

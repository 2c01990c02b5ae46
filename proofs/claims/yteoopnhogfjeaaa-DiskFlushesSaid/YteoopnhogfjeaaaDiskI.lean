/- Contracts of Image; of the laws' helpers Sector, Noughts. -/
import Derived.Test.YteoopnhogfjeaaaDiskH
set_option linter.unusedSimpArgs false
set_option linter.unusedVariables false
namespace Go.Proofs.Yteoopnhogfjeaaa
open Go Go.RowKit Go.Own

theorem eBytes : ElT Try.prog 27 5 1 1 (.int .u8 0) := elT Try.underlying27 (by kernel_rfl) rfl (by decide)

theorem take_flat_succ {s : List (List UInt8)} {i : Nat} (h : i < s.length) : (s.take (i + 1)).flatten = (s.take i).flatten ++ s[i] := by
  rw [take_snoc' _ h, List.flatten_append]; simp only [List.flatten_cons, List.flatten_nil, List.append_nil]

set_option maxRecDepth 100000 in
set_option maxHeartbeats 1000000 in
theorem Image_at (b : Nat) (d : DM) (F : List Nat) (w : World) (hd : DiskAt w b d F) :
    Calls Try.prog 17 #[.pointer (some ⟨b, 0, none⟩)] w fun e w' => ∃ v, e = .returned v ∧ NewB w w' v d.image ∧ Only [] w w' := by
  obtain ⟨hwf, bs, vp, vs, hraw, rfl, hnd⟩ := hd
  have c0 : w.cell? ⟨b, 0, none⟩ = some (.slice (some ⟨bs, 0, none⟩) d.secs.length d.secs.length) := by simp [World.cell?, hraw.1]
  have h256 := hwf.hi
  have lb := lt_of_heap hraw.1
  have hmade : (w.alloc (.cells (madeCells (Value.int .u8 0).cells (d.secs.length * 64 * 1)) 5)).ownsRow w.heap.size 5 1 (.slice (some ⟨w.heap.size, 0, none⟩) 0 (d.secs.length * 64)) 0 [] :=
    World.ownsRow_made w _ _ (Nat.le_refl _) (by unfold maxLen; omega) (by rw [size_madeCells])
  have HM := Lib.hid hmade
  clear hmade hnd
  have hc0 : ((0 : Nat) : Int) = 0 := rfl
  have hmul : ((d.secs.length * 64 : Nat) : Int) = (d.secs.length : Int) * 64 := by simp
  have HMUL := Lib.hid hmul
  clear hmul hc0
  go_enter Try.func17, Try.ntmps17
  go_wp2_with ((with_reducible show wpList _ _ _ (⟨_, .makeSlice _ _ _, _, _, _, _⟩ :: _) _ _); refine make_sl (l := .const (.int .i64 0)) (c := .tmp 11) (n := 0) (m := d.secs.length * 64) (k := .i64) (k' := .i64) eBytes rfl rfl rfl (congrArg (Value.int .i64) HMUL.out.symm) (Nat.zero_le _) (by omega) (by omega) ?_; have hk0 : (w.alloc (.cells (madeCells (Value.int .u8 0).cells (d.secs.length * 64 * 1)) 5)).cell? ⟨b, 0, none⟩ = some (.slice (some ⟨bs, 0, none⟩) d.secs.length d.secs.length) := ((only_alloc [] _ _).cell c0 (by simp)); generalize hW : w.alloc (.cells (madeCells (Value.int .u8 0).cells (d.secs.length * 64 * 1)) 5) = W at *; have HW := Lib.hid hW; clear hW)
  have oW : Only [] w W := by rw [← HW.out]; exact only_alloc _ _ _
  have hrawW := hraw.only oW (by simp)
  have HRW := Lib.hid hrawW
  clear hrawW
  go_loopw [3, 18] (fun v c wr => ∃ i : Nat, i ≤ d.secs.length ∧ c = .int .i64 i ∧ Only [] w wr ∧ wr.ownsRow w.heap.size 5 1 v (i * 64) (u8s (d.secs.take i).flatten)) (fun _ c _ => d.secs.length - (intOf c).toNat)
  case atStart => exact ⟨0, Nat.zero_le _, rfl, oW, HM.out⟩
  case round =>
    obtain ⟨i, hi, rfl, hon, hown⟩ := hrel
    by_cases hlt : i < d.secs.length
    · have hr := (hraw.only hon (by simp)).range hwf hlt
      have hl : (u8s d.secs[i]).length = 64 := by rw [u8s_len]; exact hwf.sec _ (List.getElem_mem hlt)
      have hsn := take_flat_succ hlt
      generalize d.secs[i] = S at *
      generalize (d.secs.take i).flatten = A at *
      have hlti : (i : Int) < (d.secs.length : Int) := by omega
      have hsl : Sl (wr.alloc (.cells (u8s S).toArray 112)) (.slice (some ⟨wr.heap.size, 0, none⟩) 64 64) 1 64 (u8s S) := sl_new rfl (by rw [hl]) (by decide)
      have hown2 : (wr.alloc (.cells (u8s S).toArray 112)).ownsRow 0 5 1 u3 (i * 64) (u8s A) := own_base (hown.alloc _) (fun _ _ => Nat.zero_le _)
      have hlo : ∀ k, u3.ownBlock = some k → w.heap.size ≤ k := fun k hk => (hown.lt k hk).1
      obtain ⟨ua, uc, rfl, _⟩ := own_sl hown
      have HSN := Lib.hid hsn
      have HL := Lib.hid hl
      have HSL := Lib.hid hsl
      have HO2 := Lib.hid hown2
      have HLO := Lib.hid hlo
      clear hsn hl hsl hown2 hlo hown
      have hsz := hon.size
      go_wp2_with (first
        | ((with_reducible show wpList _ _ _ (⟨_, .load _ _, _, _, _, _⟩ :: _) _ _); refine load_row (x := .tmp 20) tSec (u8s S) rfl rfl rfl hr HL.out ?_)
        | ((with_reducible show wpList _ _ _ (⟨_, .alloc _, _, _, _, _⟩ :: _) _ _); refine alloc_row tSec rfl rfl ?_)
        | ((with_reducible show wpList _ _ _ (⟨_, .store _ _ _, _, _, _, _⟩ :: _) _ _); refine store_new (x := .tmp 5) (y := .tmp 21) tSec _ rfl rfl rfl rfl zSec_size (by simpa using HL.out) (all_oneCell_toArray (u8s_one _)) ?_)
        | ((with_reducible show wpList _ _ _ (⟨_, .call ⟨.builtin .append, _, _⟩, _, _, _, _⟩ :: _) _ _); go_must (refine append_row (s := .tmp 22) (x := .tmp 23) (v := .slice ua (i * 64) uc) (xv := .slice (some ⟨wr.heap.size, 0, none⟩) 64 64) eBytes rfl rfl rfl HO2.out rfl HSL.out (u8s_one _) (by unfold maxLen; omega) (by omega) ?_; intro v' w' hq1 hq2 hq3; have HQ1 := Lib.hid hq1; have HQ2 := Lib.hid hq2; have HQ3 := Lib.hid hq3; clear hq1 hq2 hq3)))
      go_roundw
      case rel =>
        refine ⟨i + 1, by omega, by go_num, hon.trans' ((only_alloc _ _ _).trans HQ2.out) (fun x hx => .inr (HLO.out x (by simpa using hx))), ?_⟩
        rw [HSN.out, u8s_app, show (i + 1) * 64 = i * 64 + 64 by omega]
        refine own_base HQ1.out (fun k hk => ?_)
        rcases HQ3.out k hk with h | h
        · exact HLO.out k h
        · simp at h; omega
      case measure => simp [intOf]; omega
    · have he : i = d.secs.length := by omega
      subst he
      rw [List.take_length] at hown
      have HO := Lib.hid hown
      clear hown
      go_wp2
      go_ret
      refine ⟨_, rfl, ⟨5, ?_⟩, hon⟩
      have := HO.out
      rw [← flat_len hwf.sec] at this
      exact this

/-! ### the laws' helpers -/
def secLen (off : Int) : Nat := if -64 < off ∧ off < 64 then (64 + off).toNat else 64

theorem rep_set {x y : Value} {i n : Nat} (h : i < n) : ((List.replicate i x ++ List.replicate (n - i) y).set i x) = List.replicate (i + 1) x ++ List.replicate (n - (i + 1)) y := by
  apply List.ext_getElem
  · simp; omega
  · intro j h1 h2
    rw [List.getElem_set]
    simp only [List.getElem_append, List.length_replicate, List.getElem_replicate]
    split
    · split <;> first | rfl | omega
    · split <;> split <;> first | rfl | omega

set_option maxHeartbeats 400000 in
theorem Sector_at (x : UInt8) (off : Int) (w : World) : 
    Calls Try.prog 23 #[.int .u8 x.toNat, .int .i64 off] w fun e w' => ∃ v, e = .returned v ∧ NewB w w' v (List.replicate (secLen off) x) ∧ Only [] w w' := by
  have core : ∀ n : Nat, n ≤ 127 → secLen off = n → (if -64 < off ∧ off < 64 then (n : Int) = 64 + off else n = 64) →
      Calls Try.prog 23 #[.int .u8 x.toNat, .int .i64 off] w fun e w' => ∃ v, e = .returned v ∧ NewB w w' v (List.replicate n x) ∧ Only [] w w' := by
    intro n hn hsl hc
    have hm1 : madeCells (Value.int .u8 0).cells (n * 1) = (List.replicate n (Value.int .u8 0)).toArray := by
      rw [made_rep (z := (Value.int .u8 0).cells) (x := .int .u8 0) (k := 1) rfl (by decide), Nat.mul_one]
    have HM := Lib.hid hm1
    have loop : ∀ (W : World) (Q : Exit → Act → World → Prop), True := fun _ _ => trivial
    clear hm1 loop
    by_cases h1 : -64 < off
    · have d1 : decide (-64 < off) = true := by simpa using h1
      by_cases h2 : off < 64
      · have d2 : decide (off < 64) = true := by simpa using h2
        rw [if_pos ⟨h1, h2⟩] at hc
        have hoff : 64 + off = (n : Int) := by omega
        have HOFF := Lib.hid hoff
        clear hoff hc hsl
        go_enter Try.func23, Try.ntmps23
        go_wp2_with ((with_reducible show wpList _ _ _ (⟨_, .makeSlice _ _ _, _, _, _, _⟩ :: _) _ _); go_must (refine make_sl (l := .tmp 17) (c := .tmp 17) (n := n) (m := n) (k := .i64) (k' := .i64) eBytes rfl rfl (congrArg (Value.int .i64) HOFF.out) (congrArg (Value.int .i64) HOFF.out) (Nat.le_refl _) (by omega) (by omega) ?_; rw [HM.out]))
        go_loopw [7] (fun c wr => ∃ i : Nat, i ≤ n ∧ c = .int .i64 i ∧ Only [] w wr ∧ wr.heap[w.heap.size]? = some (.cells (List.replicate i (u8 x) ++ List.replicate (n - i) (Value.int .u8 0)).toArray 5 (0, 0))) (fun c _ => n - (intOf c).toNat)
        case atStart => exact ⟨0, Nat.zero_le _, rfl, only_alloc _ _ _, by simpa using heap_alloc_new w (.cells (List.replicate n (Value.int .u8 0)).toArray 5)⟩
        case round =>
          obtain ⟨i, hi, rfl, hon, hblk⟩ := hrel
          have hoff2 := HOFF.out
          by_cases hlt : i < n
          · have hlti : (i : Int) < (n : Int) := by omega
            have hc1 : wr.cell? ⟨w.heap.size, i, none⟩ = some (.int .u8 0) := by
              rw [cell_of_row _ _ _ _ _ _ hblk]; simp [List.getElem?_append, List.getElem?_replicate]; omega
            have hf1 : wr.frozen? ⟨w.heap.size, i, none⟩ = false := by simp [World.frozen?, hblk]
            have HB := Lib.hid hblk
            clear hblk hoff2
            have hts : decide ((i : Int) < (n : Int)) = true := by simpa using hlti
            have hcmp : (i : Int) < 64 + off := by have := HOFF.out; omega
            go_wp2
            go_roundw
            case rel =>
              refine ⟨i + 1, by omega, by go_num, hon.trans' (only_setCell (S := [w.heap.size]) _ _ _ (by simp)) (fun z hz => .inr (by simp at hz; omega)), ?_⟩
              have h5 := heap_setCell_same _ _ i _ _ (.int .u8 (x.toNat : Int)) HB.out
              rw [h5]
              congr 2
              rw [List.setIfInBounds_toArray]
              congr 1
              exact rep_set hlt
            case measure => simp [intOf]; omega
          · have he : i = n := by omega
            subst he
            have HB := Lib.hid hblk
            clear hblk hoff2
            have hcmp : ¬ ((i : Int) < 64 + off) := by have := HOFF.out; omega
            go_wp2
            go_ret
            refine ⟨.slice (some ⟨w.heap.size, 0, none⟩) i i, rfl, ⟨5, by simp [u8s_len], .inr ⟨w.heap.size, i, _, by simp, Nat.le_refl _, HB.out, by simp, by unfold maxLen; omega, by simp, by simp [u8s]⟩⟩, hon⟩
      · have d2 : decide (off < 64) = false := by simpa using h2
        rw [if_neg (fun h => h2 h.2)] at hc
        have hoff : (64 : Int) = (n : Int) := by omega
        have HOFF := Lib.hid hoff
        clear hoff hc hsl
        go_enter Try.func23, Try.ntmps23
        go_wp2_with ((with_reducible show wpList _ _ _ (⟨_, .makeSlice _ _ _, _, _, _, _⟩ :: _) _ _); go_must (refine make_sl (l := .tmp 17) (c := .tmp 17) (n := n) (m := n) (k := .i64) (k' := .i64) eBytes rfl rfl (congrArg (Value.int .i64) HOFF.out) (congrArg (Value.int .i64) HOFF.out) (Nat.le_refl _) (by omega) (by omega) ?_; rw [HM.out]))
        go_loopw [7] (fun c wr => ∃ i : Nat, i ≤ n ∧ c = .int .i64 i ∧ Only [] w wr ∧ wr.heap[w.heap.size]? = some (.cells (List.replicate i (u8 x) ++ List.replicate (n - i) (Value.int .u8 0)).toArray 5 (0, 0))) (fun c _ => n - (intOf c).toNat)
        case atStart => exact ⟨0, Nat.zero_le _, rfl, only_alloc _ _ _, by simpa using heap_alloc_new w (.cells (List.replicate n (Value.int .u8 0)).toArray 5)⟩
        case round =>
          obtain ⟨i, hi, rfl, hon, hblk⟩ := hrel
          have hoff2 := HOFF.out
          by_cases hlt : i < n
          · have hlti : (i : Int) < (n : Int) := by omega
            have hc1 : wr.cell? ⟨w.heap.size, i, none⟩ = some (.int .u8 0) := by
              rw [cell_of_row _ _ _ _ _ _ hblk]; simp [List.getElem?_append, List.getElem?_replicate]; omega
            have hf1 : wr.frozen? ⟨w.heap.size, i, none⟩ = false := by simp [World.frozen?, hblk]
            have HB := Lib.hid hblk
            clear hblk hoff2
            have hts : decide ((i : Int) < (n : Int)) = true := by simpa using hlti
            have hcmp : (i : Int) < 64 := by have := HOFF.out; omega
            go_wp2
            go_roundw
            case rel =>
              refine ⟨i + 1, by omega, by go_num, hon.trans' (only_setCell (S := [w.heap.size]) _ _ _ (by simp)) (fun z hz => .inr (by simp at hz; omega)), ?_⟩
              have h5 := heap_setCell_same _ _ i _ _ (.int .u8 (x.toNat : Int)) HB.out
              rw [h5]
              congr 2
              rw [List.setIfInBounds_toArray]
              congr 1
              exact rep_set hlt
            case measure => simp [intOf]; omega
          · have he : i = n := by omega
            subst he
            have HB := Lib.hid hblk
            clear hblk hoff2
            have hcmp : ¬ ((i : Int) < 64) := by have := HOFF.out; omega
            go_wp2
            go_ret
            refine ⟨.slice (some ⟨w.heap.size, 0, none⟩) i i, rfl, ⟨5, by simp [u8s_len], .inr ⟨w.heap.size, i, _, by simp, Nat.le_refl _, HB.out, by simp, by unfold maxLen; omega, by simp, by simp [u8s]⟩⟩, hon⟩
    · have d1 : decide (-64 < off) = false := by simpa using h1
      rw [if_neg (fun h => h1 h.1)] at hc
      · have hoff : (64 : Int) = (n : Int) := by omega
        have HOFF := Lib.hid hoff
        clear hoff hc hsl
        go_enter Try.func23, Try.ntmps23
        go_wp2_with ((with_reducible show wpList _ _ _ (⟨_, .makeSlice _ _ _, _, _, _, _⟩ :: _) _ _); go_must (refine make_sl (l := .tmp 17) (c := .tmp 17) (n := n) (m := n) (k := .i64) (k' := .i64) eBytes rfl rfl (congrArg (Value.int .i64) HOFF.out) (congrArg (Value.int .i64) HOFF.out) (Nat.le_refl _) (by omega) (by omega) ?_; rw [HM.out]))
        go_loopw [7] (fun c wr => ∃ i : Nat, i ≤ n ∧ c = .int .i64 i ∧ Only [] w wr ∧ wr.heap[w.heap.size]? = some (.cells (List.replicate i (u8 x) ++ List.replicate (n - i) (Value.int .u8 0)).toArray 5 (0, 0))) (fun c _ => n - (intOf c).toNat)
        case atStart => exact ⟨0, Nat.zero_le _, rfl, only_alloc _ _ _, by simpa using heap_alloc_new w (.cells (List.replicate n (Value.int .u8 0)).toArray 5)⟩
        case round =>
          obtain ⟨i, hi, rfl, hon, hblk⟩ := hrel
          have hoff2 := HOFF.out
          by_cases hlt : i < n
          · have hlti : (i : Int) < (n : Int) := by omega
            have hc1 : wr.cell? ⟨w.heap.size, i, none⟩ = some (.int .u8 0) := by
              rw [cell_of_row _ _ _ _ _ _ hblk]; simp [List.getElem?_append, List.getElem?_replicate]; omega
            have hf1 : wr.frozen? ⟨w.heap.size, i, none⟩ = false := by simp [World.frozen?, hblk]
            have HB := Lib.hid hblk
            clear hblk hoff2
            have hts : decide ((i : Int) < (n : Int)) = true := by simpa using hlti
            have hcmp : (i : Int) < 64 := by have := HOFF.out; omega
            go_wp2
            go_roundw
            case rel =>
              refine ⟨i + 1, by omega, by go_num, hon.trans' (only_setCell (S := [w.heap.size]) _ _ _ (by simp)) (fun z hz => .inr (by simp at hz; omega)), ?_⟩
              have h5 := heap_setCell_same _ _ i _ _ (.int .u8 (x.toNat : Int)) HB.out
              rw [h5]
              congr 2
              rw [List.setIfInBounds_toArray]
              congr 1
              exact rep_set hlt
            case measure => simp [intOf]; omega
          · have he : i = n := by omega
            subst he
            have HB := Lib.hid hblk
            clear hblk hoff2
            have hcmp : ¬ ((i : Int) < 64) := by have := HOFF.out; omega
            go_wp2
            go_ret
            refine ⟨.slice (some ⟨w.heap.size, 0, none⟩) i i, rfl, ⟨5, by simp [u8s_len], .inr ⟨w.heap.size, i, _, by simp, Nat.le_refl _, HB.out, by simp, by unfold maxLen; omega, by simp, by simp [u8s]⟩⟩, hon⟩
  exact core (secLen off) (by unfold secLen; split <;> omega) rfl (by unfold secLen; split <;> omega)
end Go.Proofs.Yteoopnhogfjeaaa

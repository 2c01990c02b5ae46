/- Contracts of the disk's functions: Read. -/
import Derived.Test.YteoopnhogfjeaaaDiskE
set_option linter.unusedSimpArgs false
set_option linter.unusedVariables false
namespace Go.Proofs.Yteoopnhogfjeaaa
open Go Go.RowKit Go.Own

theorem Read_far (b : Nat) (d : DM) (F : List Nat) (n : Int) (w : World) (h : DiskAt w b d F) (hin : d.inB n = false) :
    Calls Try.prog 25 #[.pointer (some ⟨b, 0, none⟩), .int .i64 n] w fun e w' => e = .returned (.tuple #[.slice none 0 0, .int .i64 4]) ∧ w = w' := by
  obtain ⟨bs, c0⟩ := h.c0
  have h256 := h.1.hi
  have hdec : decide ((0 : Int) ≤ n ∧ n < (d.secs.length : Int)) = false := hin
  clear hin h
  go_enter Try.func25, Try.ntmps25
  go_wp2_with (go_at_call 53; refine (has_any _ _ _ _ _ h256 c0).mono ?_; rintro e w' ⟨rfl, rfl⟩; rw [hdec])
  go_ret2
  exact ⟨rfl, rfl⟩
theorem Read_off (b : Nat) (d : DM) (F : List Nat) (n : Int) (w : World) (h : DiskAt w b d F) (hin : d.inB n = true) (hoff : d.off = true) :
    Calls Try.prog 25 #[.pointer (some ⟨b, 0, none⟩), .int .i64 n] w fun e w' => e = .returned (.tuple #[.slice none 0 0, .int .i64 9]) ∧ w = w' := by
  obtain ⟨bs, c0⟩ := h.c0
  have c2 := h.c2
  rw [hoff] at c2
  have h256 := h.1.hi
  have hdec : decide ((0 : Int) ≤ n ∧ n < (d.secs.length : Int)) = true := hin
  clear hin h hoff
  go_enter Try.func25, Try.ntmps25
  go_wp2_with (go_at_call 53; refine (has_any _ _ _ _ _ h256 c0).mono ?_; rintro e w' ⟨rfl, rfl⟩; rw [hdec])
  go_ret2
  exact ⟨rfl, rfl⟩

def curTo (d : DM) (n i : Nat) : List UInt8 := (d.pend.take i).foldl (fun c p => if p.1 = n then p.2 else c) (d.sec n)
theorem curTo_succ (d : DM) (n : Nat) {i : Nat} (h : i < d.pend.length) : curTo d n (i + 1) = if d.pend[i].1 = n then d.pend[i].2 else curTo d n i := by
  unfold curTo; rw [take_snoc' _ h, List.foldl_append]; rfl
theorem curTo_len {d : DM} (hw : d.Wf) {n : Nat} (hn : n < d.secs.length) (i : Nat) : (curTo d n i).length = 64 := by
  induction i with
  | zero => simp only [curTo, List.take_zero, List.foldl_nil, DM.sec]; rw [List.getElem?_eq_getElem hn]; exact hw.sec _ (List.getElem_mem hn)
  | succ i ih =>
    by_cases h : i < d.pend.length
    · rw [curTo_succ d n h]
      split
      · exact (hw.pnd _ (List.getElem_mem h)).2
      · exact ih
    · have e : curTo d n (i + 1) = curTo d n i := by
        unfold curTo; rw [List.take_of_length_le (by omega), List.take_of_length_le (by omega)]
      rw [e]; exact ih

set_option maxRecDepth 100000 in
set_option maxHeartbeats 1000000 in
theorem Read_in (b : Nat) (d : DM) (F : List Nat) (k : Nat) (w : World) (hd : DiskAt w b d F) (hk : k < d.secs.length) (hoff : d.off = false) :
    Calls Try.prog 25 #[.pointer (some ⟨b, 0, none⟩), .int .i64 k] w fun e w' => ∃ v, e = .returned (.tuple #[v, .int .i64 0]) ∧ NewB w w' v (d.cur k) ∧ Only [] w w' := by
  obtain ⟨hwf, bs, vp, vs, hraw, rfl, hnd⟩ := hd
  have c0 : w.cell? ⟨b, 0, none⟩ = some (.slice (some ⟨bs, 0, none⟩) d.secs.length d.secs.length) := by simp [World.cell?, hraw.1]
  have c1 : w.cell? ⟨b, 1, none⟩ = some vp := by simp [World.cell?, hraw.1]
  have c2 : w.cell? ⟨b, 2, none⟩ = some (.bool false) := by simp [World.cell?, hraw.1, hoff]
  have hr := hraw.range hwf hk
  have hl : (u8s d.secs[k]).length = 64 := by rw [u8s_len]; exact hwf.sec _ (List.getElem_mem hk)
  have h256 := hwf.hi
  have hz : (0 : Int) ≤ (k : Int) := by omega
  have hki : (k : Int) < (d.secs.length : Int) := by omega
  have hdec : decide ((0 : Int) ≤ (k : Int) ∧ (k : Int) < (d.secs.length : Int)) = true := by simp; omega
  have hS0 : curTo d k 0 = d.secs[k] := by simp [curTo, DM.sec, List.getElem?_eq_getElem hk]
  have hcl := curTo_len hwf hk
  have hfin : d.cur k = curTo d k d.pend.length := by simp [curTo, DM.cur]
  rw [hfin]
  obtain ⟨va, vc, rfl, hpl, hpc, hpm, _⟩ := own_sl hraw.2.2.1
  unfold maxLen at hpm
  have hpl' : d.pend.length ≤ 9223372036854775807 := by omega
  rw [← hS0] at hr hl
  have HL := Lib.hid hl
  have HCL := Lib.hid hcl
  have HPL := Lib.hid hpl
  have lb := lt_of_heap hraw.1
  clear hl hk hfin hcl hpl hS0
  go_enter Try.func25, Try.ntmps25
  go_wp2_with (first
    | (go_at_call 53; refine (has_any _ _ _ _ _ h256 c0).mono ?_; rintro e w' ⟨rfl, rfl⟩; rw [hdec])
    | ((with_reducible show wpList _ _ _ (⟨_, .load _ _, _, _, _, _⟩ :: _) _ _); refine load_row (x := .tmp 22) tSec (u8s (curTo d k 0)) rfl rfl rfl hr HL.out ?_)
    | ((with_reducible show wpList _ _ _ (⟨_, .alloc _, _, _, _, _⟩ :: _) _ _); refine alloc_row tSec rfl rfl ?_)
    | ((with_reducible show wpList _ _ _ (⟨_, .store _ _ _, _, _, _, _⟩ :: _) _ _); refine store_new (x := .tmp 6) (y := .tmp 23) tSec _ rfl rfl rfl rfl zSec_size (by simpa using HL.out) (all_oneCell_toArray (u8s_one _)) ?_))
  go_loopw [29] (fun c wr => ∃ i : Nat, i ≤ d.pend.length ∧ c = .int .i64 i ∧ Only [] w wr ∧ wr.heap[w.heap.size]? = some (.cells (u8s (curTo d k i)).toArray 112 (0, 0))) (fun c _ => d.pend.length - (intOf c).toNat)
  case atStart => exact ⟨0, Nat.zero_le _, rfl, only_alloc _ _ _, heap_alloc_new _ _⟩
  case round =>
    obtain ⟨i, hi, rfl, hon', hsec⟩ := hrel
    have lbs : w.heap.size < wr.heap.size := lt_of_heap hsec
    by_cases hlt : i < d.pend.length
    · obtain ⟨g, c, hvp, _, _⟩ := own_some hraw.2.2.1 (by omega)
      cases hvp
      have hown : wr.ownsRow 0 115 65 (.slice (some ⟨g, 0, none⟩) d.pend.length vc) d.pend.length (pcells d.pend) := own_only hraw.2.2.1 hon' (by simp)
      have hp64 : ∀ p ∈ d.pend, p.2.length = 64 := fun p hp => (hwf.pnd p hp).2
      have hrng : wr.rangeAt g (i * 65) (wcell d.pend[i]) := own_range hown rfl (by rw [wcell_len (hp64 _ (List.getElem_mem hlt)), pcells_at hp64 hlt])
      have hwl : (wcell d.pend[i]).length = 65 := wcell_len (hp64 _ (List.getElem_mem hlt))
      have hq := hwf.pnd _ (List.getElem_mem hlt)
      have hsn := curTo_succ d k hlt
      have hcl := HCL.out i
      generalize d.pend[i] = q at *
      obtain ⟨qa, qc⟩ := q
      simp only at hq hsn hrng hwl
      have hlti : (i : Int) < (d.pend.length : Int) := by omega
      have HSN := Lib.hid hsn
      have HWL := Lib.hid hwl
      have HSEC := Lib.hid hsec
      have HCLI := Lib.hid hcl
      clear hsn hwl hsec hcl
      have hq0 : (wr.alloc (.cells (wcell (qa, qc)).toArray 115)).cell? ⟨wr.heap.size, 0, none⟩ = some (.int .i64 qa) := by
        rw [cell_of_row _ _ _ _ _ _ (heap_alloc_new _ _)]; rfl
      by_cases he : qa = k
      · have hqe : ((qa : Int) == (k : Int)) = true := by simp [he]
        have HE := Lib.hid he
        clear he
        have hql : (u8s qc).length = 64 := by rw [u8s_len]; exact hq.2
        have hr2 : (wr.alloc (.cells (wcell (qa, qc)).toArray 115)).rangeAt wr.heap.size 1 (u8s qc) := range_alloc_new _ _ _ _ _ (by simp [wcell])
        have hb2 : (wr.alloc (.cells (wcell (qa, qc)).toArray 115)).heap[w.heap.size]? = some (.cells (u8s (curTo d k i)).toArray 112 (0, 0)) := by
          rw [heap_alloc_old _ _ lbs]; exact HSEC.out
        have hfit : 0 + 64 ≤ (u8s (curTo d k i)).toArray.size := by simp [u8s_len, HCLI.out]
        have HR2 := Lib.hid hr2
        have HB2 := Lib.hid hb2
        have HQL := Lib.hid hql
        have HFIT := Lib.hid hfit
        clear hr2 hb2 hql hfit
        go_wp2_with (first
          | ((with_reducible show wpList _ _ _ (⟨_, .load _ _, _, _, _, _⟩ :: _) _ _); refine load_row (x := .tmp 37) tSec (u8s qc) rfl rfl rfl HR2.out HQL.out ?_)
          | ((with_reducible show wpList _ _ _ (⟨_, .store _ _ _, _, _, _, _⟩ :: _) _ _); refine store_row (x := .tmp 6) (y := .tmp 38) tSec _ _ (u8s qc).toArray rfl rfl rfl rfl HB2.out (by simpa using HQL.out) HFIT.out (all_oneCell_toArray (u8s_one _)) ?_)
          | ((with_reducible show wpList _ _ _ (⟨_, .load _ _, _, _, _, _⟩ :: _) _ _); refine load_row (x := .tmp 31) tWrite (wcell (qa, qc)) rfl rfl rfl hrng HWL.out ?_)
          | ((with_reducible show wpList _ _ _ (⟨_, .alloc _, _, _, _, _⟩ :: _) _ _); refine alloc_row tWrite rfl rfl ?_)
          | ((with_reducible show wpList _ _ _ (⟨_, .store _ _ _, _, _, _, _⟩ :: _) _ _); refine store_new (x := .tmp 8) (y := .tmp 32) tWrite _ rfl rfl rfl rfl zWrite_size (by simpa using HWL.out) (all_oneCell_toArray (wcell_one _)) ?_))
        go_roundw
        case rel =>
          refine ⟨i + 1, by omega, by go_num, hon'.trans' ((only_alloc [w.heap.size] _ _).trans (only_setRow _ _ _ (by simp))) (fun x hx => .inr (by simp at hx; omega)), ?_⟩
          rw [setRow_heap _ _ _ _ _ _ HB2.out, HSN.out, if_pos HE.out]
          have e1 := HCLI.out
          have e2 := HQL.out
          rw [List.drop_of_length_le (by simp [u8s_len, e1]; rw [u8s_len] at e2; omega)]
          simp
        case measure => simp [intOf]; omega
      · have hqe : ((qa : Int) == (k : Int)) = false := by simp; omega
        have HE := Lib.hid he
        clear he
        go_wp2_with (first
          | ((with_reducible show wpList _ _ _ (⟨_, .load _ _, _, _, _, _⟩ :: _) _ _); refine load_row (x := .tmp 31) tWrite (wcell (qa, qc)) rfl rfl rfl hrng HWL.out ?_)
          | ((with_reducible show wpList _ _ _ (⟨_, .alloc _, _, _, _, _⟩ :: _) _ _); refine alloc_row tWrite rfl rfl ?_)
          | ((with_reducible show wpList _ _ _ (⟨_, .store _ _ _, _, _, _, _⟩ :: _) _ _); refine store_new (x := .tmp 8) (y := .tmp 32) tWrite _ rfl rfl rfl rfl zWrite_size (by simpa using HWL.out) (all_oneCell_toArray (wcell_one _)) ?_))
        go_roundw
        case rel =>
          refine ⟨i + 1, by omega, by go_num, hon'.trans (only_alloc _ _ _), ?_⟩
          rw [heap_alloc_old _ _ lbs, HSEC.out, HSN.out, if_neg HE.out]
        case measure => simp [intOf]; omega
    · have he : i = d.pend.length := by omega
      subst he
      have HSEC := Lib.hid hsec
      clear hsec
      go_wp2
      go_ret2
      have hcl := HCL.out d.pend.length
      exact ⟨.slice (some ⟨w.heap.size, 0, none⟩) 64 64, rfl, ⟨112, by simp [u8s_len], .inr ⟨w.heap.size, 64, _, by rw [hcl], Nat.le_refl _, HSEC.out, by omega, by decide, by simp [u8s_len, hcl], by rw [List.take_of_length_le]; simp [u8s_len]⟩⟩, hon'⟩
end Go.Proofs.Yteoopnhogfjeaaa

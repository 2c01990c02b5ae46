/- Contracts of the disk's functions: the power fails. -/
import Derived.Test.YteoopnhogfjeaaaDisk
set_option linter.unusedSimpArgs false
set_option linter.unusedVariables false
namespace Go.Proofs.Yteoopnhogfjeaaa
open Go Go.RowKit Go.Own

theorem layS_wf {d : DM} (hwf : d.Wf) (i : Nat) (sv : List Bool) : (∀ x ∈ layS d.secs (d.pend.take i) sv, x.length = 64) ∧ (layS d.secs (d.pend.take i) sv).length = d.secs.length :=
  ⟨layS_64 _ _ _ hwf.sec (fun q hq => (hwf.pnd q (List.mem_of_mem_take hq)).2), layS_len _ _ _⟩

set_option maxRecDepth 100000 in
set_option maxHeartbeats 1000000 in
theorem crash_raw (b : Nat) (d : DM) (bs : Nat) (vp vs : Value) (vsv : Value) (sv : List Bool) (w : World) (hwf : d.Wf) (hraw : DiskRaw w b d bs vp vs) (hnd : (dfoot b bs vp vs).Nodup)
    (hon : d.off = false) (hst : Stable w [b, bs] vsv 1 sv.length (sv.map Value.bool)) :
    Calls Try.prog 20 #[.pointer (some ⟨b, 0, none⟩), vsv] w fun e w' => e = .returned (.tuple #[]) ∧ DiskRaw w' b (d.crash sv) bs (.slice none 0 0) (.slice none 0 0) ∧ Only [b, bs] w w' := by
  have c0 : w.cell? ⟨b, 0, none⟩ = some (.slice (some ⟨bs, 0, none⟩) d.secs.length d.secs.length) := by simp [World.cell?, hraw.1]
  have c1 : w.cell? ⟨b, 1, none⟩ = some vp := by simp [World.cell?, hraw.1]
  have c2 : w.cell? ⟨b, 2, none⟩ = some (.bool false) := by simp [World.cell?, hraw.1, hon]
  obtain ⟨va, vc, rfl, hpl, hpc, hpm, _⟩ := own_sl hraw.2.2.1
  obtain ⟨sa, sc, rfl, hsvl, hsc, hsm, hscell⟩ := hst.now
  unfold maxLen at hpm hsm
  have HST := Lib.hid hst
  clear hst
  have hb256 := hwf.hi
  have hpl' : d.pend.length ≤ 9223372036854775807 := by omega
  have nb : b ≠ bs := by
    intro e; subst e; simp [dfoot] at hnd
  go_enter Try.func20, Try.ntmps20
  go_wp2
  go_loopw [15] (fun c wr => ∃ i : Nat, i ≤ d.pend.length ∧ c = .int .i64 i ∧ Only [bs] w wr ∧ wr.heap[bs]? = some (.cells (u8s (layS d.secs (d.pend.take i) sv).flatten).toArray 112 (0, 0))) (fun c _ => d.pend.length - (intOf c).toNat)
  case atStart => exact ⟨0, Nat.zero_le _, rfl, Only.refl _ _, by simpa [layS] using hraw.2.1⟩
  case round =>
    obtain ⟨i, hi, rfl, hon', hsec⟩ := hrel
    have hwb : wr.heap[b]? = w.heap[b]? := hon'.block b (lt_of_heap hraw.1) (by simp [nb])
    have c0' : wr.cell? ⟨b, 0, none⟩ = some (.slice (some ⟨bs, 0, none⟩) d.secs.length d.secs.length) := by rw [World.cell?_of_block (w := w) hwb]; exact c0
    have lb : b < wr.heap.size := Nat.lt_of_lt_of_le (lt_of_heap hraw.1) hon'.size
    have lbs : bs < wr.heap.size := lt_of_heap hsec
    by_cases hlt : i < d.pend.length
    · obtain ⟨g, c, hvp, _, _⟩ := own_some hraw.2.2.1 (by omega)
      cases hvp
      have hgn : g ≠ bs := by intro e; subst e; simp [dfoot, Value.ownBlock] at hnd
      have hown : wr.ownsRow 0 115 65 (.slice (some ⟨g, 0, none⟩) d.pend.length vc) d.pend.length (pcells d.pend) := own_only hraw.2.2.1 hon' (by intro k hk; cases hk; simp [hgn])
      have hp64 : ∀ p ∈ d.pend, p.2.length = 64 := fun p hp => (hwf.pnd p hp).2
      have hrng : wr.rangeAt g (i * 65) (wcell d.pend[i]) := own_range hown rfl (by rw [wcell_len (hp64 _ (List.getElem_mem hlt)), pcells_at hp64 hlt])
      have hwl : (wcell d.pend[i]).length = 65 := wcell_len (hp64 _ (List.getElem_mem hlt))
      have hq := hwf.pnd _ (List.getElem_mem hlt)
      have hsn := layS_snoc d.secs (d.pend.take i) d.pend[i] sv
      rw [← take_snoc' _ hlt, List.length_take, Nat.min_eq_left (by omega)] at hsn
      obtain ⟨w64, wlen⟩ := layS_wf hwf i sv
      generalize layS d.secs (d.pend.take i) sv = L at *
      generalize d.pend[i] = q at *
      obtain ⟨qa, qc⟩ := q
      simp only at hq hsn hrng hwl
      have HSN := Lib.hid hsn
      have HWL := Lib.hid hwl
      have HSEC := Lib.hid hsec
      clear hsn hwl hsec hpl hsvl
      have hlti : (i : Int) < (d.pend.length : Int) := by omega
      have hqa0 : (0 : Int) ≤ (qa : Int) := by omega
      have hqa1 : (qa : Int) < (d.secs.length : Int) := by omega
      by_cases hsv : i < sv.length
      · obtain ⟨g2, o2, c2', hv2, _, _, hg2lt, hcells⟩ := sl_some (sz := 1) (HST.out wr (hon'.mono (fun x hx => .inl (by simp at hx; simp [hx])))) (by omega) (by omega)
        cases hv2
        have csv : wr.cell? ⟨g2, o2 + i, none⟩ = some (.bool sv[i]) := hcells i (.bool sv[i]) (by simp [hsv])
        have lg2 : g2 < wr.heap.size := hg2lt
        have hsvi : (i : Int) < (sv.length : Int) := by omega
        have hd1 : decide (i < sv.length) = true := by simpa using hsv
        have hget : sv[i]?.getD false = sv[i] := by simp [hsv]
        have HGET := Lib.hid hget
        clear hget hcells
        cases hb2 : sv[i] with
        | false =>
          rw [hb2] at csv
          have HB2 := Lib.hid hb2
          clear hb2
          go_wp2_with (first
          | (refine load_row (x := .tmp 18) tWrite (wcell (qa, qc)) rfl rfl rfl hrng HWL.out ?_)
          | (refine alloc_row tWrite rfl rfl ?_)
          | (refine store_new tWrite _ rfl rfl rfl rfl zWrite_size (by simpa using HWL.out) (all_oneCell_toArray (wcell_one _)) ?_))
          go_roundw
          case rel =>
            refine ⟨i + 1, by omega, by go_num, hon'.trans (only_alloc _ _ _), ?_⟩
            rw [heap_alloc_old _ _ lbs, HSEC.out, HSN.out, HGET.out, HB2.out]
            rfl
          case measure => simp [intOf]; omega
        | true =>
          rw [hb2] at csv
          have HB2 := Lib.hid hb2
          clear hb2
          go_wp2_with (first
          | (refine load_row (x := .tmp 18) tWrite (wcell (qa, qc)) rfl rfl rfl hrng HWL.out ?_)
          | (refine alloc_row tWrite rfl rfl ?_)
          | (refine store_new tWrite _ rfl rfl rfl rfl zWrite_size (by simpa using HWL.out) (all_oneCell_toArray (wcell_one _)) ?_))
          have hfz := wr.heap.size
          have hset : u8s ((L.set qa qc).flatten) = (u8s L.flatten).take (qa * 64) ++ u8s qc ++ (u8s L.flatten).drop (qa * 64 + 64) := by
            rw [← flat_set w64 (by omega) qc hq.2]
            simp [u8s]
          have HSET := Lib.hid hset
          clear hset
          generalize hW : wr.alloc (.cells (wcell (qa, qc)).toArray 115) = W
          have k0 : W.cell? ⟨b, 0, none⟩ = some (.slice (some ⟨bs, 0, none⟩) d.secs.length d.secs.length) := by
            rw [← hW, World.cell?_of_block (w := wr) (heap_alloc_old _ _ lb)]; exact c0'
          have k1 : W.cell? ⟨wr.heap.size, 0, none⟩ = some (.int .i64 qa) := by
            rw [← hW, cell_of_row _ _ _ _ _ _ (heap_alloc_new _ _)]; rfl
          have k2 : W.rangeAt wr.heap.size 1 (u8s qc) := by
            rw [← hW]; exact range_alloc_new _ _ _ _ _ (by simp [wcell])
          have k3 : W.heap[bs]? = some (.cells (u8s L.flatten).toArray 112 (0, 0)) := by
            rw [← hW, heap_alloc_old _ _ lbs]; exact HSEC.out
          have k4 : Only [bs] w W := by rw [← hW]; exact hon'.trans (only_alloc _ _ _)
          have hql : (u8s qc).length = 64 := by rw [u8s_len]; exact hq.2
          have hfl : qa * 64 + 64 ≤ (u8s L.flatten).toArray.size := by
            simp only [List.size_toArray, u8s_len, flat_len w64]; omega
          have K2 := Lib.hid k2
          have K3 := Lib.hid k3
          have HQL := Lib.hid hql
          have HFL := Lib.hid hfl
          clear hW k2 k3 hql hfl hfz hrng c0'
          generalize wr.heap.size = nb at *
          refine Reg.region1d [0, 0, 0, 1, 0, 1, 0, 1, 0, 3] [0, 1, 3, 7, 0, 16, 0, 64, 255, 511] (by kernel_rfl) ?_
          intro Qr hQr
          go_wp2_with (first
            | (refine load_row (x := .tmp 36) tSec (u8s qc) rfl rfl rfl K2.out HQL.out ?_)
            | (refine store_row (x := .tmp 38) (y := .tmp 37) tSec _ _ _ rfl rfl rfl rfl K3.out (by simpa using HQL.out) HFL.out (all_oneCell_toArray (u8s_one _)) ?_))
          refine ⟨by rfl, ?_⟩
          go_wp2
          go_roundw
          case rel =>
            refine ⟨i + 1, by omega, by go_num, k4.trans' ((only_drew _ _).trans (only_setRow _ _ _ (List.mem_singleton.2 rfl))) (fun _ h => .inl h), ?_⟩
            rw [HSN.out, HGET.out, HB2.out, if_pos rfl, HSET.out]
            have := setRow_heap W.drew bs _ ((List.take (qa * 64) (u8s L.flatten)) ++ u8s qc ++ List.drop (qa * 64 + 64) (u8s L.flatten)).toArray _ _ K3.out
            have e := HQL.out
            simpa [e] using this
          case measure => simp [intOf]; omega
      · have hd1 : decide (i < sv.length) = false := by simpa using hsv
        go_wp2_with (first
          | (refine load_row (x := .tmp 18) tWrite (wcell (qa, qc)) rfl rfl rfl hrng HWL.out ?_)
          | (refine alloc_row tWrite rfl rfl ?_)
          | (refine store_new tWrite _ rfl rfl rfl rfl zWrite_size (by simpa using HWL.out) (all_oneCell_toArray (wcell_one _)) ?_))
        go_roundw
        case rel =>
          refine ⟨i + 1, by omega, by go_num, hon'.trans (only_alloc _ _ _), ?_⟩
          rw [heap_alloc_old _ _ lbs, HSEC.out, HSN.out]
          simp [List.getElem?_eq_none (Nat.le_of_not_lt hsv)]
        case measure => simp [intOf]; omega
    · have he : i = d.pend.length := by omega
      subst he
      rw [List.take_length] at hsec
      have hwb' := hwb.trans hraw.1
      have k1 : wr.cell? ⟨b, 1, none⟩ = some (.slice va d.pend.length vc) := by simp [World.cell?, hwb']
      have k2 : wr.cell? ⟨b, 2, none⟩ = some (.bool d.off) := by simp [World.cell?, hwb']
      have kf : ∀ o, wr.frozen? ⟨b, o, none⟩ = false := by simp [World.frozen?, hwb']
      have HWB := Lib.hid hwb'
      have HSEC := Lib.hid hsec
      clear hwb hwb' hsec
      have h1 := heap_setCell_same wr b 1 _ _ (.slice none 0 0) HWB.out
      have h2 := heap_setCell_same _ b 2 _ _ (.bool true) h1
      have H2 := Lib.hid h2
      clear h1 h2
      go_wp2_with fail
      refine (disarm_any b _ _ _ _ _ _ _ _ H2.out).mono ?_
      rintro e w' ⟨rfl, rfl⟩
      go_wp2
      go_end0
      have hc : d.crash sv = { secs := layS d.secs d.pend sv, pend := [], off := true, armed := false, left := 0, surv := [] } := by simp [DM.crash, hon]
      have ho : Only [b, bs] wr ((wr.setCell ⟨b, 1, none⟩ (.slice none 0 0)).setCell ⟨b, 2, none⟩ (.bool true)) := (only_setCell _ _ _ (by simp)).trans (only_setCell _ _ _ (by simp))
      refine ⟨rfl, ⟨?_, ?_, ?_, ?_⟩, (hon'.mono (fun x hx => .inl (by simp at hx; simp [hx]))).trans (ho.trans (only_setRow _ _ _ (by simp)))⟩
      · rw [setRow_heap _ _ _ _ _ _ H2.out, hc]
        simp [layS_len]
      · rw [setRow_other _ _ _ _ (Ne.symm nb), heap_setCell_other _ _ _ _ (Ne.symm nb), heap_setCell_other _ _ _ _ (Ne.symm nb), HSEC.out, hc]
      · rw [hc]; exact World.ownsRow_nil _ _ _ _
      · rw [hc]; exact World.ownsRow_nil _ _ _ _
end Go.Proofs.Yteoopnhogfjeaaa

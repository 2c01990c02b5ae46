/- Contracts of the disk's functions: Flush. -/
import Derived.Test.YteoopnhogfjeaaaDiskC
set_option linter.unusedSimpArgs false
set_option linter.unusedVariables false
namespace Go.Proofs.Yteoopnhogfjeaaa
open Go Go.RowKit Go.Own

theorem foot_nil_p {b bs : Nat} {vp vs : Value} (h : (dfoot b bs vp vs).Nodup) : (dfoot b bs (.slice none 0 0) vs).Nodup :=
  h.sublist (((List.sublist_append_right vp.ownBlock.toList vs.ownBlock.toList).cons_cons bs).cons_cons b)

theorem foot_set_p {b bs : Nat} {vp vs : Value} (h : (dfoot b bs vp vs).Nodup) {g n c : Nat} (h1 : g ≠ b) (h2 : g ≠ bs) (h3 : vs.ownBlock ≠ some g) : (dfoot b bs (.slice (some ⟨g, 0, none⟩) n c) vs).Nodup := by
  have h' : (b :: bs :: ([] ++ vs.ownBlock.toList)).Nodup := foot_nil_p h
  show (b :: bs :: ([g] ++ vs.ownBlock.toList)).Nodup
  cases hv : vs.ownBlock with
  | none => rw [hv] at h'; simp at h' ⊢; exact ⟨⟨h', Ne.symm h1⟩, Ne.symm h2⟩
  | some k =>
    have h3' : g ≠ k := fun e => h3 (by rw [hv, e])
    rw [hv] at h'; simp at h' ⊢
    exact ⟨⟨h'.1.1, Ne.symm h1, h'.1.2⟩, ⟨Ne.symm h2, h'.2⟩, h3'⟩

theorem DiskTo.trans {w w1 w2 : World} {b : Nat} {d2 : DM} {F F1 : List Nat} (h1 : Only F w w1) (hf : FootOk w F F1) (h2 : DiskTo w1 w2 b d2 F1) : DiskTo w w2 b d2 F := by
  obtain ⟨F2, ha, hb, hc⟩ := h2
  refine ⟨F2, ha, fun k hk => ?_, h1.trans' hc hf⟩
  rcases hb k hk with h | h
  · exact hf k h
  · right; exact Nat.le_trans h1.size h

set_option maxRecDepth 100000 in
set_option maxHeartbeats 1000000 in
theorem Flush_at (b : Nat) (d : DM) (F : List Nat) (w : World) (h : DiskAt w b d F) :
    Calls Try.prog 21 #[.pointer (some ⟨b, 0, none⟩)] w fun e w' => e = .returned (.int .i64 d.flush.2) ∧ DiskTo w w' b d.flush.1 F := by
  have hpw := powered_at b d F w h
  cases hp2 : d.powered.2 with
  | false =>
    have hf : d.flush = (d.powered.1, 9) := by simp [DM.flush, hp2]
    rw [hf]
    rw [hp2] at hpw
    have HP := Lib.hid hpw
    clear hpw hp2 hf
    go_enter Try.func21, Try.ntmps21
    go_wp2_with (go_at_call 56; refine HP.out.mono ?_; rintro e w' ⟨rfl, hto⟩; have HT := Lib.hid hto; clear hto)
    go_ret
    exact ⟨rfl, HT.out⟩
  | true =>
    have hf : d.flush = ({ d.powered.1 with secs := layAll d.powered.1.secs d.powered.1.pend, pend := [] }, 0) := by simp [DM.flush, hp2]
    have hfw := h.1.flush
    rw [hf] at hfw ⊢
    rw [hp2] at hpw
    clear hp2 hf
    generalize d.powered.1 = d1 at *
    have HP := Lib.hid hpw
    clear hpw
    go_enter Try.func21, Try.ntmps21
    go_wp2_with fail
    refine HP.out.mono ?_
    rintro e w1 ⟨rfl, F1, hd1, hf1, ho1⟩
    obtain ⟨hwf, bs, vp, vs, hraw, rfl, hnd⟩ := hd1
    clear h HP
    have c0 : w1.cell? ⟨b, 0, none⟩ = some (.slice (some ⟨bs, 0, none⟩) d1.secs.length d1.secs.length) := by simp [World.cell?, hraw.1]
    have c1 : w1.cell? ⟨b, 1, none⟩ = some vp := by simp [World.cell?, hraw.1]
    obtain ⟨va, vc, rfl, hpl, hpc, hpm, _⟩ := own_sl hraw.2.2.1
    unfold maxLen at hpm
    have hb256 := hwf.hi
    have hpl' : d1.pend.length ≤ 9223372036854775807 := by omega
    have nb : b ≠ bs := by
      intro e; subst e; simp [dfoot] at hnd
    have HPL := Lib.hid hpl
    clear hpl
    go_wp2_with fail
    go_loopw [13] (fun c wr => ∃ i : Nat, i ≤ d1.pend.length ∧ c = .int .i64 i ∧ Only [bs] w1 wr ∧ wr.heap[bs]? = some (.cells (u8s (layAll d1.secs (d1.pend.take i)).flatten).toArray 112 (0, 0))) (fun c _ => d1.pend.length - (intOf c).toNat)
    case atStart => exact ⟨0, Nat.zero_le _, rfl, Only.refl _ _, by simpa [layAll] using hraw.2.1⟩
    case round =>
      obtain ⟨i, hi, rfl, hon', hsec⟩ := hrel
      have hwb : wr.heap[b]? = w1.heap[b]? := hon'.block b (lt_of_heap hraw.1) (by simp [nb])
      have c0' : wr.cell? ⟨b, 0, none⟩ = some (.slice (some ⟨bs, 0, none⟩) d1.secs.length d1.secs.length) := by rw [World.cell?_of_block (w := w1) hwb]; exact c0
      have lb : b < wr.heap.size := Nat.lt_of_lt_of_le (lt_of_heap hraw.1) hon'.size
      have lbs : bs < wr.heap.size := lt_of_heap hsec
      by_cases hlt : i < d1.pend.length
      · obtain ⟨g, c, hvp, _, _⟩ := own_some hraw.2.2.1 (by omega)
        cases hvp
        have hgn : g ≠ bs := by intro e; subst e; simp [dfoot, Value.ownBlock] at hnd
        have hown : wr.ownsRow 0 115 65 (.slice (some ⟨g, 0, none⟩) d1.pend.length vc) d1.pend.length (pcells d1.pend) := own_only hraw.2.2.1 hon' (by intro k hk; cases hk; simp [hgn])
        have hp64 : ∀ p ∈ d1.pend, p.2.length = 64 := fun p hp => (hwf.pnd p hp).2
        have hrng : wr.rangeAt g (i * 65) (wcell d1.pend[i]) := own_range hown rfl (by rw [wcell_len (hp64 _ (List.getElem_mem hlt)), pcells_at hp64 hlt])
        have hwl : (wcell d1.pend[i]).length = 65 := wcell_len (hp64 _ (List.getElem_mem hlt))
        have hq := hwf.pnd _ (List.getElem_mem hlt)
        have hsn := layAll_snoc d1.secs (d1.pend.take i) d1.pend[i]
        rw [← take_snoc' _ hlt] at hsn
        have w64 : ∀ x ∈ layAll d1.secs (d1.pend.take i), x.length = 64 := layAll_64 _ _ hwf.sec (fun q hq => hp64 q (List.mem_of_mem_take hq))
        have wlen : (layAll d1.secs (d1.pend.take i)).length = d1.secs.length := layAll_len _ _
        generalize layAll d1.secs (d1.pend.take i) = L at *
        generalize d1.pend[i] = q at *
        obtain ⟨qa, qc⟩ := q
        simp only at hq hsn hrng hwl
        have HSN := Lib.hid hsn
        have HWL := Lib.hid hwl
        have HSEC := Lib.hid hsec
        clear hsn hwl hsec
        have hlti : (i : Int) < (d1.pend.length : Int) := by omega
        have hqa0 : (0 : Int) ≤ (qa : Int) := by omega
        have hqa1 : (qa : Int) < (d1.secs.length : Int) := by omega
        go_wp2_with (first
          | (refine load_row (x := .tmp 15) tWrite (wcell (qa, qc)) rfl rfl rfl hrng HWL.out ?_)
          | (refine alloc_row tWrite rfl rfl ?_)
          | (refine store_new tWrite _ rfl rfl rfl rfl zWrite_size (by simpa using HWL.out) (all_oneCell_toArray (wcell_one _)) ?_))
        have hset : u8s ((L.set qa qc).flatten) = (u8s L.flatten).take (qa * 64) ++ u8s qc ++ (u8s L.flatten).drop (qa * 64 + 64) := by
          rw [← flat_set w64 (by omega) qc hq.2]
          simp [u8s]
        have HSET := Lib.hid hset
        clear hset
        generalize hW : wr.alloc (.cells (wcell (qa, qc)).toArray 115) = W
        have k0 : W.cell? ⟨b, 0, none⟩ = some (.slice (some ⟨bs, 0, none⟩) d1.secs.length d1.secs.length) := by
          rw [← hW, World.cell?_of_block (w := wr) (heap_alloc_old _ _ lb)]; exact c0'
        have k1 : W.cell? ⟨wr.heap.size, 0, none⟩ = some (.int .i64 qa) := by
          rw [← hW, cell_of_row _ _ _ _ _ _ (heap_alloc_new _ _)]; rfl
        have k2 : W.rangeAt wr.heap.size 1 (u8s qc) := by
          rw [← hW]; exact range_alloc_new _ _ _ _ _ (by simp [wcell])
        have k3 : W.heap[bs]? = some (.cells (u8s L.flatten).toArray 112 (0, 0)) := by
          rw [← hW, heap_alloc_old _ _ lbs]; exact HSEC.out
        have k4 : Only [bs] w1 W := by rw [← hW]; exact hon'.trans (only_alloc _ _ _)
        have hql : (u8s qc).length = 64 := by rw [u8s_len]; exact hq.2
        have hfl : qa * 64 + 64 ≤ (u8s L.flatten).toArray.size := by
          simp only [List.size_toArray, u8s_len, flat_len w64]; omega
        have K2 := Lib.hid k2
        have K3 := Lib.hid k3
        have HQL := Lib.hid hql
        have HFL := Lib.hid hfl
        clear hW k2 k3 hql hfl hrng c0'
        generalize wr.heap.size = nb at *
        refine Reg.region1d [0, 0, 0, 1, 0, 1, 0, 1, 0, 3] [0, 1, 3, 7, 0, 16, 0, 64, 255, 511] (by kernel_rfl) ?_
        intro Qr hQr
        go_wp2_with (first
          | (refine load_row (x := .tmp 23) tSec (u8s qc) rfl rfl rfl K2.out HQL.out ?_)
          | (refine store_row (x := .tmp 25) (y := .tmp 24) tSec _ _ _ rfl rfl rfl rfl K3.out (by simpa using HQL.out) HFL.out (all_oneCell_toArray (u8s_one _)) ?_))
        refine ⟨by rfl, ?_⟩
        go_wp2
        go_roundw
        case rel =>
          refine ⟨i + 1, by omega, by go_num, k4.trans' ((only_drew _ _).trans (only_setRow _ _ _ (List.mem_singleton.2 rfl))) (fun _ h => .inl h), ?_⟩
          rw [HSN.out, HSET.out]
          have := setRow_heap W.drew bs _ ((List.take (qa * 64) (u8s L.flatten)) ++ u8s qc ++ List.drop (qa * 64 + 64) (u8s L.flatten)).toArray _ _ K3.out
          have e := HQL.out
          simpa [e] using this
        case measure => simp [intOf]; omega
      · have he : i = d1.pend.length := by omega
        subst he
        rw [List.take_length] at hsec
        have hwb' := hwb.trans hraw.1
        have k1 : wr.cell? ⟨b, 1, none⟩ = some (.slice va d1.pend.length vc) := by simp [World.cell?, hwb']
        have kf : ∀ o, wr.frozen? ⟨b, o, none⟩ = false := by simp [World.frozen?, hwb']
        have HWB := Lib.hid hwb'
        have HSEC := Lib.hid hsec
        clear hwb hwb' hsec
        have h1 := heap_setCell_same wr b 1 _ _ (.slice none 0 0) HWB.out
        have H1 := Lib.hid h1
        clear h1
        go_wp2
        go_ret
        have hn' := hnd
        simp only [dfoot, List.nodup_cons, List.mem_cons, List.mem_append, Option.mem_toList, not_or] at hn'
        have hvs : wr.ownsRow 0 4 1 vs d1.surv.length (d1.surv.map Value.bool) := own_only hraw.2.2.2 hon' (fun k hk e => by simp at e; exact hn'.2.1.2 (e ▸ hk))
        have hnd2 : (dfoot b bs (.slice none 0 0) vs).Nodup := foot_nil_p hnd
        refine ⟨rfl, DiskTo.trans ho1 hf1 ⟨dfoot b bs (.slice none 0 0) vs, ⟨hfw, bs, _, vs, ⟨?_, ?_, ?_, ?_⟩, rfl, hnd2⟩, fun k hk => .inl ?_, ?_⟩⟩
        · rw [H1.out]; simp [layAll_len]
        · rw [heap_setCell_other _ _ _ _ (Ne.symm nb), HSEC.out]
        · exact World.ownsRow_nil _ _ _ _
        · exact own_setCell hvs _ hn'.1.2.2
        · simp only [dfoot, Value.ownBlock, Option.toList, List.nil_append, List.mem_cons] at hk ⊢
          rcases hk with h | h | h
          · exact .inl h
          · exact .inr (.inl h)
          · exact .inr (.inr (by simp only [List.mem_append]; exact .inr h))
        · exact (hon'.mono (fun x hx => .inl (by simp at hx; simp [hx, dfoot]))).trans (only_setCell _ _ _ (by simp [dfoot]))
end Go.Proofs.Yteoopnhogfjeaaa

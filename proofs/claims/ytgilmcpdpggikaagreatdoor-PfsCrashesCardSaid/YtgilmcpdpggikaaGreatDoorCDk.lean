/- Squeezed copy of the texts Dk. -/
import Derived.Test.YtgilmcpdpggikaaGreatDoorRows
import Derived.Test.YtgilmcpdpggikaaGreatDoorCK2
import Derived.Test.YtgilmcpdpggikaaGreatDoorCTy
import Derived.Test.YtgilmcpdpggikaaGreatDoorCK3
set_option maxRecDepth 100000
set_option maxHeartbeats 1000000
set_option linter.unusedSimpArgs false
set_option linter.unusedVariables false
namespace Go.Proofs.YtgilmcpdpggikaaGreatDoor
open Go Go.RowKit Go.Own
def zSec : Array Value := Array.replicate 64 (.int .u8 0)
def zWrite : Array Value := #[.int .i64 0] ++ Array.replicate 64 (.int .u8 0)
theorem zSec_size : zSec.size = 64 := by simp [zSec]
theorem zWrite_size : zWrite.size = 65 := by simp [zWrite]
theorem tSec : RowT Tryz.prog 133 64 zSec := ⟨⟨_, Tryz.underlying133, rfl⟩, by kernel_rfl, by kernel_rfl, zSec_size⟩
theorem tWrite : RowT Tryz.prog 135 65 zWrite := ⟨⟨_, Tryz.underlying135, rfl⟩, by kernel_rfl, by kernel_rfl, zWrite_size⟩
def DiskRaw (w : World) (b : Nat) (d : DM) (bs : Nat) (vp vs : Value) : Prop :=
 w.heap[b]? = some (.cells #[.slice (some ⟨bs, 0, none⟩) d.secs.length d.secs.length, vp, .bool d.off, .bool d.armed, .int .i64 d.left, vs] 131 (0, 0)) ∧
 w.heap[bs]? = some (.cells (u8s d.secs.flatten).toArray 133 (0, 0)) ∧
 w.ownsRow 0 135 65 vp d.pend.length (pcells d.pend) ∧
 w.ownsRow 0 4 1 vs d.surv.length (d.surv.map Value.bool)
def dfoot (b bs : Nat) (vp vs : Value) : List Nat := b :: bs :: (vp.ownBlock.toList ++ vs.ownBlock.toList)
def DiskAt (w : World) (b : Nat) (d : DM) (F : List Nat) : Prop :=
 d.Wf ∧ ∃ bs vp vs, DiskRaw w b d bs vp vs ∧ F = dfoot b bs vp vs ∧ F.Nodup
theorem has_any (b n : Nat) (at_ : Int) (bs : Nat) (w : World) (hn : n ≤ 256)
  (h0 : w.cell? ⟨b, 0, none⟩ = some (.slice (some ⟨bs, 0, none⟩) n n)) :
  Calls Tryz.prog 130 #[.pointer (some ⟨b, 0, none⟩), .int .i64 at_] w fun e w' => e = .returned (.bool (decide (0 ≤ at_ ∧ at_ < n))) ∧ w = w' := by
 go_enter Tryz.func130, Tryz.ntmps130
 go_wp2
 ·go_ret
  simp [*]
 ·go_ret
  simp; omega
theorem size_any (b n : Nat) (bs : Nat) (w : World) (h0 : w.cell? ⟨b, 0, none⟩ = some (.slice (some ⟨bs, 0, none⟩) n n)) :
  Calls Tryz.prog 64 #[.pointer (some ⟨b, 0, none⟩)] w fun e w' => e = .returned (.int .i64 n) ∧ w = w' := by
 go_enter Tryz.func64, Tryz.ntmps64
 go_wp2
 go_ret
 exact ⟨rfl, rfl⟩
theorem disarm_any (b : Nat) (v0 v1 v2 v3 v4 v5 : Value) (t : TypeId) (w : World) (hb : w.heap[b]? = some (.cells #[v0, v1, v2, v3, v4, v5] t (0, 0))) :
  Calls Tryz.prog 61 #[.pointer (some ⟨b, 0, none⟩)] w fun e w' => e = .returned (.tuple #[]) ∧ w' = w.setRow b #[v0, v1, v2, .bool false, .int .i64 0, .slice none 0 0] := by
 have c3 : w.cell? ⟨b, 3, none⟩ = some v3 := by simp [World.cell?, hb]
 have c4 : w.cell? ⟨b, 4, none⟩ = some v4 := by simp [World.cell?, hb]
 have c5 : w.cell? ⟨b, 5, none⟩ = some v5 := by simp [World.cell?, hb]
 have fz : ∀ o, w.frozen? ⟨b, o, none⟩ = false := by simp [World.frozen?, hb]
 have HB := Lib.hid hb
 clear hb
 go_enter Tryz.func61, Tryz.ntmps61
 go_wp2
 go_end0
 refine ⟨rfl, ?_⟩
 have hb := HB.out
 rw [setCell_eq_setRow _ b 3 _ _ _ _ hb, setCell_eq_setRow _ b 4 _ _ _ _ (setRow_heap _ _ _ _ _ _ hb), setRow_setRow, setCell_eq_setRow _ b 5 _ _ _ _ (setRow_heap _ _ _ _ _ _ hb), setRow_setRow]
 rfl
def NewB (w w' : World) (v : Value) (l : List UInt8) : Prop := ∃ e, w'.ownsRow w.heap.size e 1 v l.length (u8s l)
theorem DiskRaw.range {w : World} {b : Nat} {d : DM} {bs : Nat} {vp vs : Value} (h : DiskRaw w b d bs vp vs) (hw : d.Wf) {k : Nat} (hk : k < d.secs.length) : w.rangeAt bs (k * 64) (u8s d.secs[k]) := by
 refine range_of_block h.2.1 ?_
 rw [u8s_len, hw.sec _ (List.getElem_mem hk)]
 simp only [u8s, ← List.map_drop, ← List.map_take]
 rw [flat_at hw.sec hk]
theorem own_range {w : World} {e : TypeId} {sz : Nat} {v : Value} {n : Nat} {xs : List Value} {g c : Nat} (h : w.ownsRow 0 e sz v n xs) (hv : v = .slice (some ⟨g, 0, none⟩) n c) {off : Nat} {cs : List Value} (hc : (xs.drop off).take cs.length = cs) : w.rangeAt g off cs := by
 rcases h.2 with ⟨rfl, _⟩ | ⟨g', cap, cur, rfl, _, hg, _, _, _, htake⟩
 ·cases hv
 ·cases hv
  intro j u hu
  rw [cell_of_row w g (off + j) cur e (0, 0) hg]
  have hj : j < cs.length := (List.getElem?_eq_some_iff.1 hu).1
  rw [← hc, List.getElem?_take_of_lt hj, List.getElem?_drop, ← htake, List.getElem?_take] at hu
  split at hu
  ·simpa using hu
  ·cases hu
theorem own_some {w : World} {e : TypeId} {sz : Nat} {v : Value} {n : Nat} {xs : List Value} (h : w.ownsRow 0 e sz v n xs) (hn : 0 < n) : ∃ g c, v = .slice (some ⟨g, 0, none⟩) n c ∧ n ≤ c ∧ c ≤ maxLen := by
 rcases h.2 with ⟨_, h0⟩ | ⟨g, cap, cur, rfl, _, hg, h1, h2, _, _⟩
 ·omega
 ·exact ⟨g, cap, rfl, h1, h2⟩
theorem range_alloc_new (w : World) (cs : List Value) (t : TypeId) (off : Nat) (xs : List Value) (h : (cs.drop off).take xs.length = xs) : (w.alloc (.cells cs.toArray t)).rangeAt w.heap.size off xs :=
 range_of_block (heap_alloc_new w _) (by simpa using h)
theorem sl_some {w : World} {v : Value} {sz n : Nat} {xs : List Value} (h : Sl w v sz n xs) (hn : 0 < n) (hz : 0 < sz) : ∃ g o c, v = .slice (some ⟨g, o, none⟩) n c ∧ n ≤ c ∧ c ≤ maxLen ∧ g < w.heap.size ∧ ∀ j x, xs[j]? = some x → w.cell? ⟨g, o + j, none⟩ = some x := by
 obtain ⟨a, c, rfl, h1, h2, h3, h4⟩ := h
 have hne : 0 < xs.length := by rw [h1]; exact Nat.mul_pos hn hz
 obtain ⟨⟨g, o, sp⟩, rfl, hc⟩ := h4 0 xs[0] (by simp [hne])
 have hsp : sp = none := by simpa [Addr.add] using World.cell?_spot hc
 subst hsp
 refine ⟨g, o, c, rfl, h2, h3, by have := World.block_lt_of_cell? w _ hc; rwa [Reg.add_block] at this, fun j x hx => ?_⟩
 obtain ⟨ad, ha, hcj⟩ := h4 j x hx
 cases ha
 rwa [Addr.add_mid] at hcj
theorem layS_wf {d : DM} (hwf : d.Wf) (i : Nat) (sv : List Bool) : (∀ x ∈ layS d.secs (d.pend.take i) sv, x.length = 64) ∧ (layS d.secs (d.pend.take i) sv).length = d.secs.length :=
 ⟨layS_64 _ _ _ hwf.sec (fun q hq => (hwf.pnd q (List.mem_of_mem_take hq)).2), layS_len _ _ _⟩
theorem crash_raw (b : Nat) (d : DM) (bs : Nat) (vp vs : Value) (vsv : Value) (sv : List Bool) (w : World) (hwf : d.Wf) (hraw : DiskRaw w b d bs vp vs) (hnd : (dfoot b bs vp vs).Nodup)
  (hon : d.off = false) (hst : Stable w [b, bs] vsv 1 sv.length (sv.map Value.bool)) :
  Calls Tryz.prog 33 #[.pointer (some ⟨b, 0, none⟩), vsv] w fun e w' => e = .returned (.tuple #[]) ∧ DiskRaw w' b (d.crash sv) bs (.slice none 0 0) (.slice none 0 0) ∧ Only [b, bs] w w' := by
 have c0 : w.cell? ⟨b, 0, none⟩ = some (.slice (some ⟨bs, 0, none⟩) d.secs.length d.secs.length) := by simp [World.cell?, hraw.1]
 have c1 : w.cell? ⟨b, 1, none⟩ = some vp := by simp [World.cell?, hraw.1]
 have c2 : w.cell? ⟨b, 2, none⟩ = some (.bool false) := by simp [World.cell?, hraw.1, hon]
 obtain ⟨va, vc, rfl, hpl, hpc, hpm, _⟩ := own_sl hraw.2.2.1
 obtain ⟨sa, sc, rfl, hsvl, hsc, hsm, hscell⟩ := hst.now
 unfold maxLen at hpm hsm
 have HST := Lib.hid hst
 clear hst
 have hb256 := hwf.hi
 have hpl' : d.pend.length ≤ 9223372036854775807 := by omega
 have nb : b ≠ bs := by
  intro e; subst e; simp [dfoot] at hnd
 go_enter Tryz.func33, Tryz.ntmps33
 go_wp2
 go_loopw [15] (fun c wr => ∃ i : Nat, i ≤ d.pend.length ∧ c = .int .i64 i ∧ Only [bs] w wr ∧ wr.heap[bs]? = some (.cells (u8s (layS d.secs (d.pend.take i) sv).flatten).toArray 133 (0, 0))) (fun c _ => d.pend.length - (intOf c).toNat)
 case atStart => exact ⟨0, Nat.zero_le _, rfl, Only.refl _ _, by simpa [layS] using hraw.2.1⟩
 case round =>
  obtain ⟨i, hi, rfl, hon', hsec⟩ := hrel
  have hwb : wr.heap[b]? = w.heap[b]? := hon'.block b (lt_of_heap hraw.1) (by simp [nb])
  have c0' : wr.cell? ⟨b, 0, none⟩ = some (.slice (some ⟨bs, 0, none⟩) d.secs.length d.secs.length) := by rw [World.cell?_of_block (w := w) hwb]; exact c0
  have lb : b < wr.heap.size := Nat.lt_of_lt_of_le (lt_of_heap hraw.1) hon'.size
  have lbs : bs < wr.heap.size := lt_of_heap hsec
  by_cases hlt : i < d.pend.length
  ·obtain ⟨g, c, hvp, _, _⟩ := own_some hraw.2.2.1 (by omega)
   cases hvp
   have hgn : g ≠ bs := by intro e; subst e; simp [dfoot, Value.ownBlock] at hnd
   have hown : wr.ownsRow 0 135 65 (.slice (some ⟨g, 0, none⟩) d.pend.length vc) d.pend.length (pcells d.pend) := own_only hraw.2.2.1 hon' (by intro k hk; cases hk; simp [hgn])
   have hp64 : ∀ p ∈ d.pend, p.2.length = 64 := fun p hp => (hwf.pnd p hp).2
   have hrng : wr.rangeAt g (i * 65) (wcell d.pend[i]) := own_range hown rfl (by rw [wcell_len (hp64 _ (List.getElem_mem hlt)), pcells_at hp64 hlt])
   have hwl : (wcell d.pend[i]).length = 65 := wcell_len (hp64 _ (List.getElem_mem hlt))
   have hq := hwf.pnd _ (List.getElem_mem hlt)
   have hsn := layS_snoc d.secs (d.pend.take i) d.pend[i] sv
   rw [← take_snoc' _ hlt, List.length_take, Nat.min_eq_left (by omega)] at hsn
   obtain ⟨w64, wlen⟩ := layS_wf hwf i sv
   generalize layS d.secs (d.pend.take i) sv = L at *
   generalize d.pend[i] = q at *
   obtain ⟨qa, qc⟩ := q
   simp only at hq hsn hrng hwl
   have HSN := Lib.hid hsn
   have HWL := Lib.hid hwl
   have HSEC := Lib.hid hsec
   clear hsn hwl hsec hpl hsvl
   have hlti : (i : Int) < (d.pend.length : Int) := by omega
   have hqa0 : (0 : Int) ≤ (qa : Int) := by omega
   have hqa1 : (qa : Int) < (d.secs.length : Int) := by omega
   by_cases hsv : i < sv.length
   ·obtain ⟨g2, o2, c2', hv2, _, _, hg2lt, hcells⟩ := sl_some (sz := 1) (HST.out wr (hon'.mono (fun x hx => .inl (by simp at hx; simp [hx])))) (by omega) (by omega)
    cases hv2
    have csv : wr.cell? ⟨g2, o2 + i, none⟩ = some (.bool sv[i]) := hcells i (.bool sv[i]) (by simp [hsv])
    have lg2 : g2 < wr.heap.size := hg2lt
    have hsvi : (i : Int) < (sv.length : Int) := by omega
    have hd1 : decide (i < sv.length) = true := by simpa using hsv
    have hget : sv[i]?.getD false = sv[i] := by simp [hsv]
    have HGET := Lib.hid hget
    clear hget hcells
    cases hb2 : sv[i] with
    | false =>
     rw [hb2] at csv
     have HB2 := Lib.hid hb2
     clear hb2
     go_wp2_with (first
     | (refine load_row (x := .tmp 18) tWrite (wcell (qa, qc)) rfl rfl rfl hrng HWL.out ?_)
     | (refine alloc_row tWrite rfl rfl ?_)
     | (refine store_new tWrite _ rfl rfl rfl rfl zWrite_size (by simpa using HWL.out) (all_oneCell_toArray (wcell_one _)) ?_))
     go_roundw
     case rel =>
      refine ⟨i + 1, by omega, by go_num, hon'.trans (only_alloc _ _ _), ?_⟩
      rw [heap_alloc_old _ _ lbs, HSEC.out, HSN.out, HGET.out, HB2.out]
      rfl
     case measure => simp [intOf]; omega
    | true =>
     rw [hb2] at csv
     have HB2 := Lib.hid hb2
     clear hb2
     go_wp2_with (first
     | (refine load_row (x := .tmp 18) tWrite (wcell (qa, qc)) rfl rfl rfl hrng HWL.out ?_)
     | (refine alloc_row tWrite rfl rfl ?_)
     | (refine store_new tWrite _ rfl rfl rfl rfl zWrite_size (by simpa using HWL.out) (all_oneCell_toArray (wcell_one _)) ?_))
     have hfz := wr.heap.size
     have hset : u8s ((L.set qa qc).flatten) = (u8s L.flatten).take (qa * 64) ++ u8s qc ++ (u8s L.flatten).drop (qa * 64 + 64) := by
      rw [← flat_set w64 (by omega) qc hq.2]
      simp [u8s]
     have HSET := Lib.hid hset
     clear hset
     generalize hW : wr.alloc (.cells (wcell (qa, qc)).toArray 135) = W
     have k0 : W.cell? ⟨b, 0, none⟩ = some (.slice (some ⟨bs, 0, none⟩) d.secs.length d.secs.length) := by
      rw [← hW, World.cell?_of_block (w := wr) (heap_alloc_old _ _ lb)]; exact c0'
     have k1 : W.cell? ⟨wr.heap.size, 0, none⟩ = some (.int .i64 qa) := by
      rw [← hW, cell_of_row _ _ _ _ _ _ (heap_alloc_new _ _)]; rfl
     have k2 : W.rangeAt wr.heap.size 1 (u8s qc) := by
      rw [← hW]; exact range_alloc_new _ _ _ _ _ (by simp [wcell])
     have k3 : W.heap[bs]? = some (.cells (u8s L.flatten).toArray 133 (0, 0)) := by
      rw [← hW, heap_alloc_old _ _ lbs]; exact HSEC.out
     have k4 : Only [bs] w W := by rw [← hW]; exact hon'.trans (only_alloc _ _ _)
     have hql : (u8s qc).length = 64 := by rw [u8s_len]; exact hq.2
     have hfl : qa * 64 + 64 ≤ (u8s L.flatten).toArray.size := by
      simp only [List.size_toArray, u8s_len, flat_len w64]; omega
     have K2 := Lib.hid k2
     have K3 := Lib.hid k3
     have HQL := Lib.hid hql
     have HFL := Lib.hid hfl
     clear hW k2 k3 hql hfl hfz hrng c0'
     generalize wr.heap.size = nb at *
     refine Reg.region1d [0, 0, 0, 1, 0, 1, 0, 1, 0, 3] [0, 1, 3, 7, 0, 16, 0, 64, 255, 511] (by kernel_rfl) ?_
     intro Qr hQr
     go_wp2_with (first
      | (refine load_row (x := .tmp 36) tSec (u8s qc) rfl rfl rfl K2.out HQL.out ?_)
      | (refine store_row (x := .tmp 38) (y := .tmp 37) tSec _ _ _ rfl rfl rfl rfl K3.out (by simpa using HQL.out) HFL.out (all_oneCell_toArray (u8s_one _)) ?_))
     refine ⟨by rfl, ?_⟩
     go_wp2
     go_roundw
     case rel =>
      refine ⟨i + 1, by omega, by go_num, k4.trans' ((only_drew _ _).trans (only_setRow _ _ _ (List.mem_singleton.2 rfl))) (fun _ h => .inl h), ?_⟩
      rw [HSN.out, HGET.out, HB2.out, if_pos rfl, HSET.out]
      have := setRow_heap W.drew bs _ ((List.take (qa * 64) (u8s L.flatten)) ++ u8s qc ++ List.drop (qa * 64 + 64) (u8s L.flatten)).toArray _ _ K3.out
      have e := HQL.out
      simpa [e] using this
     case measure => simp [intOf]; omega
   ·have hd1 : decide (i < sv.length) = false := by simpa using hsv
    go_wp2_with (first
     | (refine load_row (x := .tmp 18) tWrite (wcell (qa, qc)) rfl rfl rfl hrng HWL.out ?_)
     | (refine alloc_row tWrite rfl rfl ?_)
     | (refine store_new tWrite _ rfl rfl rfl rfl zWrite_size (by simpa using HWL.out) (all_oneCell_toArray (wcell_one _)) ?_))
    go_roundw
    case rel =>
     refine ⟨i + 1, by omega, by go_num, hon'.trans (only_alloc _ _ _), ?_⟩
     rw [heap_alloc_old _ _ lbs, HSEC.out, HSN.out]
     simp [List.getElem?_eq_none (Nat.le_of_not_lt hsv)]
    case measure => simp [intOf]; omega
  ·have he : i = d.pend.length := by omega
   subst he
   rw [List.take_length] at hsec
   have hwb' := hwb.trans hraw.1
   have k1 : wr.cell? ⟨b, 1, none⟩ = some (.slice va d.pend.length vc) := by simp [World.cell?, hwb']
   have k2 : wr.cell? ⟨b, 2, none⟩ = some (.bool d.off) := by simp [World.cell?, hwb']
   have kf : ∀ o, wr.frozen? ⟨b, o, none⟩ = false := by simp [World.frozen?, hwb']
   have HWB := Lib.hid hwb'
   have HSEC := Lib.hid hsec
   clear hwb hwb' hsec
   have h1 := heap_setCell_same wr b 1 _ _ (.slice none 0 0) HWB.out
   have h2 := heap_setCell_same _ b 2 _ _ (.bool true) h1
   have H2 := Lib.hid h2
   clear h1 h2
   go_wp2_with fail
   refine (disarm_any b _ _ _ _ _ _ _ _ H2.out).mono ?_
   rintro e w' ⟨rfl, rfl⟩
   go_wp2
   go_end0
   have hc : d.crash sv = { secs := layS d.secs d.pend sv, pend := [], off := true, armed := false, left := 0, surv := [] } := by simp [DM.crash, hon]
   have ho : Only [b, bs] wr ((wr.setCell ⟨b, 1, none⟩ (.slice none 0 0)).setCell ⟨b, 2, none⟩ (.bool true)) := (only_setCell _ _ _ (by simp)).trans (only_setCell _ _ _ (by simp))
   refine ⟨rfl, ⟨?_, ?_, ?_, ?_⟩, (hon'.mono (fun x hx => .inl (by simp at hx; simp [hx]))).trans (ho.trans (only_setRow _ _ _ (by simp)))⟩
   ·rw [setRow_heap _ _ _ _ _ _ H2.out, hc]
    simp [layS_len]
   ·rw [setRow_other _ _ _ _ (Ne.symm nb), heap_setCell_other _ _ _ _ (Ne.symm nb), heap_setCell_other _ _ _ _ (Ne.symm nb), HSEC.out, hc]
   ·rw [hc]; exact World.ownsRow_nil _ _ _ _
   ·rw [hc]; exact World.ownsRow_nil _ _ _ _
theorem crash_off (b : Nat) (vsv : Value) (w : World) (h0 : w.cell? ⟨b, 2, none⟩ = some (.bool true)) :
  Calls Tryz.prog 33 #[.pointer (some ⟨b, 0, none⟩), vsv] w fun e w' => e = .returned (.tuple #[]) ∧ w = w' := by
 go_enter Tryz.func33, Tryz.ntmps33
 go_wp2
 exact bodyPost_ret (v := .tuple #[]) (by simp [results, Tryz.results33]) rfl ⟨rfl, rfl⟩
def FootOk (w : World) (F F' : List Nat) : Prop := ∀ k ∈ F', k ∈ F ∨ w.heap.size ≤ k
theorem DiskRaw.lt {w : World} {b : Nat} {d : DM} {bs : Nat} {vp vs : Value} (h : DiskRaw w b d bs vp vs) : ∀ k ∈ dfoot b bs vp vs, k < w.heap.size := by
 intro k hk
 simp only [dfoot, List.mem_cons, List.mem_append, Option.mem_toList] at hk
 rcases hk with rfl | rfl | hk | hk
 ·exact lt_of_heap h.1
 ·exact lt_of_heap h.2.1
 ·exact own_lt h.2.2.1 hk
 ·exact own_lt h.2.2.2 hk
theorem DiskAt.lt {w : World} {b : Nat} {d : DM} {F : List Nat} (h : DiskAt w b d F) : ∀ k ∈ F, k < w.heap.size := by
 obtain ⟨_, bs, vp, vs, hr, rfl, _⟩ := h; exact hr.lt
theorem DiskRaw.only {S : List Nat} {w w' : World} {b : Nat} {d : DM} {bs : Nat} {vp vs : Value} (h : DiskRaw w b d bs vp vs) (ho : Only S w w') (hs : ∀ k ∈ dfoot b bs vp vs, k ∉ S) : DiskRaw w' b d bs vp vs := by
 refine ⟨ho.heap h.1 (hs b (by simp [dfoot])), ho.heap h.2.1 (hs bs (by simp [dfoot])), own_only h.2.2.1 ho (fun k hk => hs k (by simp [dfoot, hk])), own_only h.2.2.2 ho (fun k hk => hs k (by simp [dfoot, hk]))⟩
theorem DiskAt.c0 {w : World} {b : Nat} {d : DM} {F : List Nat} (h : DiskAt w b d F) : ∃ bs, w.cell? ⟨b, 0, none⟩ = some (.slice (some ⟨bs, 0, none⟩) d.secs.length d.secs.length) := by
 obtain ⟨hw, bs, vp, vs, hr, rfl, hn⟩ := h
 exact ⟨bs, by simp [World.cell?, hr.1]⟩
theorem DiskAt.c2 {w : World} {b : Nat} {d : DM} {F : List Nat} (h : DiskAt w b d F) : w.cell? ⟨b, 2, none⟩ = some (.bool d.off) := by
 obtain ⟨hw, bs, vp, vs, hr, rfl, hn⟩ := h
 simp [World.cell?, hr.1]
theorem Size_at (b : Nat) (d : DM) (F : List Nat) (w : World) (h : DiskAt w b d F) :
  Calls Tryz.prog 64 #[.pointer (some ⟨b, 0, none⟩)] w fun e w' => e = .returned (.int .i64 d.secs.length) ∧ w = w' := by
 obtain ⟨bs, h0⟩ := h.c0
 exact size_any b _ bs w h0
def DiskTo (w w' : World) (b : Nat) (d : DM) (F : List Nat) : Prop := ∃ F', DiskAt w' b d F' ∧ FootOk w F F' ∧ Only F w w'
theorem crash_core (b : Nat) (d : DM) (bs : Nat) (vp vs : Value) (vsv : Value) (sv : List Bool) (w : World) (hwf : d.Wf) (hraw : DiskRaw w b d bs vp vs) (hnd : (dfoot b bs vp vs).Nodup)
  (hst : Stable w [b, bs] vsv 1 sv.length (sv.map Value.bool)) :
  Calls Tryz.prog 33 #[.pointer (some ⟨b, 0, none⟩), vsv] w fun e w' => e = .returned (.tuple #[]) ∧ DiskTo w w' b (d.crash sv) (dfoot b bs vp vs) := by
 cases hoff : d.off with
 | true =>
  refine (crash_off b vsv w (by simp [World.cell?, hraw.1, hoff])).mono ?_
  rintro e w' ⟨rfl, rfl⟩
  refine ⟨rfl, dfoot b bs vp vs, ⟨hwf.crash sv, bs, vp, vs, ?_, rfl, hnd⟩, fun k hk => .inl hk, Only.refl _ _⟩
  simpa [DM.crash, hoff] using hraw
 | false =>
  refine (crash_raw b d bs vp vs vsv sv w hwf hraw hnd hoff hst).mono ?_
  rintro e w' ⟨rfl, h1, h2⟩
  have hnb : b ≠ bs := by intro e; subst e; simp [dfoot] at hnd
  refine ⟨rfl, dfoot b bs (.slice none 0 0) (.slice none 0 0), ⟨hwf.crash sv, bs, _, _, h1, rfl, by simp [dfoot, Value.ownBlock, hnb]⟩, fun k hk => .inl ?_, h2.mono fun x hx => .inl ?_⟩
  ·simp [dfoot, Value.ownBlock] at hk; rcases hk with rfl | rfl <;> simp [dfoot]
  ·simp at hx; rcases hx with rfl | rfl <;> simp [dfoot]
theorem Crash_at (b : Nat) (d : DM) (F : List Nat) (vsv : Value) (sv : List Bool) (w : World) (h : DiskAt w b d F) (hst : Stable w F vsv 1 sv.length (sv.map Value.bool)) :
  Calls Tryz.prog 33 #[.pointer (some ⟨b, 0, none⟩), vsv] w fun e w' => e = .returned (.tuple #[]) ∧ DiskTo w w' b (d.crash sv) F := by
 obtain ⟨hw, bs, vp, vs, hr, rfl, hn⟩ := h
 exact crash_core b d bs vp vs vsv sv w hw hr hn fun w' ho => hst w' (ho.mono (fun x hx => .inl (by simp at hx; rcases hx with rfl | rfl <;> simp [dfoot])))
set_option maxHeartbeats 400000 in
theorem powered_at (b : Nat) (d : DM) (F : List Nat) (w : World) (h : DiskAt w b d F) :
  Calls Tryz.prog 142 #[.pointer (some ⟨b, 0, none⟩)] w fun e w' => e = .returned (.bool d.powered.2) ∧ DiskTo w w' b d.powered.1 F := by
 obtain ⟨hw, bs, vp, vs, hr, rfl, hn⟩ := h
 have c2 : w.cell? ⟨b, 2, none⟩ = some (.bool d.off) := by simp [World.cell?, hr.1]
 have c3 : w.cell? ⟨b, 3, none⟩ = some (.bool d.armed) := by simp [World.cell?, hr.1]
 have c4 : w.cell? ⟨b, 4, none⟩ = some (.int .i64 d.left) := by simp [World.cell?, hr.1]
 have c5 : w.cell? ⟨b, 5, none⟩ = some vs := by simp [World.cell?, hr.1]
 have fz : ∀ o, w.frozen? ⟨b, o, none⟩ = false := by simp [World.frozen?, hr.1]
 have l0 := hw.l0
 have l1 := hw.l1
 have same : ∀ x : Bool, d.powered = (d, x) → DiskTo w w b d.powered.1 (dfoot b bs vp vs) := fun x hx => ⟨_, ⟨hw.powered, bs, vp, vs, by rw [hx]; exact hr, rfl, hn⟩, fun k hk => .inl hk, Only.refl _ _⟩
 cases hoff : d.off with
 | true =>
  have hp : d.powered = (d, false) := by simp [DM.powered, hoff]
  have hs := same _ hp
  rw [hp] at hs ⊢
  rw [hoff] at c2
  have HS := Lib.hid hs
  clear hs same hp hoff hn
  go_enter Tryz.func142, Tryz.ntmps142
  go_wp2
  go_ret
  exact ⟨rfl, HS.out⟩
 | false =>
  cases har : d.armed with
  | false =>
   have hp : d.powered = (d, true) := by simp [DM.powered, hoff, har]
   have hs := same _ hp
   rw [hp] at hs ⊢
   rw [hoff] at c2
   rw [har] at c3
   have HS := Lib.hid hs
   clear hs same hp hoff hn har
   go_enter Tryz.func142, Tryz.ntmps142
   go_wp2
   go_ret
   exact ⟨rfl, HS.out⟩
  | true =>
   by_cases hl : d.left = 0
   ·have hp : d.powered = (d.crash d.surv, false) := by simp [DM.powered, hoff, har, hl]
    rw [hp]
    have hsl := own_sl hr.2.2.2
    have hcon := crash_core b d bs vp vs vs d.surv w hw hr hn (stable_of hsl (fun k hk hm => by
     have hn' := hn
     simp only [dfoot, List.nodup_cons, List.mem_cons, List.mem_append, Option.mem_toList, not_or] at hn'
     simp at hm
     rcases hm with rfl | rfl
     ·exact hn'.1.2.2 hk
     ·exact hn'.2.1.2 hk))
    rw [hoff] at c2
    rw [har] at c3
    rw [hl] at c4
    have HC := Lib.hid hcon
    clear hcon same hp hoff hn har hl hsl
    go_enter Tryz.func142, Tryz.ntmps142
    go_wp2_with (go_at_call 33; refine HC.out.mono ?_; rintro e w' ⟨rfl, hto⟩; have HT := Lib.hid hto; clear hto)
    go_ret
    exact ⟨rfl, HT.out⟩
   ·have hp : d.powered = ({ d with left := d.left - 1 }, true) := by simp [DM.powered, hoff, har, hl]
    have hb := hr.1
    have hto : DiskTo w (w.setCell ⟨b, 4, none⟩ (.int .i64 (d.left - 1))) b d.powered.1 (dfoot b bs vp vs) := by
     refine ⟨dfoot b bs vp vs, ⟨hw.powered, bs, vp, vs, ?_, rfl, hn⟩, fun k hk => .inl hk, only_setCell _ _ _ (by simp [dfoot])⟩
     rw [hp]
     have hn' := hn
     simp only [dfoot, List.nodup_cons, List.mem_cons, List.mem_append, Option.mem_toList, not_or] at hn'
     refine ⟨?_, ?_, own_setCell hr.2.2.1 _ hn'.1.2.1, own_setCell hr.2.2.2 _ hn'.1.2.2⟩
     ·rw [heap_setCell_same _ _ _ _ _ _ hb]; rfl
     ·rw [heap_setCell_other _ _ _ _ (fun e => hn'.1.1 e.symm)]; exact hr.2.1
    rw [hp] at hto ⊢
    have hne : (d.left == 0) = false := by simpa using hl
    have hlt : 0 < d.left := by omega
    rw [hoff] at c2
    rw [har] at c3
    have HT := Lib.hid hto
    clear hto same hp hoff hn har hl hb hr
    go_enter Tryz.func142, Tryz.ntmps142
    go_wp2
    go_ret
    exact ⟨rfl, HT.out⟩
theorem foot_nil_p {b bs : Nat} {vp vs : Value} (h : (dfoot b bs vp vs).Nodup) : (dfoot b bs (.slice none 0 0) vs).Nodup :=
 h.sublist (((List.sublist_append_right vp.ownBlock.toList vs.ownBlock.toList).cons_cons bs).cons_cons b)
theorem foot_set_p {b bs : Nat} {vp vs : Value} (h : (dfoot b bs vp vs).Nodup) {g n c : Nat} (h1 : g ≠ b) (h2 : g ≠ bs) (h3 : vs.ownBlock ≠ some g) : (dfoot b bs (.slice (some ⟨g, 0, none⟩) n c) vs).Nodup := by
 have h' : (b :: bs :: ([] ++ vs.ownBlock.toList)).Nodup := foot_nil_p h
 show (b :: bs :: ([g] ++ vs.ownBlock.toList)).Nodup
 cases hv : vs.ownBlock with
 | none => rw [hv] at h'; simp at h' ⊢; exact ⟨⟨h', Ne.symm h1⟩, Ne.symm h2⟩
 | some k =>
  have h3' : g ≠ k := fun e => h3 (by rw [hv, e])
  rw [hv] at h'; simp at h' ⊢
  exact ⟨⟨h'.1.1, Ne.symm h1, h'.1.2⟩, ⟨Ne.symm h2, h'.2⟩, h3'⟩
theorem DiskTo.trans {w w1 w2 : World} {b : Nat} {d2 : DM} {F F1 : List Nat} (h1 : Only F w w1) (hf : FootOk w F F1) (h2 : DiskTo w1 w2 b d2 F1) : DiskTo w w2 b d2 F := by
 obtain ⟨F2, ha, hb, hc⟩ := h2
 refine ⟨F2, ha, fun k hk => ?_, h1.trans' hc hf⟩
 rcases hb k hk with h | h
 ·exact hf k h
 ·right; exact Nat.le_trans h1.size h
theorem Flush_at (b : Nat) (d : DM) (F : List Nat) (w : World) (h : DiskAt w b d F) :
  Calls Tryz.prog 129 #[.pointer (some ⟨b, 0, none⟩)] w fun e w' => e = .returned (.int .i64 d.flush.2) ∧ DiskTo w w' b d.flush.1 F := by
 have hpw := powered_at b d F w h
 cases hp2 : d.powered.2 with
 | false =>
  have hf : d.flush = (d.powered.1, 9) := by simp [DM.flush, hp2]
  rw [hf]
  rw [hp2] at hpw
  have HP := Lib.hid hpw
  clear hpw hp2 hf
  go_enter Tryz.func129, Tryz.ntmps129
  go_wp2_with (go_at_call 142; refine HP.out.mono ?_; rintro e w' ⟨rfl, hto⟩; have HT := Lib.hid hto; clear hto)
  go_ret
  exact ⟨rfl, HT.out⟩
 | true =>
  have hf : d.flush = ({ d.powered.1 with secs := layAll d.powered.1.secs d.powered.1.pend, pend := [] }, 0) := by simp [DM.flush, hp2]
  have hfw := h.1.flush
  rw [hf] at hfw ⊢
  rw [hp2] at hpw
  clear hp2 hf
  generalize d.powered.1 = d1 at *
  have HP := Lib.hid hpw
  clear hpw
  go_enter Tryz.func129, Tryz.ntmps129
  go_wp2_with fail
  refine HP.out.mono ?_
  rintro e w1 ⟨rfl, F1, hd1, hf1, ho1⟩
  obtain ⟨hwf, bs, vp, vs, hraw, rfl, hnd⟩ := hd1
  clear h HP
  have c0 : w1.cell? ⟨b, 0, none⟩ = some (.slice (some ⟨bs, 0, none⟩) d1.secs.length d1.secs.length) := by simp [World.cell?, hraw.1]
  have c1 : w1.cell? ⟨b, 1, none⟩ = some vp := by simp [World.cell?, hraw.1]
  obtain ⟨va, vc, rfl, hpl, hpc, hpm, _⟩ := own_sl hraw.2.2.1
  unfold maxLen at hpm
  have hb256 := hwf.hi
  have hpl' : d1.pend.length ≤ 9223372036854775807 := by omega
  have nb : b ≠ bs := by
   intro e; subst e; simp [dfoot] at hnd
  have HPL := Lib.hid hpl
  clear hpl
  go_wp2_with fail
  go_loopw [13] (fun c wr => ∃ i : Nat, i ≤ d1.pend.length ∧ c = .int .i64 i ∧ Only [bs] w1 wr ∧ wr.heap[bs]? = some (.cells (u8s (layAll d1.secs (d1.pend.take i)).flatten).toArray 133 (0, 0))) (fun c _ => d1.pend.length - (intOf c).toNat)
  case atStart => exact ⟨0, Nat.zero_le _, rfl, Only.refl _ _, by simpa [layAll] using hraw.2.1⟩
  case round =>
   obtain ⟨i, hi, rfl, hon', hsec⟩ := hrel
   have hwb : wr.heap[b]? = w1.heap[b]? := hon'.block b (lt_of_heap hraw.1) (by simp [nb])
   have c0' : wr.cell? ⟨b, 0, none⟩ = some (.slice (some ⟨bs, 0, none⟩) d1.secs.length d1.secs.length) := by rw [World.cell?_of_block (w := w1) hwb]; exact c0
   have lb : b < wr.heap.size := Nat.lt_of_lt_of_le (lt_of_heap hraw.1) hon'.size
   have lbs : bs < wr.heap.size := lt_of_heap hsec
   by_cases hlt : i < d1.pend.length
   ·obtain ⟨g, c, hvp, _, _⟩ := own_some hraw.2.2.1 (by omega)
    cases hvp
    have hgn : g ≠ bs := by intro e; subst e; simp [dfoot, Value.ownBlock] at hnd
    have hown : wr.ownsRow 0 135 65 (.slice (some ⟨g, 0, none⟩) d1.pend.length vc) d1.pend.length (pcells d1.pend) := own_only hraw.2.2.1 hon' (by intro k hk; cases hk; simp [hgn])
    have hp64 : ∀ p ∈ d1.pend, p.2.length = 64 := fun p hp => (hwf.pnd p hp).2
    have hrng : wr.rangeAt g (i * 65) (wcell d1.pend[i]) := own_range hown rfl (by rw [wcell_len (hp64 _ (List.getElem_mem hlt)), pcells_at hp64 hlt])
    have hwl : (wcell d1.pend[i]).length = 65 := wcell_len (hp64 _ (List.getElem_mem hlt))
    have hq := hwf.pnd _ (List.getElem_mem hlt)
    have hsn := layAll_snoc d1.secs (d1.pend.take i) d1.pend[i]
    rw [← take_snoc' _ hlt] at hsn
    have w64 : ∀ x ∈ layAll d1.secs (d1.pend.take i), x.length = 64 := layAll_64 _ _ hwf.sec (fun q hq => hp64 q (List.mem_of_mem_take hq))
    have wlen : (layAll d1.secs (d1.pend.take i)).length = d1.secs.length := layAll_len _ _
    generalize layAll d1.secs (d1.pend.take i) = L at *
    generalize d1.pend[i] = q at *
    obtain ⟨qa, qc⟩ := q
    simp only at hq hsn hrng hwl
    have HSN := Lib.hid hsn
    have HWL := Lib.hid hwl
    have HSEC := Lib.hid hsec
    clear hsn hwl hsec
    have hlti : (i : Int) < (d1.pend.length : Int) := by omega
    have hqa0 : (0 : Int) ≤ (qa : Int) := by omega
    have hqa1 : (qa : Int) < (d1.secs.length : Int) := by omega
    go_wp2_with (first
     | (refine load_row (x := .tmp 15) tWrite (wcell (qa, qc)) rfl rfl rfl hrng HWL.out ?_)
     | (refine alloc_row tWrite rfl rfl ?_)
     | (refine store_new tWrite _ rfl rfl rfl rfl zWrite_size (by simpa using HWL.out) (all_oneCell_toArray (wcell_one _)) ?_))
    have hset : u8s ((L.set qa qc).flatten) = (u8s L.flatten).take (qa * 64) ++ u8s qc ++ (u8s L.flatten).drop (qa * 64 + 64) := by
     rw [← flat_set w64 (by omega) qc hq.2]
     simp [u8s]
    have HSET := Lib.hid hset
    clear hset
    generalize hW : wr.alloc (.cells (wcell (qa, qc)).toArray 135) = W
    have k0 : W.cell? ⟨b, 0, none⟩ = some (.slice (some ⟨bs, 0, none⟩) d1.secs.length d1.secs.length) := by
     rw [← hW, World.cell?_of_block (w := wr) (heap_alloc_old _ _ lb)]; exact c0'
    have k1 : W.cell? ⟨wr.heap.size, 0, none⟩ = some (.int .i64 qa) := by
     rw [← hW, cell_of_row _ _ _ _ _ _ (heap_alloc_new _ _)]; rfl
    have k2 : W.rangeAt wr.heap.size 1 (u8s qc) := by
     rw [← hW]; exact range_alloc_new _ _ _ _ _ (by simp [wcell])
    have k3 : W.heap[bs]? = some (.cells (u8s L.flatten).toArray 133 (0, 0)) := by
     rw [← hW, heap_alloc_old _ _ lbs]; exact HSEC.out
    have k4 : Only [bs] w1 W := by rw [← hW]; exact hon'.trans (only_alloc _ _ _)
    have hql : (u8s qc).length = 64 := by rw [u8s_len]; exact hq.2
    have hfl : qa * 64 + 64 ≤ (u8s L.flatten).toArray.size := by
     simp only [List.size_toArray, u8s_len, flat_len w64]; omega
    have K2 := Lib.hid k2
    have K3 := Lib.hid k3
    have HQL := Lib.hid hql
    have HFL := Lib.hid hfl
    clear hW k2 k3 hql hfl hrng c0'
    generalize wr.heap.size = nb at *
    refine Reg.region1d [0, 0, 0, 1, 0, 1, 0, 1, 0, 3] [0, 1, 3, 7, 0, 16, 0, 64, 255, 511] (by kernel_rfl) ?_
    intro Qr hQr
    go_wp2_with (first
     | (refine load_row (x := .tmp 23) tSec (u8s qc) rfl rfl rfl K2.out HQL.out ?_)
     | (refine store_row (x := .tmp 25) (y := .tmp 24) tSec _ _ _ rfl rfl rfl rfl K3.out (by simpa using HQL.out) HFL.out (all_oneCell_toArray (u8s_one _)) ?_))
    refine ⟨by rfl, ?_⟩
    go_wp2
    go_roundw
    case rel =>
     refine ⟨i + 1, by omega, by go_num, k4.trans' ((only_drew _ _).trans (only_setRow _ _ _ (List.mem_singleton.2 rfl))) (fun _ h => .inl h), ?_⟩
     rw [HSN.out, HSET.out]
     have := setRow_heap W.drew bs _ ((List.take (qa * 64) (u8s L.flatten)) ++ u8s qc ++ List.drop (qa * 64 + 64) (u8s L.flatten)).toArray _ _ K3.out
     have e := HQL.out
     simpa [e] using this
    case measure => simp [intOf]; omega
   ·have he : i = d1.pend.length := by omega
    subst he
    rw [List.take_length] at hsec
    have hwb' := hwb.trans hraw.1
    have k1 : wr.cell? ⟨b, 1, none⟩ = some (.slice va d1.pend.length vc) := by simp [World.cell?, hwb']
    have kf : ∀ o, wr.frozen? ⟨b, o, none⟩ = false := by simp [World.frozen?, hwb']
    have HWB := Lib.hid hwb'
    have HSEC := Lib.hid hsec
    clear hwb hwb' hsec
    have h1 := heap_setCell_same wr b 1 _ _ (.slice none 0 0) HWB.out
    have H1 := Lib.hid h1
    clear h1
    go_wp2
    go_ret
    have hn' := hnd
    simp only [dfoot, List.nodup_cons, List.mem_cons, List.mem_append, Option.mem_toList, not_or] at hn'
    have hvs : wr.ownsRow 0 4 1 vs d1.surv.length (d1.surv.map Value.bool) := own_only hraw.2.2.2 hon' (fun k hk e => by simp at e; exact hn'.2.1.2 (e ▸ hk))
    have hnd2 : (dfoot b bs (.slice none 0 0) vs).Nodup := foot_nil_p hnd
    refine ⟨rfl, DiskTo.trans ho1 hf1 ⟨dfoot b bs (.slice none 0 0) vs, ⟨hfw, bs, _, vs, ⟨?_, ?_, ?_, ?_⟩, rfl, hnd2⟩, fun k hk => .inl ?_, ?_⟩⟩
    ·rw [H1.out]; simp [layAll_len]
    ·rw [heap_setCell_other _ _ _ _ (Ne.symm nb), HSEC.out]
    ·exact World.ownsRow_nil _ _ _ _
    ·exact own_setCell hvs _ hn'.1.2.2
    ·simp only [dfoot, Value.ownBlock, Option.toList, List.nil_append, List.mem_cons] at hk ⊢
     rcases hk with h | h | h
     ·exact .inl h
     ·exact .inr (.inl h)
     ·exact .inr (.inr (by simp only [List.mem_append]; exact .inr h))
    ·exact (hon'.mono (fun x hx => .inl (by simp at hx; simp [hx, dfoot]))).trans (only_setCell _ _ _ (by simp [dfoot]))
def wz (n : Int) : Array Value := #[.int .i64 n] ++ Array.replicate 64 (.int .u8 0)
theorem build_write (n : Int) (w : World) : (Instr.build 135 #[(0, .int .i64 n)]).run Tryz.prog w = .ok (.agg (wz n)) w := by kernel_rfl
theorem wz_size (n : Int) : (wz n).size = 65 := by simp [wz]
theorem wz_one (n : Int) : (wz n).all (·.oneCell') = true := by
 rw [Array.all_eq_true_iff_forall_mem]
 intro v hv
 simp only [wz, Array.mem_append, Array.mem_replicate] at hv
 rcases hv with hv | ⟨_, rfl⟩
 ·simp at hv; subst hv; rfl
 ·rfl
theorem eWrite : ElT Tryz.prog 129 135 65 72 (.agg zWrite) := elT Tryz.underlying129 (by kernel_rfl) zWrite_size (by decide)
theorem Write_far (b : Nat) (d : DM) (F : List Nat) (n : Int) (bv : Value) (w : World) (h : DiskAt w b d F) (hin : d.inB n = false) :
  Calls Tryz.prog 119 #[.pointer (some ⟨b, 0, none⟩), .int .i64 n, bv] w fun e w' => e = .returned (.int .i64 4) ∧ w = w' := by
 obtain ⟨bs, c0⟩ := h.c0
 have h256 := h.1.hi
 have hdec : decide ((0 : Int) ≤ n ∧ n < (d.secs.length : Int)) = false := hin
 clear hin h
 go_enter Tryz.func119, Tryz.ntmps119
 go_wp2_with (go_at_call 130; refine (has_any _ _ _ _ _ h256 c0).mono ?_; rintro e w' ⟨rfl, rfl⟩; rw [hdec])
 go_ret
 exact ⟨rfl, rfl⟩
theorem Write_len (b : Nat) (d : DM) (F : List Nat) (n : Int) (ba : Option Addr) (m c : Nat) (w : World) (h : DiskAt w b d F) (hin : d.inB n = true) (hm : m ≠ 64) (hmx : m ≤ maxLen) :
  Calls Tryz.prog 119 #[.pointer (some ⟨b, 0, none⟩), .int .i64 n, .slice ba m c] w fun e w' => e = .returned (.int .i64 1) ∧ w = w' := by
 obtain ⟨bs, c0⟩ := h.c0
 have h256 := h.1.hi
 have hdec : decide ((0 : Int) ≤ n ∧ n < (d.secs.length : Int)) = true := hin
 unfold maxLen at hmx
 have hne : ((m : Int) != 64) = true := by simp; omega
 clear hin h hm
 go_enter Tryz.func119, Tryz.ntmps119
 go_wp2_with (go_at_call 130; refine (has_any _ _ _ _ _ h256 c0).mono ?_; rintro e w' ⟨rfl, rfl⟩; rw [hdec])
 go_ret
 exact ⟨rfl, rfl⟩
theorem Write_do (b : Nat) (d : DM) (F : List Nat) (k : Nat) (bv : Value) (l : List UInt8) (w : World) (h : DiskAt w b d F) (hk : k < d.secs.length) (hl : l.length = 64) (hb : Bs w bv l) (hbf : ∀ j, bv.ownBlock = some j → j ∉ F) (hpl : d.pend.length ≤ 1000000) :
  Calls Tryz.prog 119 #[.pointer (some ⟨b, 0, none⟩), .int .i64 k, bv] w fun e w' => e = .returned (.int .i64 (d.write k l).2) ∧ DiskTo w w' b (d.write k l).1 F := by
 have hpw := powered_at b d F w h
 obtain ⟨bs, c0⟩ := h.c0
 have h256 := h.1.hi
 have hin : d.inB k = true := by simp [DM.inB]; omega
 have hdec : decide ((0 : Int) ≤ (k : Int) ∧ (k : Int) < (d.secs.length : Int)) = true := hin
 have hbs := hb
 obtain ⟨ba, bc, rfl, _, hbc, hbm, _⟩ := hb
 rw [hl] at hbc hbs hbf ⊢
 have hpl1 : d.powered.1.pend.length ≤ 1000000 := by
  unfold DM.powered
  split
  ·exact hpl
  ·split
   ·unfold DM.crash
    split
    ·exact hpl
    ·simp
   ·exact hpl
 have hwf1 := h.1.write k l
 cases hp2 : d.powered.2 with
 | false =>
  have hf : d.write k l = (d.powered.1, 9) := by simp [DM.write, hin, hl, hp2]
  rw [hf]
  rw [hp2] at hpw
  have HP := Lib.hid hpw
  clear hpw hp2 hf hwf1 hl hin
  go_enter Tryz.func119, Tryz.ntmps119
  go_wp2_with (first
   | (go_at_call 130; refine (has_any _ _ _ _ _ h256 c0).mono ?_; rintro e w' ⟨rfl, rfl⟩; rw [hdec])
   | (go_at_call 142; refine HP.out.mono ?_; rintro e w' ⟨rfl, hto⟩; have HT := Lib.hid hto; clear hto))
  go_ret
  exact ⟨rfl, HT.out⟩
 | true =>
  have hf : d.write k l = ({ d.powered.1 with pend := d.powered.1.pend ++ [(k, l)] }, 0) := by simp [DM.write, hin, hl, hp2]
  rw [hf] at hwf1 ⊢
  rw [hp2] at hpw
  clear hp2 hf
  generalize d.powered.1 = d1 at *
  have HP := Lib.hid hpw
  have HL := Lib.hid hl
  clear hpw hl hin
  go_enter Tryz.func119, Tryz.ntmps119
  go_wp2_with ((go_at_call 130; refine (has_any _ _ _ _ _ h256 c0).mono ?_; rintro e w' ⟨rfl, rfl⟩; rw [hdec]))
  refine HP.out.mono ?_
  rintro e w1 ⟨rfl, F1, hd1, hf1, ho1⟩
  have hbs1 : Bs w1 (.slice ba 64 bc) l := hbs.only ho1 hbf
  obtain ⟨hwf, bs1, vp, vs, hraw, rfl, hnd⟩ := hd1
  have HBS := Lib.hid hbs1
  clear h HP hbs hbs1 c0
  have hcp : ((wz k).toList.take 1 ++ ((u8s l).take 64 ++ (wz k).toList.drop (1 + 64))).toArray = (wcell (k, l)).toArray := by
   have e := HL.out
   have e2 : (u8s l).take 64 = u8s l := List.take_of_length_le (by rw [u8s_len]; omega)
   rw [e2]
   simp [wz, wcell]
  have hbs2 : Bs (w1.alloc (.cells (wz k) 135)) (.slice ba 64 bc) l := Sl.only (S := []) HBS.out (only_alloc _ _ _) (by simp)
  have hcnew := heap_alloc_new w1 (.cells (wz k) 135)
  have hcfit : 1 + 64 ≤ (wz k).size := by rw [wz_size]; decide
  have hcmin : Nat.min l.length 64 = 64 := by rw [HL.out]; rfl
  have HCM := Lib.hid hcmin
  clear hcmin
  have HCP := Lib.hid hcp
  have HBS2 := Lib.hid hbs2
  have HCN := Lib.hid hcnew
  have HCF := Lib.hid hcfit
  clear hcp hbs2 hcnew hcfit
  go_wp2_with (first
   | ((with_reducible show wpList _ _ _ (⟨_, .build _ _, _, _, _, _⟩ :: _) _ _); refine build_at (build_write k) rfl rfl rfl ?_)
   | ((with_reducible show wpList _ _ _ (⟨_, .alloc _, _, _, _, _⟩ :: _) _ _); refine alloc_row tWrite rfl rfl ?_)
   | ((with_reducible show wpList _ _ _ (⟨_, .store _ _ _, _, _, _, _⟩ :: _) _ _); refine store_new (x := .tmp 7) (y := .tmp 19) tWrite _ rfl rfl rfl rfl zWrite_size (wz_size _) (wz_one _) ?_)
   | ((with_reducible show wpList _ _ _ (⟨_, .call ⟨.builtin .copy, _, _⟩, _, _, _, _⟩ :: _) _ _); go_must (refine copy_sl (d := .tmp 21) (s := .tmp 22) (xv := .slice ba 64 bc) Tryz.underlying30 (by kernel_rfl) rfl rfl rfl rfl HBS2.out HCN.out 64 HCM.out HCF.out (u8s_one _) ?_; rw [HCP.out, World.setRow_alloc_new])))
  go_frame
  have hn' := hnd
  simp only [dfoot, List.nodup_cons, List.mem_cons, List.mem_append, Option.mem_toList, not_or] at hn'
  generalize hW : w1.alloc (.cells (wcell (k, l)).toArray 135) = W
  have oW : Only [] w1 W := by rw [← hW]; exact only_alloc _ _ _
  have hrW : DiskRaw W b d1 bs1 vp vs := hraw.only oW (by simp)
  have k1 : W.cell? ⟨b, 1, none⟩ = some vp := by simp [World.cell?, hrW.1]
  have k2 : W.rangeAt w1.heap.size 0 (wcell (k, l)) := by rw [← hW]; exact range_alloc_new _ _ _ _ _ (by simp)
  have hwl : (wcell (k, l)).length = 65 := wcell_len HL.out
  have hown2 : (W.alloc (.cells (wcell (k, l)).toArray 135)).drew.ownsRow 0 135 65 vp d1.pend.length (pcells d1.pend) := own_only hrW.2.2.1 ((only_alloc [] _ _).drew) (by simp)
  have hsl : Sl (W.alloc (.cells (wcell (k, l)).toArray 135)).drew (.slice (some ⟨W.heap.size, 0, none⟩) 1 1) 65 1 (wcell (k, l)) := (sl_new rfl (by rw [hwl]) (by decide)).drew
  have lbW : b < W.heap.size := lt_of_heap hrW.1
  have hb3 := ((only_alloc [] W (.cells (wcell (k, l)).toArray 135)).drew).heap hrW.1 (by simp)
  have hnb3 : b ∉ vp.ownBlock.toList := by simpa using hn'.1.2.1
  have HB3 := Lib.hid hb3
  have HNB := Lib.hid hnb3
  have K2 := Lib.hid k2
  have HWL := Lib.hid hwl
  have HO2 := Lib.hid hown2
  have HSL := Lib.hid hsl
  have HRW := Lib.hid hrW
  clear hW k2 hwl hown2 hsl hrW hb3 hnb3 HCP HBS2 HCN HCF HCM HBS hdec h256
  generalize w1.heap.size = nb at *
  refine Reg.region1d [0, 0, 0, 0, 1, 1, 2, 3, 0, 0, 3] [0, 0, 2, 6, 14, 0, 32, 126, 255, 511, 1023] (by kernel_rfl) ?_
  intro Qr hQr
  go_wp2_with (first
   | ((with_reducible show wpList _ _ _ (⟨_, .load _ _, _, _, _, _⟩ :: _) _ _); refine load_row (x := .tmp 7) tWrite (wcell (k, l)) rfl rfl rfl K2.out HWL.out ?_)
   | ((with_reducible show wpList _ _ _ (⟨_, .buildSlice _ _ _, _, _, _, _⟩ :: _) _ _); go_must (refine one_slice (x := .tmp 29) (v := .agg (wcell (k, l)).toArray) eWrite (by decide) rfl rfl rfl (by simpa [Value.cells] using HWL.out) ?_))
   | ((with_reducible show wpList _ _ _ (⟨_, .call ⟨.builtin .append, _, _⟩, _, _, _, _⟩ :: _) _ _); go_must (refine append_row (s := .tmp 28) (x := .tmp 30) (v := vp) (xv := .slice (some ⟨W.heap.size, 0, none⟩) 1 1) eWrite rfl rfl rfl HO2.out rfl HSL.out (wcell_one _) (by unfold maxLen; omega) (by omega) ?_; intro v' w' hq1 hq2 hq3; obtain ⟨g', c', rfl, _, _⟩ := own_some hq1 (by omega); have hkb := hq2.heap HB3.out HNB.out; have hkc : w'.cell? ⟨b, 1, none⟩ = some vp := (by simp [World.cell?, hkb]); have hkf : w'.frozen? ⟨b, 1, none⟩ = false := (by simp [World.frozen?, hkb]); have HQ1 := Lib.hid hq1; have HQ2 := Lib.hid hq2; have HQ3 := Lib.hid hq3; have HKB := Lib.hid hkb; clear hq1 hq2 hq3 hkb)))
  refine ⟨by rfl, ?_⟩
  go_wp2
  go_ret
  have hraw2 := HRW.out
  have hq2 := HQ2.out
  have oWw : Only vp.ownBlock.toList W w' := ((only_alloc _ _ _).drew).trans hq2
  have oT : Only (dfoot b bs1 vp vs) w1 (w'.setCell ⟨b, 1, none⟩ (.slice (some ⟨g', 0, none⟩) (d1.pend.length + 1) c')) :=
   (oW.mono (by simp)).trans ((oWw.mono (fun x hx => .inl (by simp only [dfoot, List.mem_cons, List.mem_append]; exact .inr (.inr (.inl hx))))).trans (only_setCell _ _ _ (by simp [dfoot])))
  have hg' : vp.ownBlock = some g' ∨ W.heap.size ≤ g' := (HQ3.out g' rfl).imp id (fun h => Nat.le_trans (by simp) h)
  have hgb : g' ≠ b := by
   rcases hg' with h | h
   ·intro e; exact hn'.1.2.1 (by rw [h, e])
   ·intro e; omega
  have hgs : g' ≠ bs1 := by
   rcases hg' with h | h
   ·intro e; exact hn'.2.1.1 (by rw [h, e])
   ·have := lt_of_heap hraw2.2.1; intro e; omega
  have hgv : vs.ownBlock ≠ some g' := by
   rcases hg' with h | h
   ·intro e
    have hn3 := hn'.2.2
    rw [h, e] at hn3
    simp at hn3
   ·intro e; have := own_lt hraw2.2.2.2 e; omega
  have hsec' : w'.heap[bs1]? = some (.cells (u8s d1.secs.flatten).toArray 133 (0, 0)) := oWw.heap hraw2.2.1 (by simpa using hn'.2.1.1)
  have hvs' : w'.ownsRow 0 4 1 vs d1.surv.length (d1.surv.map Value.bool) := own_only hraw2.2.2.2 oWw (fun j hj hm => by
   have hn3 := hn'.2.2
   have : vp.ownBlock = some j := by simpa using hm
   rw [this, hj] at hn3
   simp at hn3)
  refine ⟨rfl, DiskTo.trans ho1 hf1 ⟨dfoot b bs1 (.slice (some ⟨g', 0, none⟩) (d1.pend.length + 1) c') vs, ⟨hwf1, bs1, _, vs, ⟨?_, ?_, ?_, ?_⟩, rfl, ?_⟩, ?_, oT⟩⟩
  ·rw [heap_setCell_same _ _ _ _ _ _ HKB.out]; simp
  ·rw [heap_setCell_other _ _ _ _ (Ne.symm hn'.1.1)]; exact hsec'
  ·have := own_setCell HQ1.out (a := ⟨b, 1, none⟩) (.slice (some ⟨g', 0, none⟩) (d1.pend.length + 1) c') (by simpa [Value.ownBlock] using hgb)
   rw [show d1.pend.length + 1 = (d1.pend ++ [(k, l)]).length by simp] at this ⊢
   simpa [pcells_app, pcells] using this
  ·exact own_setCell hvs' _ hn'.1.2.2
  ·exact foot_set_p hnd hgb hgs hgv
  ·intro j hj
   simp only [dfoot, Value.ownBlock, Option.toList, List.singleton_append, List.mem_cons] at hj
   rcases hj with rfl | rfl | rfl | hj
   ·left; simp [dfoot]
   ·left; simp [dfoot]
   ·rcases hg' with h | h
    ·left; simp [dfoot, h]
    ·right; exact Nat.le_trans oW.size h
   ·left; simp only [dfoot, List.mem_cons, List.mem_append]; exact .inr (.inr (.inr hj))
theorem Read_far (b : Nat) (d : DM) (F : List Nat) (n : Int) (w : World) (h : DiskAt w b d F) (hin : d.inB n = false) :
  Calls Tryz.prog 108 #[.pointer (some ⟨b, 0, none⟩), .int .i64 n] w fun e w' => e = .returned (.tuple #[.slice none 0 0, .int .i64 4]) ∧ w = w' := by
 obtain ⟨bs, c0⟩ := h.c0
 have h256 := h.1.hi
 have hdec : decide ((0 : Int) ≤ n ∧ n < (d.secs.length : Int)) = false := hin
 clear hin h
 go_enter Tryz.func108, Tryz.ntmps108
 go_wp2_with (go_at_call 130; refine (has_any _ _ _ _ _ h256 c0).mono ?_; rintro e w' ⟨rfl, rfl⟩; rw [hdec])
 go_ret2
 exact ⟨rfl, rfl⟩
theorem Read_off (b : Nat) (d : DM) (F : List Nat) (n : Int) (w : World) (h : DiskAt w b d F) (hin : d.inB n = true) (hoff : d.off = true) :
  Calls Tryz.prog 108 #[.pointer (some ⟨b, 0, none⟩), .int .i64 n] w fun e w' => e = .returned (.tuple #[.slice none 0 0, .int .i64 9]) ∧ w = w' := by
 obtain ⟨bs, c0⟩ := h.c0
 have c2 := h.c2
 rw [hoff] at c2
 have h256 := h.1.hi
 have hdec : decide ((0 : Int) ≤ n ∧ n < (d.secs.length : Int)) = true := hin
 clear hin h hoff
 go_enter Tryz.func108, Tryz.ntmps108
 go_wp2_with (go_at_call 130; refine (has_any _ _ _ _ _ h256 c0).mono ?_; rintro e w' ⟨rfl, rfl⟩; rw [hdec])
 go_ret2
 exact ⟨rfl, rfl⟩
def curTo (d : DM) (n i : Nat) : List UInt8 := (d.pend.take i).foldl (fun c p => if p.1 = n then p.2 else c) (d.sec n)
theorem curTo_succ (d : DM) (n : Nat) {i : Nat} (h : i < d.pend.length) : curTo d n (i + 1) = if d.pend[i].1 = n then d.pend[i].2 else curTo d n i := by
 unfold curTo; rw [take_snoc' _ h, List.foldl_append]; rfl
theorem curTo_len {d : DM} (hw : d.Wf) {n : Nat} (hn : n < d.secs.length) (i : Nat) : (curTo d n i).length = 64 := by
 induction i with
 | zero => simp only [curTo, List.take_zero, List.foldl_nil, DM.sec]; rw [List.getElem?_eq_getElem hn]; exact hw.sec _ (List.getElem_mem hn)
 | succ i ih =>
  by_cases h : i < d.pend.length
  ·rw [curTo_succ d n h]
   split
   ·exact (hw.pnd _ (List.getElem_mem h)).2
   ·exact ih
  ·have e : curTo d n (i + 1) = curTo d n i := by
    unfold curTo; rw [List.take_of_length_le (by omega), List.take_of_length_le (by omega)]
   rw [e]; exact ih
theorem Read_in (b : Nat) (d : DM) (F : List Nat) (k : Nat) (w : World) (hd : DiskAt w b d F) (hk : k < d.secs.length) (hoff : d.off = false) :
  Calls Tryz.prog 108 #[.pointer (some ⟨b, 0, none⟩), .int .i64 k] w fun e w' => ∃ v, e = .returned (.tuple #[v, .int .i64 0]) ∧ NewB w w' v (d.cur k) ∧ Only [] w w' := by
 obtain ⟨hwf, bs, vp, vs, hraw, rfl, hnd⟩ := hd
 have c0 : w.cell? ⟨b, 0, none⟩ = some (.slice (some ⟨bs, 0, none⟩) d.secs.length d.secs.length) := by simp [World.cell?, hraw.1]
 have c1 : w.cell? ⟨b, 1, none⟩ = some vp := by simp [World.cell?, hraw.1]
 have c2 : w.cell? ⟨b, 2, none⟩ = some (.bool false) := by simp [World.cell?, hraw.1, hoff]
 have hr := hraw.range hwf hk
 have hl : (u8s d.secs[k]).length = 64 := by rw [u8s_len]; exact hwf.sec _ (List.getElem_mem hk)
 have h256 := hwf.hi
 have hz : (0 : Int) ≤ (k : Int) := by omega
 have hki : (k : Int) < (d.secs.length : Int) := by omega
 have hdec : decide ((0 : Int) ≤ (k : Int) ∧ (k : Int) < (d.secs.length : Int)) = true := by simp; omega
 have hS0 : curTo d k 0 = d.secs[k] := by simp [curTo, DM.sec, List.getElem?_eq_getElem hk]
 have hcl := curTo_len hwf hk
 have hfin : d.cur k = curTo d k d.pend.length := by simp [curTo, DM.cur]
 rw [hfin]
 obtain ⟨va, vc, rfl, hpl, hpc, hpm, _⟩ := own_sl hraw.2.2.1
 unfold maxLen at hpm
 have hpl' : d.pend.length ≤ 9223372036854775807 := by omega
 rw [← hS0] at hr hl
 have HL := Lib.hid hl
 have HCL := Lib.hid hcl
 have HPL := Lib.hid hpl
 have lb := lt_of_heap hraw.1
 clear hl hk hfin hcl hpl hS0
 go_enter Tryz.func108, Tryz.ntmps108
 go_wp2_with (first
  | (go_at_call 130; refine (has_any _ _ _ _ _ h256 c0).mono ?_; rintro e w' ⟨rfl, rfl⟩; rw [hdec])
  | ((with_reducible show wpList _ _ _ (⟨_, .load _ _, _, _, _, _⟩ :: _) _ _); refine load_row (x := .tmp 22) tSec (u8s (curTo d k 0)) rfl rfl rfl hr HL.out ?_)
  | ((with_reducible show wpList _ _ _ (⟨_, .alloc _, _, _, _, _⟩ :: _) _ _); refine alloc_row tSec rfl rfl ?_)
  | ((with_reducible show wpList _ _ _ (⟨_, .store _ _ _, _, _, _, _⟩ :: _) _ _); refine store_new (x := .tmp 6) (y := .tmp 23) tSec _ rfl rfl rfl rfl zSec_size (by simpa using HL.out) (all_oneCell_toArray (u8s_one _)) ?_))
 go_loopw [29] (fun c wr => ∃ i : Nat, i ≤ d.pend.length ∧ c = .int .i64 i ∧ Only [] w wr ∧ wr.heap[w.heap.size]? = some (.cells (u8s (curTo d k i)).toArray 133 (0, 0))) (fun c _ => d.pend.length - (intOf c).toNat)
 case atStart => exact ⟨0, Nat.zero_le _, rfl, only_alloc _ _ _, heap_alloc_new _ _⟩
 case round =>
  obtain ⟨i, hi, rfl, hon', hsec⟩ := hrel
  have lbs : w.heap.size < wr.heap.size := lt_of_heap hsec
  by_cases hlt : i < d.pend.length
  ·obtain ⟨g, c, hvp, _, _⟩ := own_some hraw.2.2.1 (by omega)
   cases hvp
   have hown : wr.ownsRow 0 135 65 (.slice (some ⟨g, 0, none⟩) d.pend.length vc) d.pend.length (pcells d.pend) := own_only hraw.2.2.1 hon' (by simp)
   have hp64 : ∀ p ∈ d.pend, p.2.length = 64 := fun p hp => (hwf.pnd p hp).2
   have hrng : wr.rangeAt g (i * 65) (wcell d.pend[i]) := own_range hown rfl (by rw [wcell_len (hp64 _ (List.getElem_mem hlt)), pcells_at hp64 hlt])
   have hwl : (wcell d.pend[i]).length = 65 := wcell_len (hp64 _ (List.getElem_mem hlt))
   have hq := hwf.pnd _ (List.getElem_mem hlt)
   have hsn := curTo_succ d k hlt
   have hcl := HCL.out i
   generalize d.pend[i] = q at *
   obtain ⟨qa, qc⟩ := q
   simp only at hq hsn hrng hwl
   have hlti : (i : Int) < (d.pend.length : Int) := by omega
   have HSN := Lib.hid hsn
   have HWL := Lib.hid hwl
   have HSEC := Lib.hid hsec
   have HCLI := Lib.hid hcl
   clear hsn hwl hsec hcl
   have hq0 : (wr.alloc (.cells (wcell (qa, qc)).toArray 135)).cell? ⟨wr.heap.size, 0, none⟩ = some (.int .i64 qa) := by
    rw [cell_of_row _ _ _ _ _ _ (heap_alloc_new _ _)]; rfl
   by_cases he : qa = k
   ·have hqe : ((qa : Int) == (k : Int)) = true := by simp [he]
    have HE := Lib.hid he
    clear he
    have hql : (u8s qc).length = 64 := by rw [u8s_len]; exact hq.2
    have hr2 : (wr.alloc (.cells (wcell (qa, qc)).toArray 135)).rangeAt wr.heap.size 1 (u8s qc) := range_alloc_new _ _ _ _ _ (by simp [wcell])
    have hb2 : (wr.alloc (.cells (wcell (qa, qc)).toArray 135)).heap[w.heap.size]? = some (.cells (u8s (curTo d k i)).toArray 133 (0, 0)) := by
     rw [heap_alloc_old _ _ lbs]; exact HSEC.out
    have hfit : 0 + 64 ≤ (u8s (curTo d k i)).toArray.size := by simp [u8s_len, HCLI.out]
    have HR2 := Lib.hid hr2
    have HB2 := Lib.hid hb2
    have HQL := Lib.hid hql
    have HFIT := Lib.hid hfit
    clear hr2 hb2 hql hfit
    go_wp2_with (first
     | ((with_reducible show wpList _ _ _ (⟨_, .load _ _, _, _, _, _⟩ :: _) _ _); refine load_row (x := .tmp 37) tSec (u8s qc) rfl rfl rfl HR2.out HQL.out ?_)
     | ((with_reducible show wpList _ _ _ (⟨_, .store _ _ _, _, _, _, _⟩ :: _) _ _); refine store_row (x := .tmp 6) (y := .tmp 38) tSec _ _ (u8s qc).toArray rfl rfl rfl rfl HB2.out (by simpa using HQL.out) HFIT.out (all_oneCell_toArray (u8s_one _)) ?_)
     | ((with_reducible show wpList _ _ _ (⟨_, .load _ _, _, _, _, _⟩ :: _) _ _); refine load_row (x := .tmp 31) tWrite (wcell (qa, qc)) rfl rfl rfl hrng HWL.out ?_)
     | ((with_reducible show wpList _ _ _ (⟨_, .alloc _, _, _, _, _⟩ :: _) _ _); refine alloc_row tWrite rfl rfl ?_)
     | ((with_reducible show wpList _ _ _ (⟨_, .store _ _ _, _, _, _, _⟩ :: _) _ _); refine store_new (x := .tmp 8) (y := .tmp 32) tWrite _ rfl rfl rfl rfl zWrite_size (by simpa using HWL.out) (all_oneCell_toArray (wcell_one _)) ?_))
    go_roundw
    case rel =>
     refine ⟨i + 1, by omega, by go_num, hon'.trans' ((only_alloc [w.heap.size] _ _).trans (only_setRow _ _ _ (by simp))) (fun x hx => .inr (by simp at hx; omega)), ?_⟩
     rw [setRow_heap _ _ _ _ _ _ HB2.out, HSN.out, if_pos HE.out]
     have e1 := HCLI.out
     have e2 := HQL.out
     rw [List.drop_of_length_le (by simp [u8s_len, e1]; rw [u8s_len] at e2; omega)]
     simp
    case measure => simp [intOf]; omega
   ·have hqe : ((qa : Int) == (k : Int)) = false := by simp; omega
    have HE := Lib.hid he
    clear he
    go_wp2_with (first
     | ((with_reducible show wpList _ _ _ (⟨_, .load _ _, _, _, _, _⟩ :: _) _ _); refine load_row (x := .tmp 31) tWrite (wcell (qa, qc)) rfl rfl rfl hrng HWL.out ?_)
     | ((with_reducible show wpList _ _ _ (⟨_, .alloc _, _, _, _, _⟩ :: _) _ _); refine alloc_row tWrite rfl rfl ?_)
     | ((with_reducible show wpList _ _ _ (⟨_, .store _ _ _, _, _, _, _⟩ :: _) _ _); refine store_new (x := .tmp 8) (y := .tmp 32) tWrite _ rfl rfl rfl rfl zWrite_size (by simpa using HWL.out) (all_oneCell_toArray (wcell_one _)) ?_))
    go_roundw
    case rel =>
     refine ⟨i + 1, by omega, by go_num, hon'.trans (only_alloc _ _ _), ?_⟩
     rw [heap_alloc_old _ _ lbs, HSEC.out, HSN.out, if_neg HE.out]
    case measure => simp [intOf]; omega
  ·have he : i = d.pend.length := by omega
   subst he
   have HSEC := Lib.hid hsec
   clear hsec
   go_wp2
   go_ret2
   have hcl := HCL.out d.pend.length
   exact ⟨.slice (some ⟨w.heap.size, 0, none⟩) 64 64, rfl, ⟨133, by simp [u8s_len], .inr ⟨w.heap.size, 64, _, by rw [hcl], Nat.le_refl _, HSEC.out, by omega, by decide, by simp [u8s_len, hcl], by rw [List.take_of_length_le]; simp [u8s_len]⟩⟩, hon'⟩
theorem e_clone_bool : ElT Tryz.prog 49 4 1 1 (.bool false) := elT Tryz.underlying49 (by kernel_rfl) rfl (by decide)
set_option maxHeartbeats 400000 in
theorem clone_bool (v : Value) (n : Nat) (xs : List Value) (w : World) (h : Sl w v 1 n xs) (h1 : ∀ u ∈ xs, u.oneCell' = true) (hb : n * 1 ≤ 140737488355328) :
  Calls Tryz.prog 62 #[v] w fun e w' => ∃ v', e = .returned v' ∧ w'.ownsRow w.heap.size 4 1 v' n xs ∧ Only [] w w' := by
 obtain ⟨a, c, rfl, hl, hc, hm, hcells⟩ := h
 have hq := fun (w : World) (a : Option Addr) (n c : Nat) => Lib.run_eql_slice_nil (P := Tryz.prog) w 49 4 a n c 0 0 Tryz.underlying49
 cases a with
 | none =>
  have hn : xs = [] := by
   cases xs with
   | nil => rfl
   | cons x r => obtain ⟨_, he, _⟩ := hcells 0 x rfl; cases he
  subst hn
  have hn0 : n = 0 := by simp at hl; omega
  subst hn0
  go_enter Tryz.func62, Tryz.ntmps62
  go_wp2
  go_ret
  exact ⟨_, rfl, World.ownsRow_nil _ _ _ _, Only.refl _ _⟩
 | some ad =>
  have hsl : Sl (w.alloc (.cells #[] 4)) (.slice (some ad) n c) 1 n xs := Sl.only (S := []) ⟨_, c, rfl, hl, hc, hm, hcells⟩ (only_alloc _ _ _) (by simp)
  have hown : (w.alloc (.cells #[] 4)).ownsRow 0 4 1 (.slice (some ⟨w.heap.size, 0, none⟩) 0 0) 0 [] := World.ownsRow_made w #[] 0 (Nat.zero_le _) (by decide) (by simp)
  have HSL := Lib.hid hsl
  have HOWN := Lib.hid hown
  have hm' : n ≤ maxLen := Nat.le_trans hc hm
  clear hsl hown hcells hl
  go_enter Tryz.func62, Tryz.ntmps62
  go_wp2_with ((with_reducible show wpList _ _ _ (⟨_, .call ⟨.builtin .append, _, _⟩, _, _, _, _⟩ :: _) _ _); refine append_row (s := .tmp 5) (x := .tmp 6) (v := .slice (some ⟨w.heap.size, 0, none⟩) 0 0) (xv := .slice (some ad) n c) e_clone_bool rfl rfl rfl HOWN.out rfl HSL.out h1 (by omega) (by omega) ?_; intro v' w' hq1 hq2 hq3; have HQ1 := Lib.hid hq1; have HQ2 := Lib.hid hq2; have HQ3 := Lib.hid hq3; clear hq1 hq2 hq3)
  go_ret
  refine ⟨v', rfl, ?_, ?_⟩
  ·have h1 := HQ1.out
   rw [Nat.zero_add, List.nil_append] at h1
   exact own_base h1 (fun k hk => by
    rcases HQ3.out k hk with h | h
    ·cases h; exact Nat.le_refl _
    ·simp at h; omega)
  ·exact (only_alloc [] _ _).trans' HQ2.out (fun x hx => .inr (by simp [Value.ownBlock] at hx; omega))
theorem bools_one (l : List Bool) : ∀ u ∈ l.map Value.bool, u.oneCell' = true := by
 intro u hu; obtain ⟨b, _, rfl⟩ := List.mem_map.1 hu; rfl
theorem foot_nil_v {b bs : Nat} {vp vs : Value} (h : (dfoot b bs vp vs).Nodup) : (dfoot b bs vp (.slice none 0 0)).Nodup :=
 h.sublist (((List.Sublist.append_left (List.nil_sublist _) vp.ownBlock.toList).cons_cons bs).cons_cons b)
theorem foot_set_v {b bs : Nat} {vp vs : Value} (h : (dfoot b bs vp vs).Nodup) {v : Value} (hv : ∀ g, v.ownBlock = some g → g ≠ b ∧ g ≠ bs ∧ vp.ownBlock ≠ some g) : (dfoot b bs vp v).Nodup := by
 have h' : (b :: bs :: (vp.ownBlock.toList ++ [])).Nodup := foot_nil_v h
 cases hq : v.ownBlock with
 | none => simp only [dfoot, hq]; exact h'
 | some g =>
  obtain ⟨h1, h2, h3⟩ := hv g hq
  simp only [dfoot, hq]
  cases hp : vp.ownBlock with
  | none => rw [hp] at h'; simp at h' ⊢; exact ⟨⟨h', Ne.symm h1⟩, Ne.symm h2⟩
  | some k =>
   have h3' : g ≠ k := fun e => h3 (by rw [hp, e])
   rw [hp] at h'; simp at h' ⊢
   exact ⟨⟨h'.1.1, h'.1.2, Ne.symm h1⟩, ⟨h'.2, Ne.symm h2⟩, Ne.symm h3'⟩
theorem disarm_to {b : Nat} {d : DM} {bs : Nat} {vp vs : Value} {w : World} (hw : d.Wf) (hr : DiskRaw w b d bs vp vs) (hn : (dfoot b bs vp vs).Nodup) :
  DiskRaw (w.setRow b #[.slice (some ⟨bs, 0, none⟩) d.secs.length d.secs.length, vp, .bool d.off, .bool false, .int .i64 0, .slice none 0 0]) b d.disarm bs vp (.slice none 0 0) := by
 have hn' := hn
 simp only [dfoot, List.nodup_cons, List.mem_cons, List.mem_append, Option.mem_toList, not_or] at hn'
 refine ⟨?_, ?_, own_setRow hr.2.2.1 _ hn'.1.2.1, World.ownsRow_nil _ _ _ _⟩
 ·rw [setRow_heap _ _ _ _ _ _ hr.1]; rfl
 ·rw [setRow_other _ _ _ _ (fun e => hn'.1.1 e.symm)]; exact hr.2.1
set_option maxHeartbeats 400000 in
theorem Arm_at (b : Nat) (d : DM) (F : List Nat) (n : Int) (vsv : Value) (sv : List Bool) (w : World) (h : DiskAt w b d F) (hst : Stable w F vsv 1 sv.length (sv.map Value.bool))
  (hn : n ≤ 9223372036854775807) (hsv : sv.length ≤ 140737488355328) :
  Calls Tryz.prog 31 #[.pointer (some ⟨b, 0, none⟩), .int .i64 n, vsv] w fun e w' => e = .returned (.tuple #[]) ∧ DiskTo w w' b (d.arm n sv) F := by
 have hwf' := h.1.arm n sv hn
 have c2 := h.c2
 have hd := h
 have HST := Lib.hid hst
 clear hst
 cases hoff : d.off with
 | true =>
  have he : d.arm n sv = d := by simp [DM.arm, hoff]
  rw [he]
  rw [hoff] at c2
  clear hoff he hwf'
  go_enter Tryz.func31, Tryz.ntmps31
  go_wp2
  exact bodyPost_ret (v := .tuple #[]) (by simp [results, Tryz.results31]) rfl ⟨rfl, F, hd, fun k hk => .inl hk, Only.refl _ _⟩
 | false =>
  obtain ⟨hw, bs, vp, vs, hr, rfl, hnd⟩ := h
  have hraw1 := disarm_to hw hr hnd
  have hn' := hnd
  simp only [dfoot, List.nodup_cons, List.mem_cons, List.mem_append, Option.mem_toList, not_or] at hn'
  rw [hoff] at c2
  generalize hW : w.setRow b #[.slice (some ⟨bs, 0, none⟩) d.secs.length d.secs.length, vp, .bool d.off, .bool false, .int .i64 0, .slice none 0 0] = W at hraw1
  have oW : Only (dfoot b bs vp vs) w W := by rw [← hW]; exact only_setRow _ _ _ (by simp [dfoot])
  have hdis := disarm_any b _ _ _ _ _ _ _ w hr.1
  rw [hW] at hdis
  have HD := Lib.hid hdis
  clear hdis hW
  by_cases hneg : n < 0
  ·have he : d.arm n sv = d.disarm := by simp [DM.arm, hoff, hneg]
   rw [he] at hwf' ⊢
   clear hoff he
   go_enter Tryz.func31, Tryz.ntmps31
   go_wp2_with (go_at_call 61; refine HD.out.mono ?_; rintro e w' ⟨rfl, rfl⟩)
   exact bodyPost_ret (v := .tuple #[]) (by simp [results, Tryz.results31]) rfl ⟨rfl, dfoot b bs vp (.slice none 0 0), ⟨hwf', bs, vp, _, hraw1, rfl, foot_nil_v hnd⟩, fun k hk => .inl (by
    simp only [dfoot, List.mem_cons, List.mem_append] at hk ⊢
    rcases hk with h | h | h | h
    ·exact .inl h
    ·exact .inr (.inl h)
    ·exact .inr (.inr (.inl h))
    ·simp [Value.ownBlock] at h), oW⟩
  ·have he : d.arm n sv = { d with armed := true, left := n, surv := sv } := by simp [DM.arm, hoff, hneg]
   have hb := hraw1.1
   rw [he] at hwf' ⊢
   have k3 : W.cell? ⟨b, 3, none⟩ = some (.bool false) := by simp [World.cell?, hb, DM.disarm]
   have k4 : W.cell? ⟨b, 4, none⟩ = some (.int .i64 0) := by simp [World.cell?, hb, DM.disarm]
   have k5 : W.cell? ⟨b, 5, none⟩ = some (.slice none 0 0) := by simp [World.cell?, hb]
   have kf : ∀ o, W.frozen? ⟨b, o, none⟩ = false := by simp [World.frozen?, hb]
   have h3 := heap_setCell_same _ b 3 _ _ (.bool true) hb
   have h4 := heap_setCell_same _ b 4 _ _ (.int .i64 n) h3
   generalize hX : (W.setCell ⟨b, 3, none⟩ (.bool true)).setCell ⟨b, 4, none⟩ (.int .i64 n) = X at h4
   have oX : Only [b] W X := by rw [← hX]; exact (only_setCell _ _ _ (by simp)).trans (only_setCell _ _ _ (by simp))
   have hslX : Sl X vsv 1 sv.length (sv.map Value.bool)   := HST.out X (oW.trans (oX.mono (fun x hx => .inl (by simp at hx; simp [dfoot, hx]))))
   have hclone := clone_bool vsv sv.length _ X hslX (bools_one sv) (by omega)
   rw [← hX] at hclone
   have HC := Lib.hid hclone
   have HX := Lib.hid hX
   clear hoff he hclone hX
   go_enter Tryz.func31, Tryz.ntmps31
   go_wp2_with (first
    | (go_at_call 61; refine HD.out.mono ?_; rintro e w' ⟨rfl, rfl⟩)
    | (go_at_call 62; refine HC.out.mono ?_; rw [HX.out]; rintro e w' ⟨v', rfl, hq1, hq2⟩; have hkb := hq2.heap h4 (by simp); have hkc : w'.cell? ⟨b, 5, none⟩ = some (.slice none 0 0) := (by simp [World.cell?, hkb]); have hkf : w'.frozen? ⟨b, 5, none⟩ = false := (by simp [World.frozen?, hkb]); obtain ⟨va, vc, rfl, _⟩ := own_sl hq1; have HQ1 := Lib.hid hq1; have HKB := Lib.hid hkb; clear hq1 hkb))
   go_end0
   have hq1 := HQ1.out
   have lX : ∀ g, (Value.slice va sv.length vc).ownBlock = some g → X.heap.size ≤ g := fun g hg => (hq1.lt g hg).1
   have szs : w.heap.size ≤ X.heap.size := Nat.le_trans oW.size oX.size
   have o2 : Only (dfoot b bs vp vs) w (w'.setCell ⟨b, 5, none⟩ (.slice va sv.length vc)) :=
    oW.trans ((oX.mono (fun x hx => .inl (by simp at hx; simp [dfoot, hx]))).trans ((hq2.mono (by simp)).trans (only_setCell _ _ _ (by simp [dfoot]))))
   refine ⟨rfl, dfoot b bs vp (.slice va sv.length vc), ⟨hwf', bs, vp, _, ⟨?_, ?_, ?_, ?_⟩, rfl, foot_set_v hnd (fun g hg => ?_)⟩, ?_, o2⟩
   ·rw [heap_setCell_same _ _ _ _ _ _ HKB.out]; rfl
   ·rw [heap_setCell_other _ _ _ _ (fun e => hn'.1.1 e.symm)]
    exact hq2.heap (oX.heap hraw1.2.1 (by simpa using fun e => hn'.1.1 e.symm)) (by simp)
   ·refine own_setCell (own_only (own_only hraw1.2.2.1 oX (fun j hj hm => ?_)) hq2 (by simp)) _ hn'.1.2.1
    simp at hm; subst hm; exact hn'.1.2.1 hj
   ·refine own_base (own_setCell hq1 _ (fun e => ?_)) (fun _ _ => Nat.zero_le _)
    have := lX _ e
    have := lt_of_heap h4
    simp at *; omega
   ·have := lX g hg
    have l1 := lt_of_heap hr.1
    have l2 := lt_of_heap hr.2.1
    refine ⟨by omega, by omega, fun e => ?_⟩
    have := own_lt hr.2.2.1 e
    omega
   ·intro j hj
    simp only [dfoot, List.mem_cons, List.mem_append, Option.mem_toList] at hj ⊢
    rcases hj with h | h | h | h
    ·exact .inl (.inl h)
    ·exact .inl (.inr (.inl h))
    ·exact .inl (.inr (.inr (.inl h)))
    ·right; exact Nat.le_trans szs (lX j h)
theorem foot_nil_pv {b bs : Nat} {vp vs : Value} (h : (dfoot b bs vp vs).Nodup) : (dfoot b bs (.slice none 0 0) (.slice none 0 0)).Nodup := foot_nil_v (foot_nil_p h)
set_option maxHeartbeats 400000 in
theorem Power_at (b : Nat) (d : DM) (F : List Nat) (w : World) (h : DiskAt w b d F) :
  Calls Tryz.prog 32 #[.pointer (some ⟨b, 0, none⟩)] w fun e w' => e = .returned (.tuple #[]) ∧ DiskTo w w' b d.power F := by
 have hwf' := h.1.power
 obtain ⟨hw, bs, vp, vs, hr, rfl, hnd⟩ := h
 have hb := hr.1
 have k1 : w.cell? ⟨b, 1, none⟩ = some vp := by simp [World.cell?, hb]
 have k2 : w.cell? ⟨b, 2, none⟩ = some (.bool d.off) := by simp [World.cell?, hb]
 have kf : ∀ o, w.frozen? ⟨b, o, none⟩ = false := by simp [World.frozen?, hb]
 have h2 := heap_setCell_same _ b 2 _ _ (.bool false) hb
 have h3 := heap_setCell_same _ b 1 _ _ (.slice none 0 0) h2
 have hn' := hnd
 simp only [dfoot, List.nodup_cons, List.mem_cons, List.mem_append, Option.mem_toList, not_or] at hn'
 have H3 := Lib.hid h3
 clear h2 h3 hb
 go_enter Tryz.func32, Tryz.ntmps32
 go_wp2_with (go_at_call 61; refine (disarm_any b _ _ _ _ _ _ _ _ H3.out).mono ?_; rintro e w' ⟨rfl, rfl⟩)
 go_end0
 refine ⟨rfl, dfoot b bs (.slice none 0 0) (.slice none 0 0), ⟨hwf', bs, _, _, ⟨?_, ?_, World.ownsRow_nil _ _ _ _, World.ownsRow_nil _ _ _ _⟩, rfl, foot_nil_pv hnd⟩, ?_, ?_⟩
 ·rw [setRow_heap _ _ _ _ _ _ H3.out]; rfl
 ·rw [setRow_other _ _ _ _ (fun e => hn'.1.1 e.symm), heap_setCell_other _ _ _ _ (fun e => hn'.1.1 e.symm), heap_setCell_other _ _ _ _ (fun e => hn'.1.1 e.symm)]
  exact hr.2.1
 ·intro j hj
  simp [dfoot, Value.ownBlock] at hj
  left; rcases hj with rfl | rfl <;> simp [dfoot]
 ·exact (only_setCell _ _ _ (by simp [dfoot])).trans ((only_setCell _ _ _ (by simp [dfoot])).trans (only_setRow _ _ _ (by simp [dfoot])))
theorem build_disk (a : Option Addr) (n c : Nat) (w : World) : (Instr.build 131 #[(0, .slice a n c)]).run Tryz.prog w = .ok (.agg #[.slice a n c, .slice none 0 0, .bool false, .bool false, .int .i64 0, .slice none 0 0]) w := by kernel_rfl
theorem eSec : ElT Tryz.prog 128 133 64 64 (.agg zSec) := elT Tryz.underlying128 (by kernel_rfl) zSec_size (by decide)
set_option maxHeartbeats 400000 in
theorem New_ok (n : Nat) (w : World) (h1 : 1 ≤ n) (h2 : n ≤ 256) :
  Calls Tryz.prog 34 #[.int .i64 n] w fun e w' => ∃ b F, e = .returned (.tuple #[.pointer (some ⟨b, 0, none⟩), .int .i64 0]) ∧ DiskAt w' b (DM.new n) F ∧ (∀ k ∈ F, w.heap.size ≤ k) ∧ Only [] w w' := by
 have hd : decide ((n : Int) < 1) = false := by simp; omega
 have hd2 : decide (256 < (n : Int)) = false := by simp; omega
 have hmade : madeCells (Value.agg zSec).cells (n * 64) = (u8s (DM.new n).secs.flatten).toArray := by
  show madeCells zSec (n * 64) = _
  rw [made_rep (z := zSec) (x := .int .u8 0) (k := 64) rfl (by decide)]
  congr 1
  simp only [DM.new, u8s]
  rw [List.flatten_replicate_replicate, List.map_replicate]
  rfl
 go_enter Tryz.func34, Tryz.ntmps34
 go_wp2_with (first
  | ((with_reducible show wpList _ _ _ (⟨_, .makeSlice _ _ _, _, _, _, _⟩ :: _) _ _); refine make_sl (l := .tmp 10) (c := .tmp 10) (n := n) (m := n) eSec rfl rfl rfl rfl (Nat.le_refl _) (by omega) (by omega) ?_; rw [hmade])
  | ((with_reducible show wpList _ _ _ (⟨_, .build _ _, _, _, _, _⟩ :: _) _ _); refine build_at (build_disk (some ⟨w.heap.size, 0, none⟩) n n) rfl rfl rfl ?_))
 go_ret2
 refine ⟨w.heap.size + 1, dfoot (w.heap.size + 1) w.heap.size (.slice none 0 0) (.slice none 0 0), rfl, ⟨DM.Wf.new h1 h2, w.heap.size, _, _, ⟨?_, ?_, World.ownsRow_nil _ _ _ _, World.ownsRow_nil _ _ _ _⟩, rfl, by simp [dfoot, Value.ownBlock]⟩, ?_, (only_alloc _ _ _).trans (only_alloc _ _ _)⟩
 ·have := heap_alloc_new (w.alloc (.cells (u8s (DM.new n).secs.flatten).toArray 133)) (.cells #[.slice (some ⟨w.heap.size, 0, none⟩) n n, .slice none 0 0, .bool false, .bool false, .int .i64 0, .slice none 0 0] 131)
  simpa [DM.new] using this
 ·rw [heap_alloc_old _ _ (by simp)]
  exact heap_alloc_new _ _
 ·intro k hk
  simp [dfoot, Value.ownBlock] at hk
  omega
def zs (i : Nat) : ByteArray := ⟨(List.replicate i (0 : UInt8)).toArray⟩
theorem zs_size (i : Nat) : (zs i).size = i := by simp [zs, ByteArray.size]
theorem zs_succ (i : Nat) : zs i ++ ⟨#[0]⟩ = zs (i + 1) := by
 apply ByteArray.ext
 simp [zs, ByteArray.data_append, Array.replicate_succ]
theorem Noughts_at (w : World) : Calls Tryz.prog 90 #[] w fun e w' => e = .returned (.string (zs 64)) ∧ w = w' := by
 go_enter Tryz.func90, Tryz.ntmps90
 go_wp2
 go_loop [1, 2] (fun s c => ∃ i : Nat, i ≤ 64 ∧ c = .int .i64 i ∧ s = .string (zs i)) (fun _ c => 64 - (intOf c).toNat)
 case atStart => exact ⟨0, by omega, rfl, rfl⟩
 case round =>
  obtain ⟨i, hi, rfl, rfl⟩ := hrel
  have hsz := zs_size i
  by_cases hlt : i < 64
  ·have hlti : (i : Int) < 64 := by omega
   have hsum : ((zs i).size : Int) + 1 ≤ 9223372036854775807 := by rw [hsz]; omega
   go_wp2
   go_round
   case rel => exact ⟨i + 1, by omega, by go_num, by rw [zs_succ]⟩
   case measure => simp [intOf]; omega
  ·have he : i = 64 := by omega
   subst he
   go_wp2
   go_ret
   exact ⟨rfl, rfl⟩
theorem newB_nil (w w' : World) : NewB w w' (.slice none 0 0) [] := ⟨0, World.ownsRow_nil _ _ _ _⟩
theorem Write_at (b : Nat) (d : DM) (F : List Nat) (n : Int) (bv : Value) (l : List UInt8) (w : World) (h : DiskAt w b d F) (hb : Bs w bv l) (hbf : ∀ j, bv.ownBlock = some j → j ∉ F) (hpl : d.pend.length ≤ 1000000) :
  Calls Tryz.prog 119 #[.pointer (some ⟨b, 0, none⟩), .int .i64 n, bv] w fun e w' => e = .returned (.int .i64 (d.write n l).2) ∧ DiskTo w w' b (d.write n l).1 F := by
 have same : DiskTo w w b d F := ⟨F, h, fun k hk => .inl hk, Only.refl _ _⟩
 cases hin : d.inB n with
 | false =>
  have e : d.write n l = (d, 4) := by simp [DM.write, hin]
  rw [e]
  exact (Write_far b d F n bv w h hin).mono fun e w' ⟨h1, h2⟩ => by subst h2; exact ⟨h1, same⟩
 | true =>
  by_cases hl : l.length = 64
  ·have h2 := hin
   simp only [DM.inB, decide_eq_true_eq] at h2
   obtain ⟨k, rfl⟩ := Int.eq_ofNat_of_zero_le h2.1
   exact Write_do b d F k bv l w h (by have := h2.2; omega) hl hb hbf hpl
  ·have e : d.write n l = (d, 1) := by simp [DM.write, hin, hl]
   rw [e]
   obtain ⟨ba, bc, rfl, _, h3, h4, _⟩ := hb
   exact (Write_len b d F n ba l.length bc w h hin hl (Nat.le_trans h3 h4)).mono fun e w' ⟨h1, h2⟩ => by subst h2; exact ⟨h1, same⟩
theorem Read_at (b : Nat) (d : DM) (F : List Nat) (n : Int) (w : World) (h : DiskAt w b d F) :
  Calls Tryz.prog 108 #[.pointer (some ⟨b, 0, none⟩), .int .i64 n] w fun e w' => ∃ v, e = .returned (.tuple #[v, .int .i64 (d.read n).2]) ∧ NewB w w' v (d.read n).1 ∧ Only [] w w' := by
 cases hin : d.inB n with
 | false =>
  have e : d.read n = ([], 4) := by simp [DM.read, hin]
  rw [e]
  exact (Read_far b d F n w h hin).mono fun e w' ⟨h1, h2⟩ => by subst h2; exact ⟨_, h1, newB_nil _ _, Only.refl _ _⟩
 | true =>
  cases hoff : d.off with
  | true =>
   have e : d.read n = ([], 9) := by simp [DM.read, hin, hoff]
   rw [e]
   exact (Read_off b d F n w h hin hoff).mono fun e w' ⟨h1, h2⟩ => by subst h2; exact ⟨_, h1, newB_nil _ _, Only.refl _ _⟩
  | false =>
   have h2 := hin
   simp only [DM.inB, decide_eq_true_eq] at h2
   obtain ⟨k, rfl⟩ := Int.eq_ofNat_of_zero_le h2.1
   have hk : k < d.secs.length := by have := h2.2; omega
   have e : d.read k = (d.cur k, 0) := by simp [DM.read, hin, hoff]
   rw [e]
   exact Read_in b d F k w h hk hoff
theorem diskAt_loc {w w' : World} {b : Nat} {d : DM} {F : List Nat} (h : DiskAt w b d F) (hk : ∀ k ∈ F, w'.heap[k]? = w.heap[k]?) : DiskAt w' b d F := by
 obtain ⟨hw, bs, vp, vs, ⟨h1, h2, h3, h4⟩, rfl, hn⟩ := h
 refine ⟨hw, bs, vp, vs, ⟨(hk b (by simp [dfoot])).trans h1, (hk bs (by simp [dfoot])).trans h2, own_kept h3 fun k hv => hk k (by simp [dfoot, hv]), own_kept h4 fun k hv => hk k (by simp [dfoot, hv])⟩, rfl, hn⟩
def dsk (b : Nat) (d : DM) : Asn := ⟨fun w F => DiskAt w b d F, diskAt_loc, fun h => h.lt⟩
section
variable {s : Ro} {w : World} {R : List Asn} {b : Nat} {d : DM}
theorem Holds.wf (H : Holds s w (dsk b d :: R)) : d.Wf := by obtain ⟨F, h⟩ := H.get (i := 0) rfl; exact h.1
theorem dsk_to {f : FuncId} {args : Array Value} {v : Value} {d' : DM} (H : Holds s w (dsk b d :: R)) (hc : ∀ F, DiskAt w b d F → Calls Tryz.prog f args w fun e w' => e = .returned v ∧ DiskTo w w' b d' F) :
  Calls Tryz.prog f args w fun e w' => e = .returned v ∧ Holds s w' (dsk b d' :: R) := by
 obtain ⟨F, h, k⟩ := H.call
 exact (hc F h).mono fun e w' ⟨he, F', h1, h2, h3⟩ => ⟨he, k (dsk b d') w' F' h1 h3 h2⟩
theorem dsk_same {f : FuncId} {args : Array Value} {v : Value} (H : Holds s w (dsk b d :: R)) (hc : ∀ F, DiskAt w b d F → Calls Tryz.prog f args w fun e w' => e = .returned v ∧ w = w') :
  Calls Tryz.prog f args w fun e w' => e = .returned v ∧ Holds s w' (dsk b d :: R) := by
 obtain ⟨F, h, k⟩ := H.call
 exact (hc F h).mono fun e w' ⟨he, h1⟩ => by subst h1; exact ⟨he, H⟩
theorem new_row {w' : World} {v : Value} {l : List UInt8} {rs : List Asn} (H : Holds s w rs) (h : NewB w w' v l) (ho : Only [] w w') : ∃ t aa cc, v = .slice aa l.length cc ∧ Holds s w' (row t 1 (.slice aa l.length cc) l.length (u8s l) :: rs) := by
 obtain ⟨t, hr⟩ := h
 obtain ⟨aa, cc, rfl, _⟩ := own_sl hr
 refine ⟨t, aa, cc, rfl, H.add (F1 := (Value.slice aa l.length cc).ownBlock.toList) ⟨rfl, own_base hr fun _ _ => Nat.zero_le _⟩ ho (fun k hk => ?_)⟩
 exact (hr.lt k (by simpa using hk)).1
theorem New_s {n : Nat} (H : Holds s w R) (h1 : 1 ≤ n) (h2 : n ≤ 256) : Calls Tryz.prog 34 #[.int .i64 n] w fun e w' => ∃ b, e = .returned (.tuple #[.pointer (some ⟨b, 0, none⟩), .int .i64 0]) ∧ Holds s w' (dsk b (DM.new n) :: R) :=
 (New_ok n w h1 h2).mono fun e w' ⟨b, F, he, h, hf, ho⟩ => ⟨b, he, H.add (A := dsk b (DM.new n)) h ho hf⟩
theorem Size_s (H : Holds s w (dsk b d :: R)) : Calls Tryz.prog 64 #[.pointer (some ⟨b, 0, none⟩)] w fun e w' => e = .returned (.int .i64 d.secs.length) ∧ Holds s w' (dsk b d :: R) := dsk_same H fun F h => Size_at b d F w h
theorem Flush_s (H : Holds s w (dsk b d :: R)) : Calls Tryz.prog 129 #[.pointer (some ⟨b, 0, none⟩)] w fun e w' => e = .returned (.int .i64 d.flush.2) ∧ Holds s w' (dsk b d.flush.1 :: R) := dsk_to H fun F h => Flush_at b d F w h
theorem Power_s (H : Holds s w (dsk b d :: R)) : Calls Tryz.prog 32 #[.pointer (some ⟨b, 0, none⟩)] w fun e w' => e = .returned (.tuple #[]) ∧ Holds s w' (dsk b d.power :: R) := dsk_to H fun F h => Power_at b d F w h
theorem Crash_s {v : Value} {sv : List Bool} (H : Holds s w (dsk b d :: R)) (hs : Src s R v 1 sv.length (sv.map Value.bool)) : Calls Tryz.prog 33 #[.pointer (some ⟨b, 0, none⟩), v] w fun e w' => e = .returned (.tuple #[]) ∧ Holds s w' (dsk b (d.crash sv) :: R) := by
 obtain ⟨F, h, _, hst, _, k⟩ := H.beside hs
 exact (Crash_at b d F v sv w h hst).mono fun e w' ⟨he, F', h1, h2, h3⟩ => ⟨he, k (dsk b (d.crash sv)) w' F' h1 h3 h2⟩
theorem Arm_s {n : Int} {v : Value} {sv : List Bool} (H : Holds s w (dsk b d :: R)) (hs : Src s R v 1 sv.length (sv.map Value.bool)) (hn : n ≤ 9223372036854775807) (hl : sv.length ≤ 140737488355328) : Calls Tryz.prog 31 #[.pointer (some ⟨b, 0, none⟩), .int .i64 n, v] w fun e w' => e = .returned (.tuple #[]) ∧ Holds s w' (dsk b (d.arm n sv) :: R) := by
 obtain ⟨F, h, _, hst, _, k⟩ := H.beside hs
 exact (Arm_at b d F n v sv w h hst hn hl).mono fun e w' ⟨he, F', h1, h2, h3⟩ => ⟨he, k (dsk b (d.arm n sv)) w' F' h1 h3 h2⟩
theorem Write_s {n : Int} {v : Value} {l : List UInt8} (H : Holds s w (dsk b d :: R)) (hs : Src s R v 1 l.length (u8s l)) (hpl : d.pend.length ≤ 1000000) : Calls Tryz.prog 119 #[.pointer (some ⟨b, 0, none⟩), .int .i64 n, v] w fun e w' => e = .returned (.int .i64 (d.write n l).2) ∧ Holds s w' (dsk b (d.write n l).1 :: R) := by
 obtain ⟨F, h, _, hst, hd, k⟩ := H.beside hs
 by_cases hl : l = []
 ·subst hl
  have hsl := hst.now
  obtain ⟨a, c, rfl, _, h2, h3, _⟩ := hsl
  cases hin : d.inB n with
  | false =>
   have e : d.write n [] = (d, 4) := by simp [DM.write, hin]
   rw [e]
   exact (Write_far b d F n _ w h hin).mono fun e w' ⟨he, h1⟩ => by subst h1; exact ⟨he, H⟩
  | true =>
   have e : d.write n [] = (d, 1) := by simp [DM.write, hin]
   rw [e]
   exact (Write_len b d F n a 0 c w h hin (by decide) (Nat.zero_le _)).mono fun e w' ⟨he, h1⟩ => by subst h1; exact ⟨he, H⟩
 ·exact (Write_at b d F n v l w h hst.now (hd (fun h' => hl (by simpa [u8s] using h'))) hpl).mono fun e w' ⟨he, F', h1, h2, h3⟩ => ⟨he, k (dsk b (d.write n l).1) w' F' h1 h3 h2⟩
theorem Read_s {n : Int} (H : Holds s w (dsk b d :: R)) : Calls Tryz.prog 108 #[.pointer (some ⟨b, 0, none⟩), .int .i64 n] w fun e w' => ∃ t aa cc, e = .returned (.tuple #[.slice aa (d.read n).1.length cc, .int .i64 (d.read n).2]) ∧ Holds s w' (row t 1 (.slice aa (d.read n).1.length cc) (d.read n).1.length (u8s (d.read n).1) :: dsk b d :: R) := by
 obtain ⟨F, h, k⟩ := H.call
 exact (Read_at b d F n w h).mono fun e w' ⟨v, he, h1, h2⟩ => by
  obtain ⟨t, aa, cc, rfl, H'⟩ := new_row H h1 h2
  exact ⟨t, aa, cc, he, H'⟩
end
end Go.Proofs.YtgilmcpdpggikaaGreatDoor

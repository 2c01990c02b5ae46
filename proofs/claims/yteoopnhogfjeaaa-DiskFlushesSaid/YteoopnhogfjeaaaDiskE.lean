/- Contracts of the disk's functions: Write. -/
import Derived.Test.YteoopnhogfjeaaaDiskD
set_option linter.unusedSimpArgs false
set_option linter.unusedVariables false
namespace Go.Proofs.Yteoopnhogfjeaaa
open Go Go.RowKit Go.Own

def wz (n : Int) : Array Value := #[.int .i64 n] ++ Array.replicate 64 (.int .u8 0)
theorem build_write (n : Int) (w : World) : (Instr.build 115 #[(0, .int .i64 n)]).run Try.prog w = .ok (.agg (wz n)) w := by kernel_rfl
theorem wz_size (n : Int) : (wz n).size = 65 := by simp [wz]
theorem wz_one (n : Int) : (wz n).all (·.oneCell') = true := by
  rw [Array.all_eq_true_iff_forall_mem]
  intro v hv
  simp only [wz, Array.mem_append, Array.mem_replicate] at hv
  rcases hv with hv | ⟨_, rfl⟩
  · simp at hv; subst hv; rfl
  · rfl
theorem eWrite : ElT Try.prog 108 115 65 72 (.agg zWrite) := elT Try.underlying108 (by kernel_rfl) zWrite_size (by decide)

/-- Write, and its refusals -/
theorem Write_far (b : Nat) (d : DM) (F : List Nat) (n : Int) (bv : Value) (w : World) (h : DiskAt w b d F) (hin : d.inB n = false) :
    Calls Try.prog 22 #[.pointer (some ⟨b, 0, none⟩), .int .i64 n, bv] w fun e w' => e = .returned (.int .i64 4) ∧ w = w' := by
  obtain ⟨bs, c0⟩ := h.c0
  have h256 := h.1.hi
  have hdec : decide ((0 : Int) ≤ n ∧ n < (d.secs.length : Int)) = false := hin
  clear hin h
  go_enter Try.func22, Try.ntmps22
  go_wp2_with (go_at_call 53; refine (has_any _ _ _ _ _ h256 c0).mono ?_; rintro e w' ⟨rfl, rfl⟩; rw [hdec])
  go_ret
  exact ⟨rfl, rfl⟩

theorem Write_len (b : Nat) (d : DM) (F : List Nat) (n : Int) (ba : Option Addr) (m c : Nat) (w : World) (h : DiskAt w b d F) (hin : d.inB n = true) (hm : m ≠ 64) (hmx : m ≤ maxLen) :
    Calls Try.prog 22 #[.pointer (some ⟨b, 0, none⟩), .int .i64 n, .slice ba m c] w fun e w' => e = .returned (.int .i64 1) ∧ w = w' := by
  obtain ⟨bs, c0⟩ := h.c0
  have h256 := h.1.hi
  have hdec : decide ((0 : Int) ≤ n ∧ n < (d.secs.length : Int)) = true := hin
  unfold maxLen at hmx
  have hne : ((m : Int) != 64) = true := by simp; omega
  clear hin h hm
  go_enter Try.func22, Try.ntmps22
  go_wp2_with (go_at_call 53; refine (has_any _ _ _ _ _ h256 c0).mono ?_; rintro e w' ⟨rfl, rfl⟩; rw [hdec])
  go_ret
  exact ⟨rfl, rfl⟩

set_option maxRecDepth 100000 in
set_option maxHeartbeats 1000000 in
theorem Write_do (b : Nat) (d : DM) (F : List Nat) (k : Nat) (bv : Value) (l : List UInt8) (w : World) (h : DiskAt w b d F) (hk : k < d.secs.length) (hl : l.length = 64) (hb : Bs w bv l) (hbf : ∀ j, bv.ownBlock = some j → j ∉ F) (hpl : d.pend.length ≤ 1000000) :
    Calls Try.prog 22 #[.pointer (some ⟨b, 0, none⟩), .int .i64 k, bv] w fun e w' => e = .returned (.int .i64 (d.write k l).2) ∧ DiskTo w w' b (d.write k l).1 F := by
  have hpw := powered_at b d F w h
  obtain ⟨bs, c0⟩ := h.c0
  have h256 := h.1.hi
  have hin : d.inB k = true := by simp [DM.inB]; omega
  have hdec : decide ((0 : Int) ≤ (k : Int) ∧ (k : Int) < (d.secs.length : Int)) = true := hin
  have hbs := hb
  obtain ⟨ba, bc, rfl, _, hbc, hbm, _⟩ := hb
  rw [hl] at hbc hbs hbf ⊢
  have hpl1 : d.powered.1.pend.length ≤ 1000000 := by
    unfold DM.powered
    split
    · exact hpl
    · split
      · unfold DM.crash
        split
        · exact hpl
        · simp
      · exact hpl
  have hwf1 := h.1.write k l
  cases hp2 : d.powered.2 with
  | false =>
    have hf : d.write k l = (d.powered.1, 9) := by simp [DM.write, hin, hl, hp2]
    rw [hf]
    rw [hp2] at hpw
    have HP := Lib.hid hpw
    clear hpw hp2 hf hwf1 hl hin
    go_enter Try.func22, Try.ntmps22
    go_wp2_with (first
      | (go_at_call 53; refine (has_any _ _ _ _ _ h256 c0).mono ?_; rintro e w' ⟨rfl, rfl⟩; rw [hdec])
      | (go_at_call 56; refine HP.out.mono ?_; rintro e w' ⟨rfl, hto⟩; have HT := Lib.hid hto; clear hto))
    go_ret
    exact ⟨rfl, HT.out⟩
  | true =>
    have hf : d.write k l = ({ d.powered.1 with pend := d.powered.1.pend ++ [(k, l)] }, 0) := by simp [DM.write, hin, hl, hp2]
    rw [hf] at hwf1 ⊢
    rw [hp2] at hpw
    clear hp2 hf
    generalize d.powered.1 = d1 at *
    have HP := Lib.hid hpw
    have HL := Lib.hid hl
    clear hpw hl hin
    go_enter Try.func22, Try.ntmps22
    go_wp2_with ((go_at_call 53; refine (has_any _ _ _ _ _ h256 c0).mono ?_; rintro e w' ⟨rfl, rfl⟩; rw [hdec]))
    refine HP.out.mono ?_
    rintro e w1 ⟨rfl, F1, hd1, hf1, ho1⟩
    have hbs1 : Bs w1 (.slice ba 64 bc) l := hbs.only ho1 hbf
    obtain ⟨hwf, bs1, vp, vs, hraw, rfl, hnd⟩ := hd1
    have HBS := Lib.hid hbs1
    clear h HP hbs hbs1 c0
    have hcp : ((wz k).toList.take 1 ++ ((u8s l).take 64 ++ (wz k).toList.drop (1 + 64))).toArray = (wcell (k, l)).toArray := by
      have e := HL.out
      have e2 : (u8s l).take 64 = u8s l := List.take_of_length_le (by rw [u8s_len]; omega)
      rw [e2]
      simp [wz, wcell]
    have hbs2 : Bs (w1.alloc (.cells (wz k) 115)) (.slice ba 64 bc) l := Sl.only (S := []) HBS.out (only_alloc _ _ _) (by simp)
    have hcnew := heap_alloc_new w1 (.cells (wz k) 115)
    have hcfit : 1 + 64 ≤ (wz k).size := by rw [wz_size]; decide
    have hcmin : Nat.min l.length 64 = 64 := by rw [HL.out]; rfl
    have HCM := Lib.hid hcmin
    clear hcmin
    have HCP := Lib.hid hcp
    have HBS2 := Lib.hid hbs2
    have HCN := Lib.hid hcnew
    have HCF := Lib.hid hcfit
    clear hcp hbs2 hcnew hcfit
    go_wp2_with (first
      | ((with_reducible show wpList _ _ _ (⟨_, .build _ _, _, _, _, _⟩ :: _) _ _); refine build_at (build_write k) rfl rfl rfl ?_)
      | ((with_reducible show wpList _ _ _ (⟨_, .alloc _, _, _, _, _⟩ :: _) _ _); refine alloc_row tWrite rfl rfl ?_)
      | ((with_reducible show wpList _ _ _ (⟨_, .store _ _ _, _, _, _, _⟩ :: _) _ _); refine store_new (x := .tmp 7) (y := .tmp 19) tWrite _ rfl rfl rfl rfl zWrite_size (wz_size _) (wz_one _) ?_)
      | ((with_reducible show wpList _ _ _ (⟨_, .call ⟨.builtin .copy, _, _⟩, _, _, _, _⟩ :: _) _ _); go_must (refine copy_sl (d := .tmp 21) (s := .tmp 22) (xv := .slice ba 64 bc) Try.underlying27 (by kernel_rfl) rfl rfl rfl rfl HBS2.out HCN.out 64 HCM.out HCF.out (u8s_one _) ?_; rw [HCP.out, World.setRow_alloc_new])))
    go_frame
    have hn' := hnd
    simp only [dfoot, List.nodup_cons, List.mem_cons, List.mem_append, Option.mem_toList, not_or] at hn'
    generalize hW : w1.alloc (.cells (wcell (k, l)).toArray 115) = W
    have oW : Only [] w1 W := by rw [← hW]; exact only_alloc _ _ _
    have hrW : DiskRaw W b d1 bs1 vp vs := hraw.only oW (by simp)
    have k1 : W.cell? ⟨b, 1, none⟩ = some vp := by simp [World.cell?, hrW.1]
    have k2 : W.rangeAt w1.heap.size 0 (wcell (k, l)) := by rw [← hW]; exact range_alloc_new _ _ _ _ _ (by simp)
    have hwl : (wcell (k, l)).length = 65 := wcell_len HL.out
    have hown2 : (W.alloc (.cells (wcell (k, l)).toArray 115)).drew.ownsRow 0 115 65 vp d1.pend.length (pcells d1.pend) := own_only hrW.2.2.1 ((only_alloc [] _ _).drew) (by simp)
    have hsl : Sl (W.alloc (.cells (wcell (k, l)).toArray 115)).drew (.slice (some ⟨W.heap.size, 0, none⟩) 1 1) 65 1 (wcell (k, l)) := (sl_new rfl (by rw [hwl]) (by decide)).drew
    have lbW : b < W.heap.size := lt_of_heap hrW.1
    have hb3 := ((only_alloc [] W (.cells (wcell (k, l)).toArray 115)).drew).heap hrW.1 (by simp)
    have hnb3 : b ∉ vp.ownBlock.toList := by simpa using hn'.1.2.1
    have HB3 := Lib.hid hb3
    have HNB := Lib.hid hnb3
    have K2 := Lib.hid k2
    have HWL := Lib.hid hwl
    have HO2 := Lib.hid hown2
    have HSL := Lib.hid hsl
    have HRW := Lib.hid hrW
    clear hW k2 hwl hown2 hsl hrW hb3 hnb3 HCP HBS2 HCN HCF HCM HBS hdec h256
    generalize w1.heap.size = nb at *
    refine Reg.region1d [0, 0, 0, 0, 1, 1, 2, 3, 0, 0, 3] [0, 0, 2, 6, 14, 0, 32, 126, 255, 511, 1023] (by kernel_rfl) ?_
    intro Qr hQr
    go_wp2_with (first
      | ((with_reducible show wpList _ _ _ (⟨_, .load _ _, _, _, _, _⟩ :: _) _ _); refine load_row (x := .tmp 7) tWrite (wcell (k, l)) rfl rfl rfl K2.out HWL.out ?_)
      | ((with_reducible show wpList _ _ _ (⟨_, .buildSlice _ _ _, _, _, _, _⟩ :: _) _ _); go_must (refine one_slice (x := .tmp 29) (v := .agg (wcell (k, l)).toArray) eWrite (by decide) rfl rfl rfl (by simpa [Value.cells] using HWL.out) ?_))
      | ((with_reducible show wpList _ _ _ (⟨_, .call ⟨.builtin .append, _, _⟩, _, _, _, _⟩ :: _) _ _); go_must (refine append_row (s := .tmp 28) (x := .tmp 30) (v := vp) (xv := .slice (some ⟨W.heap.size, 0, none⟩) 1 1) eWrite rfl rfl rfl HO2.out rfl HSL.out (wcell_one _) (by unfold maxLen; omega) (by omega) ?_; intro v' w' hq1 hq2 hq3; obtain ⟨g', c', rfl, _, _⟩ := own_some hq1 (by omega); have hkb := hq2.heap HB3.out HNB.out; have hkc : w'.cell? ⟨b, 1, none⟩ = some vp := (by simp [World.cell?, hkb]); have hkf : w'.frozen? ⟨b, 1, none⟩ = false := (by simp [World.frozen?, hkb]); have HQ1 := Lib.hid hq1; have HQ2 := Lib.hid hq2; have HQ3 := Lib.hid hq3; have HKB := Lib.hid hkb; clear hq1 hq2 hq3 hkb)))
    refine ⟨by rfl, ?_⟩
    go_wp2
    go_ret
    have hraw2 := HRW.out
    have hq2 := HQ2.out
    have oWw : Only vp.ownBlock.toList W w' := ((only_alloc _ _ _).drew).trans hq2
    have oT : Only (dfoot b bs1 vp vs) w1 (w'.setCell ⟨b, 1, none⟩ (.slice (some ⟨g', 0, none⟩) (d1.pend.length + 1) c')) :=
      (oW.mono (by simp)).trans ((oWw.mono (fun x hx => .inl (by simp only [dfoot, List.mem_cons, List.mem_append]; exact .inr (.inr (.inl hx))))).trans (only_setCell _ _ _ (by simp [dfoot])))
    have hg' : vp.ownBlock = some g' ∨ W.heap.size ≤ g' := (HQ3.out g' rfl).imp id (fun h => Nat.le_trans (by simp) h)
    have hgb : g' ≠ b := by
      rcases hg' with h | h
      · intro e; exact hn'.1.2.1 (by rw [h, e])
      · intro e; omega
    have hgs : g' ≠ bs1 := by
      rcases hg' with h | h
      · intro e; exact hn'.2.1.1 (by rw [h, e])
      · have := lt_of_heap hraw2.2.1; intro e; omega
    have hgv : vs.ownBlock ≠ some g' := by
      rcases hg' with h | h
      · intro e
        have hn3 := hn'.2.2
        rw [h, e] at hn3
        simp at hn3
      · intro e; have := own_lt hraw2.2.2.2 e; omega
    have hsec' : w'.heap[bs1]? = some (.cells (u8s d1.secs.flatten).toArray 112 (0, 0)) := oWw.heap hraw2.2.1 (by simpa using hn'.2.1.1)
    have hvs' : w'.ownsRow 0 4 1 vs d1.surv.length (d1.surv.map Value.bool) := own_only hraw2.2.2.2 oWw (fun j hj hm => by
      have hn3 := hn'.2.2
      have : vp.ownBlock = some j := by simpa using hm
      rw [this, hj] at hn3
      simp at hn3)
    refine ⟨rfl, DiskTo.trans ho1 hf1 ⟨dfoot b bs1 (.slice (some ⟨g', 0, none⟩) (d1.pend.length + 1) c') vs, ⟨hwf1, bs1, _, vs, ⟨?_, ?_, ?_, ?_⟩, rfl, ?_⟩, ?_, oT⟩⟩
    · rw [heap_setCell_same _ _ _ _ _ _ HKB.out]; simp
    · rw [heap_setCell_other _ _ _ _ (Ne.symm hn'.1.1)]; exact hsec'
    · have := own_setCell HQ1.out (a := ⟨b, 1, none⟩) (.slice (some ⟨g', 0, none⟩) (d1.pend.length + 1) c') (by simpa [Value.ownBlock] using hgb)
      rw [show d1.pend.length + 1 = (d1.pend ++ [(k, l)]).length by simp] at this ⊢
      simpa [pcells_app, pcells] using this
    · exact own_setCell hvs' _ hn'.1.2.2
    · exact foot_set_p hnd hgb hgs hgv
    · intro j hj
      simp only [dfoot, Value.ownBlock, Option.toList, List.singleton_append, List.mem_cons] at hj
      rcases hj with rfl | rfl | rfl | hj
      · left; simp [dfoot]
      · left; simp [dfoot]
      · rcases hg' with h | h
        · left; simp [dfoot, h]
        · right; exact Nat.le_trans oW.size h
      · left; simp only [dfoot, List.mem_cons, List.mem_append]; exact .inr (.inr (.inr hj))
end Go.Proofs.Yteoopnhogfjeaaa

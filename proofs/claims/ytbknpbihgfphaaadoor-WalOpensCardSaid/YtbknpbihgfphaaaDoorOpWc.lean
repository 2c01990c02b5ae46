/- wal: steps on a disk, as plain data; writeHome and Format walked. More rules of the walk: structs within rows of our own. Over any program. audit: Open, Add, Entries. -/
import Derived.Test.YtbknpbihgfphaaaDoorOpWb
import Derived.Test.YtbknpbihgfphaaaDoorOpK3
import Derived.Test.YtbknpbihgfphaaaDoorOpEx
set_option linter.unusedSimpArgs false
set_option linter.unusedVariables false
namespace Go.Proofs.YtbknpbihgfphaaaDoor
open Go Go.RowKit Go.Own
/-- a step of a log on its disk: a sector written, or a flush -/
inductive St where
  | w (a : Nat) (b : List UInt8)
  | f
/-- steps in order, up to the first that fails -/
def run (x : Ext) : List St → DM → DM × Int
  | [], d => (d, 0)
  | .w a b :: r, d => if (pwrite d x (a : Int) b).2 = 0 then run x r (pwrite d x (a : Int) b).1 else pwrite d x (a : Int) b
  | .f :: r, d => if d.flush.2 = 0 then run x r d.flush.1 else d.flush
theorem run_ok (x : Ext) {a : Nat} {l : List UInt8} {r : List St} {d : DM} (h : (pwrite d x (a : Int) l).2 = 0) : run x (.w a l :: r) d = run x r (pwrite d x (a : Int) l).1 := by rw [run, if_pos h]
theorem run_no (x : Ext) {a : Nat} {l : List UInt8} {r : List St} {d : DM} (h : (pwrite d x (a : Int) l).2 ≠ 0) : run x (.w a l :: r) d = pwrite d x (a : Int) l := by rw [run, if_neg h]
theorem run_fok (x : Ext) {r : List St} {d : DM} (h : d.flush.2 = 0) : run x (.f :: r) d = run x r d.flush.1 := by rw [run, if_pos h]
theorem run_fno (x : Ext) {r : List St} {d : DM} (h : d.flush.2 ≠ 0) : run x (.f :: r) d = d.flush := by rw [run, if_neg h]
theorem run_app (x : Ext) (a b : List St) (d : DM) : run x (a ++ b) d = if (run x a d).2 = 0 then run x b (run x a d).1 else run x a d := by
  induction a generalizing d with
  | nil => simp [run]
  | cons c r ih =>
    cases c with
    | w a l =>
      rw [List.cons_append]
      by_cases h : (pwrite d x (a : Int) l).2 = 0
      · rw [run_ok x h, run_ok x h]; exact ih _
      · rw [run_no x h, run_no x h, if_neg h]
    | f =>
      rw [List.cons_append]
      by_cases h : d.flush.2 = 0
      · rw [run_fok x h, run_fok x h]; exact ih _
      · rw [run_fno x h, run_fno x h, if_neg h]
theorem pend_powW (d : DM) : d.powered.1.pend.length ≤ d.pend.length := by
  unfold DM.powered DM.crash
  split
  · exact Nat.le_refl _
  · split
    · dsimp only; split <;> simp
    · exact Nat.le_refl _
theorem pend_writeW (d : DM) (n : Int) (l : List UInt8) : (d.write n l).1.pend.length ≤ d.pend.length + 1 := by
  have := pend_powW d
  unfold DM.write
  split
  · split
    · split
      · simp only [List.length_append, List.length_cons, List.length_nil]; omega
      · simp only; omega
    · simp only; omega
  · simp only; omega
theorem pend_flushW (d : DM) : d.flush.1.pend.length ≤ d.pend.length := by
  have := pend_powW d
  unfold DM.flush
  split
  · simp
  · simpa using this
theorem pend_pwriteW (d : DM) (x : Ext) (a : Int) (l : List UInt8) : (pwrite d x a l).1.pend.length ≤ d.pend.length + 1 := by
  unfold pwrite
  split
  · exact pend_writeW _ _ _
  · simp
/-- a page of 16 -/
def getP (ps : List UInt8) (i : Nat) : List UInt8 := (ps.drop (i * 40)).take 40
theorem getP_len {ps : List UInt8} {i : Nat} (h : ps.length = 640) (hi : i < 16) : (getP ps i).length = 40 := by
  rw [getP, List.length_take, List.length_drop]; omega
def pageB (e i : Nat) (ps : List UInt8) : List UInt8 := secW 80 e ([UInt8.ofNat i] ++ getP ps i)
def headB (e h : Nat) : List UInt8 := secW 72 e [UInt8.ofNat h]
/-- the steps that write n pages from the i-th on, then the head -/
def homeFrom (e h : Nat) (ps : List UInt8) : Nat → Nat → List St
  | 0, _ => [.f, .w (e % 2) (headB e h), .f]
  | n + 1, i => .w (2 + 16 * h + i) (pageB e i ps) :: homeFrom e h ps n (i + 1)
def homeSteps (e h : Nat) (ps : List UInt8) : List St := homeFrom e h ps 16 0
def z64 : List UInt8 := List.replicate 64 0
/-- the steps that clear n record sectors from the k-th on -/
def clearFrom (r : List St) : Nat → Nat → List St
  | 0, _ => r
  | n + 1, k => .w (34 + k) z64 :: clearFrom r n (k + 1)
def z640 : List UInt8 := List.replicate 640 0
def formatSteps : List St := clearFrom (homeSteps 1 0 z640) 18 0
section
variable {s : Ro} {w : World} {R : List Asn}
theorem homeAt_w {h i : Nat} (H : Holds s w R) (hh : h ≤ 1000) (hi : i ≤ 1000) : Calls Tryd.prog 74 #[.int .i64 (h : Int), .int .i64 (i : Int)] w fun x w' => x = .returned (.int .i64 ((2 + 16 * h + i : Nat) : Int)) ∧ Holds s w' R := by
  have e : ((2 + 16 * h + i : Nat) : Int) = 2 + (h : Int) * 16 + (i : Int) := by omega
  rw [e]
  refine enter Tryd.func74 rfl Tryd.ntmps74 rfl ?_
  repeat' (first | (refine J.mul ?_) | refine Z H ?_ | (refine Zc ?_ ?_ <;> intro hc <;> first | (exfalso; omega) | skip) | (refine Y ?_; try change C _ _ _ _ _ _) | (refine Zs H ?_; clear H; (try clear w); intro w H) | (refine Zn H ?_; clear H; (try clear w); intro _ w H) | (refine Ze H ?_; clear H; (try clear w); intro gv w H))
  exact ⟨_, resT rfl, rfl, H⟩
theorem homeAt_e {h i : Nat} (H : Holds s w R) (hh : h ≤ 1000) (hi : i ≤ 1000) : Calls Tryd.prog 74 #[.int .i64 (h : Int), .int .i64 (i : Int)] w fun x w' => x = .returned (.int .i64 ((2 + 16 * h + i : Nat) : Int)) ∧ Only [] w w' ∧ Holds s w' R :=
  (homeAt_w H.full hh hi).mono fun x w' ⟨he, H'⟩ => ⟨he, H.pure0 H'⟩
theorem headAt_w {e : Nat} (H : Holds s w R) (he : e < 2 ^ 32) : Calls Tryd.prog 105 #[.int .u32 (e : Int)] w fun x w' => x = .returned (.int .i64 ((e % 2 : Nat) : Int)) ∧ Holds s w' R := by
  have wr : IntKind.i64.wrap ((e % 2 : Nat) : Int) = ((e % 2 : Nat) : Int) := IntWalk.i64_in _ (by omega)
  refine enter Tryd.func105 rfl Tryd.ntmps105 rfl ?_
  repeat' (first | (refine B.rem (a := e) (b := 2) ?_) | (refine K.convI Tryd.underlying32 rfl rfl rfl ?_; rw [wr]) | refine Z H ?_ | (refine Zc ?_ ?_ <;> intro hc <;> first | (exfalso; omega) | skip) | (refine Y ?_; try change C _ _ _ _ _ _) | (refine Zs H ?_; clear H; (try clear w); intro w H) | (refine Zn H ?_; clear H; (try clear w); intro _ w H) | (refine Ze H ?_; clear H; (try clear w); intro gv w H))
  exact ⟨_, resT rfl, rfl, H⟩
set_option maxRecDepth 100000 in
set_option maxHeartbeats 1000000 in
theorem pageSector_e {e p : Nat} {m : List UInt8} {u : Value} (hN : Nib s) (H : Holds s w R) (he : e < 2 ^ 32) (hp : p < 256) (hu : Src s R u 1 m.length (u8s m)) (hm : m.length = 40) : Calls Tryd.prog 121 #[.int .u32 (e : Int), .int .i64 (p : Int), u] w fun x w' => ∃ aa cc, x = .returned (.slice aa (secW 80 e ([UInt8.ofNat p] ++ m)).length cc) ∧ Only [] w w' ∧ Holds s w' (row 5 1 (.slice aa (secW 80 e ([UInt8.ofNat p] ++ m)).length cc) (secW 80 e ([UInt8.ofNat p] ++ m)).length (u8s (secW 80 e ([UInt8.ofNat p] ++ m))) :: R) :=
  (pageSector_w (hN.mono H.le_full) H.full he hp (.ro (hu.full H)) hm).mono fun x w' ⟨aa, cc, he, H'⟩ => ⟨aa, cc, he, H.pure1 H'⟩
variable {b bp : Nat} {d : DM} {x : Ext}
/-- a page within a variable that holds 16 -/
theorem cut_page {pre post : List Value} {ps : List UInt8} {k off : Nat} (ho : pre.length = off) (hl : ps.length = 640) (hk : k < 16) : ((pre ++ (u8s ps ++ post)).drop (off + k * 40)).take 40 = u8s (getP ps k) := by
  have h1 : (u8s ps).length = 640 := by rw [u8s_len, hl]
  rw [List.drop_append, List.drop_eq_nil_of_le (by omega), List.nil_append, ho, Nat.add_sub_cancel_left, List.drop_append_of_le_length (by omega), List.take_append_of_le_length (by rw [List.length_drop]; omega), u8s_drop, u8s_take]
  rfl
theorem src_page {rs : List Asn} {bP off k : Nat} {t : TypeId} {pre post : List Value} {ps : List UInt8} (i : Nat) (h : rs[i]? = some (var bP t (pre ++ (u8s ps ++ post)))) (ho : pre.length = off) (hl : ps.length = 640) (hk : k < 16) : Src s rs (.slice (some ⟨bP, off + k * 40, none⟩) 40 40) 1 40 (u8s (getP ps k)) := by
  have hg := getP_len hl hk
  refine Src.part i bP _ 40 t h rfl (by rw [u8s_len, hg]) (Nat.le_refl _) (by decide) ?_
  rw [u8s_len, hg]
  exact cut_page ho hl hk
theorem u8s_zero (n : Nat) : u8s (List.replicate n 0) = List.replicate n (.int .u8 0) := by simp [u8s, u8]
set_option maxRecDepth 100000 in
set_option maxHeartbeats 1000000 in
theorem writeHome_w {e h bP off : Nat} {ps : List UInt8} (hN : Nib s) (H : Holds s w (dsk b d :: R)) (hp : PartS s bp b x) (he : e < 2 ^ 32) (hh : h ≤ 1) (hl : ps.length = 640) (hP : ∀ k, k < 16 → Src s R (.slice (some ⟨bP, off + k * 40, none⟩) 40 40) 1 40 (u8s (getP ps k))) (hpl : d.pend.length ≤ 100000) : Calls Tryd.prog 103 #[.pointer (some ⟨bp, 0, none⟩), .int .u32 (e : Int), .int .i64 (h : Int), .pointer (some ⟨bP, off, none⟩)] w fun y w' => y = .returned (.int .i64 (run x (homeSteps e h ps) d).2) ∧ Holds s w' (dsk b (run x (homeSteps e h ps) d).1 :: R) := by
  refine enter Tryd.func103 rfl Tryd.ntmps103 rfl ?_
  repeat' (first | refine Z H ?_ | (refine Zc ?_ ?_ <;> intro hc <;> first | (exfalso; omega) | skip) | (refine Y ?_; try change C _ _ _ _ _ _) | (refine Zs H ?_; clear H; (try clear w); intro w H) | (refine Zn H ?_; clear H; (try clear w); intro _ w H) | (refine Ze H ?_; clear H; (try clear w); intro gv w H))
  refine C.loopS [8, 9, 10, 13, 14, 15, 16, 17, 18, 19, 20, 21, 22, 23, 24, 25, 26, 27, 28, 29, 30, 31, 32] [13] rfl (fun k vs w => ∃ i : Nat, ∃ di : DM, k = 16 - i ∧ i ≤ 16 ∧ vs = [.int .i64 (i : Int)] ∧ di.pend.length ≤ 100000 + i ∧ run x (homeSteps e h ps) d = run x (homeFrom e h ps (16 - i) i) di ∧ Holds s w (dsk b di :: R)) 16 ⟨0, d, rfl, Nat.zero_le _, rfl, hpl, rfl, H⟩ ?_
  clear H
  rintro k vs hv w ⟨i, di, rfl, hi, rfl, hdi, hrun, H⟩
  rw [hrun]
  by_cases hlt : i < 16
  · rw [show 16 - i = (16 - (i + 1)) + 1 by omega, homeFrom] at hrun ⊢
    have hpl2 := pend_pwriteW di x ((2 + 16 * h + i : Nat) : Int) (pageB e i ps)
    have hgl := getP_len hl hlt
    have hPi : Src s R (.slice (some ⟨bP, off + i * 40, none⟩) 40 40) 1 (getP ps i).length (u8s (getP ps i)) := by rw [hgl]; exact hP i hlt
    repeat' (first | refine Z H ?_ | (refine Zc ?_ ?_ <;> intro hc <;> first | (exfalso; omega) | skip) | (refine Y ?_; try change C _ _ _ _ _ _) | (refine Zs H ?_; clear H; (try clear w); intro w H) | (refine Zn H ?_; clear H; (try clear w); intro _ w H) | (refine Ze H ?_; clear H; (try clear w); intro gv w H))
    refine C.drawn5 [0, 1, 2, 4, 5, 6, 7, 8, 9, 10, 3, 11, 12, 13] [0, 0, 0, 0, 0, 0, 0, 0, 0, 0, 3, 3, 3, 0] [11, 1, 1] [0, 0, 0, 6, 0, 0, 0, 0, 64, 448, 960, 2046, 4095, 8191] (by kernel_rfl) ?_; replace H := H.drew; simp only [Reg.pick, List.filterMap_cons, List.filterMap_nil, List.getElem?_toArray, List.getElem?_cons_zero, List.getElem?_cons_succ, segN, List.take_succ_cons, List.take_zero, List.drop_succ_cons, List.drop_zero]
    repeat' (first | refine Z H ?_ | (refine Zc ?_ ?_ <;> intro hc <;> first | (exfalso; omega) | skip) | (refine Y ?_; try change C _ _ _ _ _ _) | (refine Zs H ?_; clear H; (try clear w); intro w H) | (refine Zn H ?_; clear H; (try clear w); intro _ w H) | (refine Ze H ?_; clear H; (try clear w); intro gv w H))
    (refine X.call (homeAt_e (h := h) (i := i) H (by omega) (by omega)) ?_; (try clear H); rintro _ w ⟨rfl, ho, H⟩; refine ⟨_, rfl, ?_⟩); refine L.nil ?_; refine ⟨rfl, rfl, (by first | exact fun h => Bool.noConfusion (show false = true from h) | exact fun _ => ext_same | exact fun _ => ext_only (by assumption)), ?_⟩
    clear ho
    repeat' (first | refine Z H ?_ | (refine Zc ?_ ?_ <;> intro hc <;> first | (exfalso; omega) | skip) | (refine Y ?_; try change C _ _ _ _ _ _) | (refine Zs H ?_; clear H; (try clear w); intro w H) | (refine Zn H ?_; clear H; (try clear w); intro _ w H) | (refine Ze H ?_; clear H; (try clear w); intro gv w H))
    (refine X.call (pageSector_e (e := e) (p := i) (m := getP ps i) hN H he (by omega) hPi.skip hgl) ?_; (try clear H); rintro _ w ⟨a1, c1, rfl, ho, H⟩; refine ⟨_, rfl, ?_⟩); refine L.nil ?_; refine ⟨rfl, rfl, (by first | exact fun h => Bool.noConfusion (show false = true from h) | exact fun _ => ext_same | exact fun _ => ext_only (by assumption)), ?_⟩
    clear ho
    rw [show secW 80 e ([UInt8.ofNat i] ++ getP ps i) = pageB e i ps from rfl] at *
    repeat' (first | refine Z H ?_ | (refine Zc ?_ ?_ <;> intro hc <;> first | (exfalso; omega) | skip) | (refine Y ?_; try change C _ _ _ _ _ _) | (refine Zs H ?_; clear H; (try clear w); intro w H) | (refine Zn H ?_; clear H; (try clear w); intro _ w H) | (refine Ze H ?_; clear H; (try clear w); intro gv w H))
    first | (have hT : Holds _ _ (dsk b _ :: _) := H; clear hT) | (replace H := H.up 1 rfl; (try simp only [List.set_cons_zero, List.set_cons_succ, List.eraseIdx_cons_zero, List.eraseIdx_cons_succ] at H); have hT : Holds _ _ (dsk b _ :: _) := H; clear hT) | (replace H := H.up 2 rfl; (try simp only [List.set_cons_zero, List.set_cons_succ, List.eraseIdx_cons_zero, List.eraseIdx_cons_succ] at H); have hT : Holds _ _ (dsk b _ :: _) := H; clear hT) | (replace H := H.up 3 rfl; (try simp only [List.set_cons_zero, List.set_cons_succ, List.eraseIdx_cons_zero, List.eraseIdx_cons_succ] at H); have hT : Holds _ _ (dsk b _ :: _) := H; clear hT) | (replace H := H.up 4 rfl; (try simp only [List.set_cons_zero, List.set_cons_succ, List.eraseIdx_cons_zero, List.eraseIdx_cons_succ] at H); have hT : Holds _ _ (dsk b _ :: _) := H; clear hT) | (replace H := H.up 5 rfl; (try simp only [List.set_cons_zero, List.set_cons_succ, List.eraseIdx_cons_zero, List.eraseIdx_cons_succ] at H); have hT : Holds _ _ (dsk b _ :: _) := H; clear hT) | (replace H := H.up 6 rfl; (try simp only [List.set_cons_zero, List.set_cons_succ, List.eraseIdx_cons_zero, List.eraseIdx_cons_succ] at H); have hT : Holds _ _ (dsk b _ :: _) := H; clear hT)
    (refine X.call (Write_p (a := ((2 + 16 * h + i : Nat) : Int)) H hp (by unfold I64; omega) (.own 0 _ rfl) (by omega)) ?_; (try clear H); rintro _ w ⟨rfl, H⟩; refine ⟨_, rfl, ?_⟩); refine L.nil ?_; refine ⟨rfl, rfl, (by first | exact fun h => Bool.noConfusion (show false = true from h) | exact fun _ => ext_same | exact fun _ => ext_only (by assumption)), ?_⟩
    have H' := H.arr (rs' := dsk b (pwrite di x ((2 + 16 * h + i : Nat) : Int) (pageB e i ps)).1 :: R)
    clear H
    have H := H'
    clear H'
    by_cases h0 : (pwrite di x ((2 + 16 * h + i : Nat) : Int) (pageB e i ps)).2 = 0
    · rw [run_ok x h0] at hrun ⊢
      rw [h0]
      repeat' (first | refine Z H ?_ | (refine Zc ?_ ?_ <;> intro hc <;> first | (exfalso; omega) | skip) | (refine Y ?_; try change C _ _ _ _ _ _) | (refine Zs H ?_; clear H; (try clear w); intro w H) | (refine Zn H ?_; clear H; (try clear w); intro _ w H) | (refine Ze H ?_; clear H; (try clear w); intro gv w H))
      exact ⟨by (repeat (first | exact Agr.refl | exact Agr.hav | refine Agr.upd rfl ?_ | refine Agr.in rfl ?_)), 16 - (i + 1), by omega, i + 1, _, rfl, by omega, rfl, by omega, rfl, H⟩
    · rw [run_no x h0]
      repeat' (first | refine Z H ?_ | (refine Zc ?_ ?_ <;> intro hc <;> first | (exfalso; omega) | skip) | (refine Y ?_; try change C _ _ _ _ _ _) | (refine Zs H ?_; clear H; (try clear w); intro w H) | (refine Zn H ?_; clear H; (try clear w); intro _ w H) | (refine Ze H ?_; clear H; (try clear w); intro gv w H))
      exact ⟨_, resT rfl, rfl, H⟩
  · have hie : 16 - i = 0 := by omega
    rw [hie, homeFrom] at hrun ⊢
    have hf := pend_flushW di
    repeat' (first | refine Z H ?_ | (refine Zc ?_ ?_ <;> intro hc <;> first | (exfalso; omega) | skip) | (refine Y ?_; try change C _ _ _ _ _ _) | (refine Zs H ?_; clear H; (try clear w); intro w H) | (refine Zn H ?_; clear H; (try clear w); intro _ w H) | (refine Ze H ?_; clear H; (try clear w); intro gv w H))
    (refine X.call (Flush_p H hp) ?_; (try clear H); rintro _ w ⟨rfl, H⟩; refine ⟨_, rfl, ?_⟩)
    by_cases h0 : di.flush.2 = 0
    · rw [run_fok x h0, h0]
      generalize di.flush.1 = dj at *
      have hq := pend_pwriteW dj x ((e % 2 : Nat) : Int) (headB e h)
      repeat' (first | refine Z H ?_ | (refine Zc ?_ ?_ <;> intro hc <;> first | (exfalso; omega) | skip) | (refine Y ?_; try change C _ _ _ _ _ _) | (refine Zs H ?_; clear H; (try clear w); intro w H) | (refine Zn H ?_; clear H; (try clear w); intro _ w H) | (refine Ze H ?_; clear H; (try clear w); intro gv w H))
      (refine X.call (headAt_w (e := e) H he) ?_; (try clear H); rintro _ w ⟨rfl, H⟩; refine ⟨_, rfl, ?_⟩)
      repeat' (first | refine Z H ?_ | (refine Zc ?_ ?_ <;> intro hc <;> first | (exfalso; omega) | skip) | (refine Y ?_; try change C _ _ _ _ _ _) | (refine Zs H ?_; clear H; (try clear w); intro w H) | (refine Zn H ?_; clear H; (try clear w); intro _ w H) | (refine Ze H ?_; clear H; (try clear w); intro gv w H))
      (refine X.call (headSector_w (e := e) (h := h) hN H he (by omega)) ?_; (try clear H); rintro _ w ⟨a1, c1, rfl, H⟩; refine ⟨_, rfl, ?_⟩)
      rw [show secW 72 e [UInt8.ofNat h] = headB e h from rfl] at *
      repeat' (first | refine Z H ?_ | (refine Zc ?_ ?_ <;> intro hc <;> first | (exfalso; omega) | skip) | (refine Y ?_; try change C _ _ _ _ _ _) | (refine Zs H ?_; clear H; (try clear w); intro w H) | (refine Zn H ?_; clear H; (try clear w); intro _ w H) | (refine Ze H ?_; clear H; (try clear w); intro gv w H))
      first | (have hT : Holds _ _ (dsk b _ :: _) := H; clear hT) | (replace H := H.up 1 rfl; (try simp only [List.set_cons_zero, List.set_cons_succ, List.eraseIdx_cons_zero, List.eraseIdx_cons_succ] at H); have hT : Holds _ _ (dsk b _ :: _) := H; clear hT) | (replace H := H.up 2 rfl; (try simp only [List.set_cons_zero, List.set_cons_succ, List.eraseIdx_cons_zero, List.eraseIdx_cons_succ] at H); have hT : Holds _ _ (dsk b _ :: _) := H; clear hT) | (replace H := H.up 3 rfl; (try simp only [List.set_cons_zero, List.set_cons_succ, List.eraseIdx_cons_zero, List.eraseIdx_cons_succ] at H); have hT : Holds _ _ (dsk b _ :: _) := H; clear hT) | (replace H := H.up 4 rfl; (try simp only [List.set_cons_zero, List.set_cons_succ, List.eraseIdx_cons_zero, List.eraseIdx_cons_succ] at H); have hT : Holds _ _ (dsk b _ :: _) := H; clear hT) | (replace H := H.up 5 rfl; (try simp only [List.set_cons_zero, List.set_cons_succ, List.eraseIdx_cons_zero, List.eraseIdx_cons_succ] at H); have hT : Holds _ _ (dsk b _ :: _) := H; clear hT) | (replace H := H.up 6 rfl; (try simp only [List.set_cons_zero, List.set_cons_succ, List.eraseIdx_cons_zero, List.eraseIdx_cons_succ] at H); have hT : Holds _ _ (dsk b _ :: _) := H; clear hT)
      have hW := Write_p (a := ((e % 2 : Nat) : Int)) H hp (by unfold I64; omega) (.own 0 _ rfl) (by omega)
      (refine X.call (hW) ?_; (try clear H); rintro _ w ⟨rfl, H⟩; refine ⟨_, rfl, ?_⟩)
      clear hW
      have H' := H.arr (rs' := dsk b (pwrite dj x ((e % 2 : Nat) : Int) (headB e h)).1 :: R)
      clear H
      have H := H'
      clear H'
      by_cases h1 : (pwrite dj x ((e % 2 : Nat) : Int) (headB e h)).2 = 0
      · rw [run_ok x h1, h1]
        generalize (pwrite dj x ((e % 2 : Nat) : Int) (headB e h)).1 = dk at *
        repeat' (first | refine Z H ?_ | (refine Zc ?_ ?_ <;> intro hc <;> first | (exfalso; omega) | skip) | (refine Y ?_; try change C _ _ _ _ _ _) | (refine Zs H ?_; clear H; (try clear w); intro w H) | (refine Zn H ?_; clear H; (try clear w); intro _ w H) | (refine Ze H ?_; clear H; (try clear w); intro gv w H))
        (refine X.call (Flush_p H hp) ?_; (try clear H); rintro _ w ⟨rfl, H⟩; refine ⟨_, rfl, ?_⟩)
        repeat' (first | refine Z H ?_ | (refine Zc ?_ ?_ <;> intro hc <;> first | (exfalso; omega) | skip) | (refine Y ?_; try change C _ _ _ _ _ _) | (refine Zs H ?_; clear H; (try clear w); intro w H) | (refine Zn H ?_; clear H; (try clear w); intro _ w H) | (refine Ze H ?_; clear H; (try clear w); intro gv w H))
        have : run x [.f] dk = dk.flush := by
          rw [run]
          split
          · rename_i hz; rw [run, ← hz]
          · rfl
        rw [this]
        exact ⟨_, resT rfl, rfl, H⟩
      · rw [run_no x h1]
        repeat' (first | refine Z H ?_ | (refine Zc ?_ ?_ <;> intro hc <;> first | (exfalso; omega) | skip) | (refine Y ?_; try change C _ _ _ _ _ _) | (refine Zs H ?_; clear H; (try clear w); intro w H) | (refine Zn H ?_; clear H; (try clear w); intro _ w H) | (refine Ze H ?_; clear H; (try clear w); intro gv w H))
        exact ⟨_, resT rfl, rfl, H⟩
    · rw [run_fno x h0]
      repeat' (first | refine Z H ?_ | (refine Zc ?_ ?_ <;> intro hc <;> first | (exfalso; omega) | skip) | (refine Y ?_; try change C _ _ _ _ _ _) | (refine Zs H ?_; clear H; (try clear w); intro w H) | (refine Zn H ?_; clear H; (try clear w); intro _ w H) | (refine Ze H ?_; clear H; (try clear w); intro gv w H))
      exact ⟨_, resT rfl, rfl, H⟩
set_option maxRecDepth 100000 in
set_option maxHeartbeats 1000000 in
theorem Format_w (hN : Nib s) (H : Holds s w (dsk b d :: R)) (hp : PartS s bp b x) (hx : x.2 = 52) (hpl : d.pend.length ≤ 10000) : Calls Tryd.prog 71 #[.pointer (some ⟨bp, 0, none⟩)] w fun y w' => y = .returned (.int .i64 (run x formatSteps d).2) ∧ Holds s w' (dsk b (run x formatSteps d).1 :: R) := by
  refine enter Tryd.func71 rfl Tryd.ntmps71 rfl ?_
  repeat' (first | refine Z H ?_ | (refine Zc ?_ ?_ <;> intro hc <;> first | (exfalso; omega) | skip) | (refine Y ?_; try change C _ _ _ _ _ _) | (refine Zs H ?_; clear H; (try clear w); intro w H) | (refine Zn H ?_; clear H; (try clear w); intro _ w H) | (refine Ze H ?_; clear H; (try clear w); intro gv w H))
  (refine X.call (Size_p H hp) ?_; (try clear H); rintro _ w ⟨rfl, H⟩; refine ⟨_, rfl, ?_⟩)
  rw [hx]
  repeat' (first | refine Z H ?_ | (refine Zc ?_ ?_ <;> intro hc <;> first | (exfalso; omega) | skip) | (refine Y ?_; try change C _ _ _ _ _ _) | (refine Zs H ?_; clear H; (try clear w); intro w H) | (refine Zn H ?_; clear H; (try clear w); intro _ w H) | (refine Ze H ?_; clear H; (try clear w); intro gv w H))
  refine K.make (k := 64) (m := 64) H rfl rfl rfl rfl rfl (by decide) (by decide) (by decide) ?_
  clear H
  intro g1 w H
  rw [rep_flat] at H
  repeat' (first | refine Z H ?_ | (refine Zc ?_ ?_ <;> intro hc <;> first | (exfalso; omega) | skip) | (refine Y ?_; try change C _ _ _ _ _ _) | (refine Zs H ?_; clear H; (try clear w); intro w H) | (refine Zn H ?_; clear H; (try clear w); intro _ w H) | (refine Ze H ?_; clear H; (try clear w); intro gv w H))
  have H' : Holds s w (dsk b d :: row 5 1 (.slice (some ⟨g1, 0, none⟩) z64.length 64) z64.length (u8s z64) :: R) := by
    have h2 := H.arr (rs' := dsk b d :: row 5 1 (.slice (some ⟨g1, 0, none⟩) 64 64) 64 (List.replicate 64 (.int .u8 0)) :: R)
    exact h2
  clear H
  refine C.loopS [2, 4, 5, 11, 12, 13, 14, 15, 16, 17, 18, 19, 20, 21, 22] [11] rfl (fun k vs w => ∃ i : Nat, ∃ di : DM, k = 18 - i ∧ i ≤ 18 ∧ vs = [.int .i64 (i : Int)] ∧ di.pend.length ≤ 10000 + i ∧ run x formatSteps d = run x (clearFrom (homeSteps 1 0 z640) (18 - i) i) di ∧ Holds s w (dsk b di :: row 5 1 (.slice (some ⟨g1, 0, none⟩) z64.length 64) z64.length (u8s z64) :: R)) 18 ⟨0, d, rfl, Nat.zero_le _, rfl, hpl, rfl, H'⟩ ?_
  clear H'
  rintro k vs hv w ⟨i, di, rfl, hi, rfl, hdi, hrun, H⟩
  rw [hrun]
  by_cases hlt : i < 18
  · rw [show 18 - i = (18 - (i + 1)) + 1 by omega, clearFrom]
    have hpl2 := pend_pwriteW di x ((34 + i : Nat) : Int) z64
    repeat' (first | refine Z H ?_ | (refine Zc ?_ ?_ <;> intro hc <;> first | (exfalso; omega) | skip) | (refine Y ?_; try change C _ _ _ _ _ _) | (refine Zs H ?_; clear H; (try clear w); intro w H) | (refine Zn H ?_; clear H; (try clear w); intro _ w H) | (refine Ze H ?_; clear H; (try clear w); intro gv w H))
    rw [show (34 : Int) + (i : Int) = ((34 + i : Nat) : Int) by omega]
    have hW := Write_p (a := ((34 + i : Nat) : Int)) H hp (by unfold I64; omega) (.own 0 _ rfl) (by omega)
    (refine X.call (hW) ?_; (try clear H); rintro _ w ⟨rfl, H⟩; refine ⟨_, rfl, ?_⟩)
    by_cases h0 : (pwrite di x ((34 + i : Nat) : Int) z64).2 = 0
    · rw [run_ok x h0, h0]
      repeat' (first | refine Z H ?_ | (refine Zc ?_ ?_ <;> intro hc <;> first | (exfalso; omega) | skip) | (refine Y ?_; try change C _ _ _ _ _ _) | (refine Zs H ?_; clear H; (try clear w); intro w H) | (refine Zn H ?_; clear H; (try clear w); intro _ w H) | (refine Ze H ?_; clear H; (try clear w); intro gv w H))
      exact ⟨by (repeat (first | exact Agr.refl | exact Agr.hav | refine Agr.upd rfl ?_ | refine Agr.in rfl ?_)), 18 - (i + 1), by omega, i + 1, _, rfl, by omega, rfl, by omega, rfl, H⟩
    · rw [run_no x h0]
      repeat' (first | refine Z H ?_ | (refine Zc ?_ ?_ <;> intro hc <;> first | (exfalso; omega) | skip) | (refine Y ?_; try change C _ _ _ _ _ _) | (refine Zs H ?_; clear H; (try clear w); intro w H) | (refine Zn H ?_; clear H; (try clear w); intro _ w H) | (refine Ze H ?_; clear H; (try clear w); intro gv w H))
      exact ⟨_, resT rfl, rfl, H.arr⟩
  · have hie : 18 - i = 0 := by omega
    rw [hie, clearFrom]
    repeat' (first | refine Z H ?_ | (refine Zc ?_ ?_ <;> intro hc <;> first | (exfalso; omega) | skip) | (refine Y ?_; try change C _ _ _ _ _ _) | (refine Zs H ?_; clear H; (try clear w); intro w H) | (refine Zn H ?_; clear H; (try clear w); intro _ w H) | (refine Ze H ?_; clear H; (try clear w); intro gv w H))
    rename_i bP
    first | (have hT : Holds _ _ (dsk b _ :: _) := H; clear hT) | (replace H := H.up 1 rfl; (try simp only [List.set_cons_zero, List.set_cons_succ, List.eraseIdx_cons_zero, List.eraseIdx_cons_succ] at H); have hT : Holds _ _ (dsk b _ :: _) := H; clear hT) | (replace H := H.up 2 rfl; (try simp only [List.set_cons_zero, List.set_cons_succ, List.eraseIdx_cons_zero, List.eraseIdx_cons_succ] at H); have hT : Holds _ _ (dsk b _ :: _) := H; clear hT) | (replace H := H.up 3 rfl; (try simp only [List.set_cons_zero, List.set_cons_succ, List.eraseIdx_cons_zero, List.eraseIdx_cons_succ] at H); have hT : Holds _ _ (dsk b _ :: _) := H; clear hT) | (replace H := H.up 4 rfl; (try simp only [List.set_cons_zero, List.set_cons_succ, List.eraseIdx_cons_zero, List.eraseIdx_cons_succ] at H); have hT : Holds _ _ (dsk b _ :: _) := H; clear hT) | (replace H := H.up 5 rfl; (try simp only [List.set_cons_zero, List.set_cons_succ, List.eraseIdx_cons_zero, List.eraseIdx_cons_succ] at H); have hT : Holds _ _ (dsk b _ :: _) := H; clear hT) | (replace H := H.up 6 rfl; (try simp only [List.set_cons_zero, List.set_cons_succ, List.eraseIdx_cons_zero, List.eraseIdx_cons_succ] at H); have hT : Holds _ _ (dsk b _ :: _) := H; clear hT)
    have hsp : ∀ k, k < 16 → Src s (var bP 138 (List.replicate 640 (.int .u8 0)) :: row 5 1 (.slice (some ⟨g1, 0, none⟩) z64.length 64) z64.length (u8s z64) :: R) (.slice (some ⟨bP, 0 + k * 40, none⟩) 40 40) 1 40 (u8s (getP z640 k)) := fun k hk => src_page (pre := []) (post := []) 0 (by rw [List.nil_append, List.append_nil, z640, u8s_zero]; rfl) rfl (by decide) hk
    (refine X.call (writeHome_w (e := 1) (h := 0) (off := 0) (ps := z640) hN H hp (by decide) (by decide) (by decide) hsp (by omega)) ?_; (try clear H); rintro _ w ⟨rfl, H⟩; refine ⟨_, rfl, ?_⟩)
    repeat' (first | refine Z H ?_ | (refine Zc ?_ ?_ <;> intro hc <;> first | (exfalso; omega) | skip) | (refine Y ?_; try change C _ _ _ _ _ _) | (refine Zs H ?_; clear H; (try clear w); intro w H) | (refine Zn H ?_; clear H; (try clear w); intro _ w H) | (refine Ze H ?_; clear H; (try clear w); intro gv w H))
    exact ⟨_, resT rfl, rfl, H.arr⟩
end
end Go.Proofs.YtbknpbihgfphaaaDoor
set_option linter.unusedSimpArgs false
set_option linter.unusedVariables false
namespace Go.Own
open Go Go.RowKit
section
variable {P : Program} {n : Nat} {ops : Array Oper} {Q : Post} {rest : List Oper} {e : Env} {w w' : World} {s : Ro} {rs : List Asn} {tt : Nat} {pp : String} {af : Array Edge} {g : Option (Nat × Bool)} {d : Nat}
theorem resVT {fn : Func} {r ty k u : Nat} [T : RowC P ty k] {b t : Nat} {cs : List Value} {f : List Value → List Asn} (H : Holds s w rs) (h : fn.results = #[.cell r ty, .tmp u]) (hr : e r = .pointer (some ⟨b, 0, none⟩) := by rfl) (V : PutV rs b t cs f := by infer_instance) (hn : cs.length = k := by rfl) : ResE P fn e w (.tuple #[.agg cs.toArray, e u]) := by
  obtain ⟨i, hi, _⟩ := V.ix
  exact resCT i H h hr hi hn
end
end Go.Own
set_option linter.unusedSimpArgs false
set_option linter.unusedVariables false
namespace Go.Proofs.YtbknpbihgfphaaaDoor
open Go Go.RowKit Go.Own
structure AL where
  ents : List En
  dead : Bool
def addA (d : DM) (x : Ext) (m : AL) (e : En) : DM × AL × Int :=
  if m.dead = true then (d, m, 9) else if e.valid = false then (d, m, 1) else if x.2 ≤ (m.ents.length : Int) then (d, m, 5)
  else if (pwrite d x (m.ents.length : Int) (secE m.ents.length e)).2 = 0 then
    (if (pwrite d x (m.ents.length : Int) (secE m.ents.length e)).1.flush.2 = 0 then ((pwrite d x (m.ents.length : Int) (secE m.ents.length e)).1.flush.1, ⟨m.ents ++ [e], false⟩, 0)
    else ((pwrite d x (m.ents.length : Int) (secE m.ents.length e)).1.flush.1, ⟨m.ents, true⟩, (pwrite d x (m.ents.length : Int) (secE m.ents.length e)).1.flush.2))
  else ((pwrite d x (m.ents.length : Int) (secE m.ents.length e)).1, ⟨m.ents, true⟩, (pwrite d x (m.ents.length : Int) (secE m.ents.length e)).2)
theorem pread_64 {d : DM} {x : Ext} {a : Int} (hw : d.Wf) (h : (pread d x a).2 = 0) : (pread d x a).1.length = 64 := by
  unfold pread at h ⊢
  split at h
  · rename_i hp
    rw [if_pos hp]
    unfold DM.read at h ⊢
    split at h
    · rename_i hb
      rw [if_pos hb]
      split at h
      · cases h
      · rename_i ho
        rw [if_neg ho]
        simp only [DM.inB, decide_eq_true_eq] at hb
        rw [cur_curTo]
        exact curTo_len hw (by omega) _
    · cases h
  · rename_i hp
    exact absurd h hp
section
variable {s : Ro} {w : World} {R : List Asn} {b bp : Nat} {d : DM} {x : Ext}
end
end Go.Proofs.YtbknpbihgfphaaaDoor

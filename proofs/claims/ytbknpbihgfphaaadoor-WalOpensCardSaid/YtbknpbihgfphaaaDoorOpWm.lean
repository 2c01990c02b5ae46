/- wal: steps on a disk that is on, plain; what a formatted part comes to. law16: Changes, walked. -/
import Derived.Test.YtbknpbihgfphaaaDoorOpKd
set_option linter.unusedSimpArgs false
set_option linter.unusedVariables false
namespace Go.Proofs.YtbknpbihgfphaaaDoor
open Go Go.RowKit Go.Own
def okS : St → Bool
  | .w a b => decide (a < 52) && decide (b.length = 64)
  | .f => true
def effS (f : Nat) (l : List St) (c : Nat → List UInt8) : Nat → List UInt8 := l.foldl (fun c s => match s with | .w a b => fun k => if k = f + a then b else c k | .f => c) c
theorem effS_congr (f N : Nat) : ∀ (l : List St) {c c' : Nat → List UInt8}, (∀ k, k < N → c k = c' k) → ∀ k, k < N → effS f l c k = effS f l c' k
  | [], c, c', h, k, hk => h k hk
  | .w a b :: r, c, c', h, k, hk => effS_congr f N r (c := fun k => if k = f + a then b else c k) (c' := fun k => if k = f + a then b else c' k) (fun j hj => by rw [h j hj]) k hk
  | .f :: r, c, c', h, k, hk => effS_congr f N r h k hk
theorem wr1_curW (d : DM) (n : Nat) (b : List UInt8) (j : Nat) : (wr1 d n b).cur j = if j = n then b else d.cur j := by
  unfold wr1 DM.cur
  simp only [List.foldl_append, List.foldl_cons, List.foldl_nil]
  by_cases h : n = j
  · subst h; simp
  · rw [if_neg h, if_neg (fun e => h e.symm)]; rfl
theorem run_free {f : Nat} (hf : f + 52 ≤ 60) : ∀ (l : List St) {d : DM}, Fr0 60 d → l.all okS = true → (run ((f : Int), 52) l d).2 = 0 ∧ Fr0 60 (run ((f : Int), 52) l d).1 ∧ ∀ k, k < 60 → (run ((f : Int), 52) l d).1.cur k = effS f l d.cur k
  | [], d, h, _ => ⟨rfl, h, fun k _ => rfl⟩
  | .w a b :: r, d, h, hok => by
    rw [List.all_cons, Bool.and_eq_true] at hok
    obtain ⟨ho, hr⟩ := hok
    unfold okS at ho
    rw [Bool.and_eq_true, decide_eq_true_eq, decide_eq_true_eq] at ho
    have hw : pwrite d ((f : Int), 52) (a : Int) b = (wr1 d (f + a) b, 0) := h.pwrite (c := 52) ho.1 hf (by decide) ho.2
    rw [run_ok _ (by rw [hw]), hw]
    obtain ⟨h1, h2, h3⟩ := run_free hf r (h.wr1 (f + a) b) hr
    refine ⟨h1, h2, fun k hk => ?_⟩
    rw [h3 k hk]
    exact effS_congr f 60 r (fun j hj => wr1_curW d (f + a) b j) k hk
  | .f :: r, d, h, hok => by
    rw [List.all_cons, Bool.and_eq_true] at hok
    obtain ⟨hf1, hf2, hf3, hf4⟩ := h.flush
    rw [run_fok _ hf1]
    obtain ⟨h1, h2, h3⟩ := run_free hf r hf2 hok.2
    refine ⟨h1, h2, fun k hk => ?_⟩
    rw [h3 k hk]
    exact effS_congr f 60 r (fun j hj => hf4 j hj) k hk
theorem fmt_ok : formatSteps.all okS = true := by decide +kernel
def fmtD (f : Nat) : DM := (run ((f : Int), 52) formatSteps (DM.new 60)).1
theorem fmt_free {f : Nat} (hf : f + 52 ≤ 60) : (run ((f : Int), 52) formatSteps (DM.new 60)).2 = 0 ∧ Fr0 60 (fmtD f) := by
  obtain ⟨h1, h2, _⟩ := run_free hf formatSteps Fr0.new fmt_ok
  exact ⟨h1, h2⟩
deriving instance DecidableEq for WL
theorem open_aw : openM (fmtD 0) ((0 : Nat), 52) = (some ⟨1, 0, 0, z640, false⟩, 0) := by decide +kernel
end Go.Proofs.YtbknpbihgfphaaaDoor
set_option linter.unusedSimpArgs false
set_option linter.unusedVariables false
namespace Go.Proofs.YtbknpbihgfphaaaDoor
open Go Go.RowKit Go.Own
def lenC (off : Int) : Nat := if -40 < off ∧ off < 40 then (40 + off).toNat else 40
def pgC (At : Int) (i : Nat) : Int := if 0 ≤ At ∧ At < 16 then (At + (i : Int)) % 16 else At
def chM (At off : Int) (fill : UInt8) (i : Nat) : Ch := ⟨pgC At i, List.replicate (lenC off) (fill + UInt8.ofNat i)⟩
def chsM (N At off : Int) (fill : UInt8) : List Ch := (List.range (min N.toNat 18)).map (chM At off fill)
theorem lenC_le (off : Int) : lenC off < 80 := by unfold lenC; split <;> omega
section
variable {P : Program} {n : Nat} {ops : Array Oper} {Q : Post} {rest : List Oper} {e : Env} {w : World} {tt : Nat} {pp : String} {af : Array Edge} {g : Option (Nat × Bool)} {d : Nat}
theorem addW {x y : Operand} {t u : TypeId} {k : IntKind} {B a b : Nat} [T : IntC P t k] [U : Uns k B] (h : L P n ops Q rest (upd e d (.int k (((a + b) % 2 ^ B : Nat) : Int))) w) (hw : wg n ops g e = true := by rfl) (hd : Nat.blt d n = true := by rfl) (hx : ev e x = .int k (a : Int) := by rfl) (hy : ev e y = .int k (b : Int) := by rfl) : L P n ops Q (⟨some d, .binOp .add t x y u, tt, pp, af, g⟩ :: rest) e w :=
  K.arith _ hw hd hx hy (by
    show some (k.wrap ((a : Int) + (b : Int))) = some (((a + b) % 2 ^ B : Nat) : Int)
    rw [← Int.natCast_add, uwrap]) h
end
theorem fill_toNat (f : UInt8) {i : Nat} (h : i < 256) : ((f.toNat + i) % 2 ^ 8 : Nat) = (f + UInt8.ofNat i).toNat := by
  rw [UInt8.toNat_add, UInt8.toNat_ofNat']
  omega
theorem fill_set (x : UInt8) {j n : Nat} (h : j < n) : (u8s (List.replicate j x ++ List.replicate (n - j) 0)).set (0 + j * 1) (.int .u8 (x.toNat : Int)) = u8s (List.replicate (j + 1) x ++ List.replicate (n - (j + 1)) 0) := by
  rw [show n - j = (n - (j + 1)) + 1 by omega, List.replicate_succ, show 0 + j * 1 = j by omega, u8s_app, u8s_app, List.set_append_right _ _ (by rw [u8s_len, List.length_replicate]; exact Nat.le_refl _), u8s_len, List.length_replicate, Nat.sub_self, List.replicate_succ', u8s_app, List.append_assoc]
  rfl
section
variable {s : Ro} {w : World} {R : List Asn}
set_option maxRecDepth 100000 in
set_option maxHeartbeats 1000000 in
theorem Changes_s {dx N At off : Int} {fill : UInt8} {kv : Value} (H : Holds s w R) (hN : I64 N) (hA : I64 At) (hk : kv.oneCell' = true) : Calls Tryd.prog 38 #[.agg #[.int .i64 dx, .int .i64 N, .int .i64 At, .int .i64 off, .int .u8 (fill.toNat : Int), kv]] w fun y w' => ∃ s' v cs, y = .returned v ∧ s.Le s' ∧ SlS s' v 2 (chsM N At off fill).length cs ∧ ChS s' cs (chsM N At off fill) ∧ Holds s' w' R := by
  have hln := lenC_le off
  unfold I64 at hN hA
  refine enter Tryd.func38 rfl Tryd.ntmps38 rfl ?_
  repeat' (first | ((fail_if_success (with_reducible show C _ _ _ (Code.seq (Code.seq (Code.region 3 _ _) _) _) _ _)); refine Z H ?_) | (refine Zc ?_ ?_ <;> intro hc <;> first | (exfalso; omega) | skip) | (refine Y ?_; try change C _ _ _ _ _ _) | (refine Zs H ?_; clear H; (try clear w); intro w H) | (refine Zn H ?_; clear H; (try clear w); (first | ((fail_if_success (have := bl1)); intro bl1 w H) | intro _ w H)) | (refine Ze H ?_; clear H; (try clear w); intro gv w H))
  refine C.cut [4, 9, 10, 11, 12, 13, 14, 15, 16, 17, 18, 19, 20] [4] rfl (fun vs w => vs = [.int .i64 (lenC off : Int)] ∧ Holds s w (var bl1 78 [.int .i64 dx, .int .i64 N, .int .i64 At, .int .i64 off, .int .u8 (fill.toNat : Int), kv] :: R)) ?_ ?_
  · by_cases ho : -40 < off ∧ off < 40
    · have hle : (lenC off : Int) = 40 + off := by unfold lenC; rw [if_pos ho]; omega
      rw [hle]
      obtain ⟨ho1, ho2⟩ := ho
      repeat' (first | refine Z H ?_ | (refine Zc ?_ ?_ <;> intro hc <;> first | (exfalso; omega) | skip) | (refine Y ?_; try change C _ _ _ _ _ _) | (refine Zs H ?_; clear H; (try clear w); intro w H) | (refine Zn H ?_; clear H; (try clear w); (first | ((fail_if_success (have := bl1)); intro bl1 w H) | intro _ w H)) | (refine Ze H ?_; clear H; (try clear w); intro gv w H))
      exact ⟨by (repeat (first | exact Agr.refl | exact Agr.hav | refine Agr.upd rfl ?_ | refine Agr.in rfl ?_)), rfl, H⟩
    · have hle : (lenC off : Int) = 40 := by unfold lenC; rw [if_neg ho]; rfl
      rw [hle]
      repeat' (first | refine Z H ?_ | (refine Zc ?_ ?_ <;> intro hc <;> first | (exfalso; omega) | skip) | (refine Y ?_; try change C _ _ _ _ _ _) | (refine Zs H ?_; clear H; (try clear w); intro w H) | (refine Zn H ?_; clear H; (try clear w); (first | ((fail_if_success (have := bl1)); intro bl1 w H) | intro _ w H)) | (refine Ze H ?_; clear H; (try clear w); intro gv w H))
      all_goals exact ⟨by (repeat (first | exact Agr.refl | exact Agr.hav | refine Agr.upd rfl ?_ | refine Agr.in rfl ?_)), rfl, H⟩
  · clear H
    rintro vs hv w ⟨rfl, H⟩
    have hln2 := hln
    generalize hLn : lenC off = ln at *
    repeat' (first | refine Z H ?_ | (refine Zc ?_ ?_ <;> intro hc <;> first | (exfalso; omega) | skip) | (refine Y ?_; try change C _ _ _ _ _ _) | (refine Zs H ?_; clear H; (try clear w); intro w H) | (refine Zn H ?_; clear H; (try clear w); (first | ((fail_if_success (have := bl1)); intro bl1 w H) | intro _ w H)) | (refine Ze H ?_; clear H; (try clear w); intro gv w H))
    replace H := H.nilRow 98 2
    refine C.loopS [3, 5, 6, 7, 8, 21, 22, 23, 24, 25, 26, 27, 28, 29, 30, 31, 32, 33, 34, 35, 36, 37, 38, 39, 40, 41, 42, 43, 44, 45, 46, 47, 48, 49, 50, 51, 52, 53, 54, 55, 56, 57, 58, 59, 60, 61, 62, 63] [3, 5] rfl (fun k vs w => ∃ i : Nat, ∃ s' aa cc cs, k = 18 - i ∧ i ≤ 18 ∧ (i : Int) ≤ max N 0 ∧ vs = [.slice aa i cc, .int .i64 (i : Int)] ∧ s.Le s' ∧ ChS s' cs ((List.range i).map (chM At off fill)) ∧ Holds s' w (row 98 2 (.slice aa i cc) i cs :: var bl1 78 [.int .i64 dx, .int .i64 N, .int .i64 At, .int .i64 off, .int .u8 (fill.toNat : Int), kv] :: R)) 18 ⟨0, s, none, 0, [], rfl, Nat.zero_le _, by omega, rfl, Ro.Le.refl _, ChS.nil _, H⟩ ?_
    clear H
    rintro k vs hv w ⟨i, s1, aa, cc, cs, rfl, hi, hiN, rfl, hs1, hch, H⟩
    by_cases hlt : i < 18 ∧ (i : Int) < N
    · obtain ⟨h18, hlN⟩ := hlt
      repeat' (first | refine Z H ?_ | (refine Zc ?_ ?_ <;> intro hc <;> first | (exfalso; omega) | skip) | (refine Y ?_; try change C _ _ _ _ _ _) | (refine Zs H ?_; clear H; (try clear w); intro w H) | (refine Zn H ?_; clear H; (try clear w); (first | ((fail_if_success (have := bl1)); intro bl1 w H) | intro _ w H)) | (refine Ze H ?_; clear H; (try clear w); intro gv w H))
      refine K.make (k := ln) (m := ln) H rfl rfl rfl rfl rfl (Nat.le_refl _) (by omega) (by unfold maxLen; omega) ?_
      clear H
      intro g1 w H
      rw [rep_flat] at H
      repeat' (first | refine Z H ?_ | (refine Zc ?_ ?_ <;> intro hc <;> first | (exfalso; omega) | skip) | (refine Y ?_; try change C _ _ _ _ _ _) | (refine Zs H ?_; clear H; (try clear w); intro w H) | (refine Zn H ?_; clear H; (try clear w); (first | ((fail_if_success (have := bl1)); intro bl1 w H) | intro _ w H)) | (refine Ze H ?_; clear H; (try clear w); intro gv w H))
      have wi : i % 2 ^ 8 = i := Nat.mod_eq_of_lt (by omega)
      have hft := fill_toNat fill (i := i) (by omega)
      have H' : Holds s1 w (row 5 1 (.slice (some ⟨g1, 0, none⟩) ln ln) ln (u8s (List.replicate 0 (fill + UInt8.ofNat i) ++ List.replicate (ln - 0) 0)) :: row 98 2 (.slice aa i cc) i cs :: var bl1 78 [.int .i64 dx, .int .i64 N, .int .i64 At, .int .i64 off, .int .u8 (fill.toNat : Int), kv] :: R) := by
        rw [List.replicate_zero, List.nil_append, u8s_zero]
        exact H
      clear H
      refine C.loopS [7, 33, 34, 35, 36, 37, 38, 39, 40, 41, 42, 43, 44, 45] [7] rfl (fun k vs w => ∃ j : Nat, k = ln - j ∧ j ≤ ln ∧ vs = [.int .i64 (j : Int)] ∧ Holds s1 w (row 5 1 (.slice (some ⟨g1, 0, none⟩) ln ln) ln (u8s (List.replicate j (fill + UInt8.ofNat i) ++ List.replicate (ln - j) 0)) :: row 98 2 (.slice aa i cc) i cs :: var bl1 78 [.int .i64 dx, .int .i64 N, .int .i64 At, .int .i64 off, .int .u8 (fill.toNat : Int), kv] :: R)) ln ⟨0, rfl, Nat.zero_le _, rfl, H'⟩ ?_
      clear H'
      rintro k vs hv2 w ⟨j, rfl, hj, rfl, H⟩
      by_cases hjl : j < ln
      · have hln3 : j < (u8s (List.replicate j (fill + UInt8.ofNat i) ++ List.replicate (ln - j) 0)).length := by rw [u8s_len, List.length_append, List.length_replicate, List.length_replicate]; omega
        have hln4 : 0 + j * 1 < (u8s (List.replicate j (fill + UInt8.ofNat i) ++ List.replicate (ln - j) 0)).length := by omega
        have hfs := fill_set (fill + UInt8.ofNat i) hjl
        generalize fill + UInt8.ofNat i = fx at *
        repeat' (first | (refine B.conv Tryd.underlying3 ?_; rw [wi]) | (refine addW (a := fill.toNat) (b := i) ?_; rw [hft]) | (refine X.rst H ?_ (hl := hln4); clear H; (try clear w); intro w H) | refine Z H ?_ | (refine Zc ?_ ?_ <;> intro hc <;> first | (exfalso; omega) | skip) | (refine Y ?_; try change C _ _ _ _ _ _) | (refine Zs H ?_; clear H; (try clear w); intro w H) | (refine Zn H ?_; clear H; (try clear w); (first | ((fail_if_success (have := bl1)); intro bl1 w H) | intro _ w H)) | (refine Ze H ?_; clear H; (try clear w); intro gv w H))
        rw [hfs] at H
        exact ⟨by (repeat (first | exact Agr.refl | exact Agr.hav | refine Agr.upd rfl ?_ | refine Agr.in rfl ?_)), ln - (j + 1), by omega, j + 1, rfl, by omega, rfl, H⟩
      · have hje : j = ln := by omega
        subst hje
        rw [Nat.sub_self, List.replicate_zero, List.append_nil] at H
        have H' : Holds s1 w (row 5 1 (.slice (some ⟨g1, 0, none⟩) (List.replicate j (fill + UInt8.ofNat i)).length j) (List.replicate j (fill + UInt8.ofNat i)).length (u8s (List.replicate j (fill + UInt8.ofNat i))) :: row 98 2 (.slice aa i cc) i cs :: var bl1 78 [.int .i64 dx, .int .i64 N, .int .i64 At, .int .i64 off, .int .u8 (fill.toNat : Int), kv] :: R) := by
          rw [List.length_replicate]; exact H
        obtain ⟨s2, hs2, H2, hS2⟩ := H'.fixRow
        clear H H'
        have H := H2
        clear H2
        have hch2 : ChS s2 (cs ++ [.int .i64 (pgC At i), .slice (some ⟨g1, 0, none⟩) (List.replicate j (fill + UInt8.ofNat i)).length j]) ((List.range (i + 1)).map (chM At off fill)) := by
          rw [List.range_succ, List.map_append]
          refine (hch.mono hs2).snoc (c := chM At off fill i) ?_
          unfold chM
          rw [hLn]
          exact hS2
        generalize hD : List.replicate j (fill + UInt8.ofNat i) = dat at *
        have hdl : dat.length = j := by rw [← hD, List.length_replicate]
        repeat' (first | ((fail_if_success (with_reducible show C _ _ _ (Code.seq (Code.seq (Code.region 14 _ _) _) _) _ _)); refine Z H ?_) | (refine Zc ?_ ?_ <;> intro hc <;> first | (exfalso; omega) | skip) | (refine Y ?_; try change C _ _ _ _ _ _) | (refine Zs H ?_; clear H; (try clear w); intro w H) | (refine Zn H ?_; clear H; (try clear w); (first | ((fail_if_success (have := bl1)); intro bl1 w H) | intro _ w H)) | (refine Ze H ?_; clear H; (try clear w); intro gv w H))
        refine C.cut [8, 48, 49, 50, 51, 52, 53, 54, 55, 56, 57] [8] rfl (fun vs w => vs = [.int .i64 (pgC At i)] ∧ Holds s2 w (row 98 2 (.slice aa i cc) i cs :: var bl1 78 [.int .i64 dx, .int .i64 N, .int .i64 At, .int .i64 off, .int .u8 (fill.toNat : Int), kv] :: R)) ?_ ?_
        · by_cases hAt : 0 ≤ At ∧ At < 16
          · have hpg : pgC At i = (At + (i : Int)) % 16 := by unfold pgC; rw [if_pos hAt]
            rw [hpg]
            obtain ⟨hA1, hA2⟩ := hAt
            have hrem : (At + (i : Int)).tmod 16 = (At + (i : Int)) % 16 := Int.tmod_eq_emod_of_nonneg (by omega)
            repeat' (first | (refine K.rem rfl rfl rfl rfl (by decide) ?_; rw [hrem]) | refine Z H ?_ | (refine Zc ?_ ?_ <;> intro hc <;> first | (exfalso; omega) | skip) | (refine Y ?_; try change C _ _ _ _ _ _) | (refine Zs H ?_; clear H; (try clear w); intro w H) | (refine Zn H ?_; clear H; (try clear w); (first | ((fail_if_success (have := bl1)); intro bl1 w H) | intro _ w H)) | (refine Ze H ?_; clear H; (try clear w); intro gv w H))
            exact ⟨by (repeat (first | exact Agr.refl | exact Agr.hav | refine Agr.upd rfl ?_ | refine Agr.in rfl ?_)), rfl, H⟩
          · have hpg : pgC At i = At := by unfold pgC; rw [if_neg hAt]
            rw [hpg]
            repeat' (first | refine Z H ?_ | (refine Zc ?_ ?_ <;> intro hc <;> first | (exfalso; omega) | skip) | (refine Y ?_; try change C _ _ _ _ _ _) | (refine Zs H ?_; clear H; (try clear w); intro w H) | (refine Zn H ?_; clear H; (try clear w); (first | ((fail_if_success (have := bl1)); intro bl1 w H) | intro _ w H)) | (refine Ze H ?_; clear H; (try clear w); intro gv w H))
            all_goals exact ⟨by (repeat (first | exact Agr.refl | exact Agr.hav | refine Agr.upd rfl ?_ | refine Agr.in rfl ?_)), rfl, H⟩
        · clear H
          rintro vs hv3 w ⟨rfl, H⟩
          repeat' (first | (refine K.build [(0, .int .i64 (pgC At i)), (1, .slice (some ⟨g1, 0, none⟩) j j)] (.agg #[.int .i64 (pgC At i), .slice (some ⟨g1, 0, none⟩) j j]) (build_change _ _ _ _) rfl rfl rfl ?_) | refine Z H ?_ | (refine Zc ?_ ?_ <;> intro hc <;> first | (exfalso; omega) | skip) | (refine Y ?_; try change C _ _ _ _ _ _) | (refine Zs H ?_; clear H; (try clear w); intro w H) | (refine Zn H ?_; clear H; (try clear w); (first | ((fail_if_success (have := bl1)); intro bl1 w H) | intro _ w H)) | (refine Ze H ?_; clear H; (try clear w); intro gv w H))
          refine K.one (v := .agg #[.int .i64 (pgC At i), .slice (some ⟨g1, 0, none⟩) j j]) (cs := [.int .i64 (pgC At i), .slice (some ⟨g1, 0, none⟩) j j]) H rfl rfl rfl rfl rfl ?_
          clear H
          intro g2 w H
          have H' : Holds s2 w (row 98 2 (.slice (some ⟨g2, 0, none⟩) 1 1) 1 [.int .i64 (pgC At i), .slice (some ⟨g1, 0, none⟩) j j] :: row 98 2 (.slice aa i cc) i cs :: var bl1 78 [.int .i64 dx, .int .i64 N, .int .i64 At, .int .i64 off, .int .u8 (fill.toNat : Int), kv] :: R) := H
          clear H
          have H := H'
          clear H'
          repeat' (first | (refine X.app H ?_; clear H; intro a3 c3 w H) | refine Z H ?_ | (refine Zc ?_ ?_ <;> intro hc <;> first | (exfalso; omega) | skip) | (refine Y ?_; try change C _ _ _ _ _ _) | (refine Zs H ?_; clear H; (try clear w); intro w H) | (refine Zn H ?_; clear H; (try clear w); (first | ((fail_if_success (have := bl1)); intro bl1 w H) | intro _ w H)) | (refine Ze H ?_; clear H; (try clear w); intro gv w H))
          have H' := H.arr (rs' := row 98 2 (.slice a3 (i + 1) c3) (i + 1) (cs ++ [.int .i64 (pgC At i), .slice (some ⟨g1, 0, none⟩) j j]) :: var bl1 78 [.int .i64 dx, .int .i64 N, .int .i64 At, .int .i64 off, .int .u8 (fill.toNat : Int), kv] :: R)
          rw [hdl] at hch2
          exact ⟨by (repeat (first | exact Agr.refl | exact Agr.hav | refine Agr.upd rfl ?_ | refine Agr.in rfl ?_)), 18 - (i + 1), by omega, i + 1, s2, a3, c3, _, rfl, by omega, by omega, rfl, hs1.trans hs2, hch2, H'⟩
    · have hie : min N.toNat 18 = i := by omega
      have hN2 : chsM N At off fill = (List.range i).map (chM At off fill) := by unfold chsM; rw [hie]
      rw [hN2]
      repeat' (first | refine Z H ?_ | (refine Zc ?_ ?_ <;> intro hc <;> first | (exfalso; omega) | skip) | (refine Y ?_; try change C _ _ _ _ _ _) | (refine Zs H ?_; clear H; (try clear w); intro w H) | (refine Zn H ?_; clear H; (try clear w); (first | ((fail_if_success (have := bl1)); intro bl1 w H) | intro _ w H)) | (refine Ze H ?_; clear H; (try clear w); intro gv w H))
      all_goals
        obtain ⟨s2, hs2, H1, hS⟩ := H.fixRow
        refine ⟨_, resT rfl, s2, _, cs, rfl, hs1.trans hs2, ?_, hch.mono hs2, H1.tail⟩
        rw [List.length_map, List.length_range]
        exact hS
end
end Go.Proofs.YtbknpbihgfphaaaDoor

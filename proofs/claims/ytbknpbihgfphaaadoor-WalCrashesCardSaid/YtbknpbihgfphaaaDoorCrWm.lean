/- wal: steps on a disk that is on, plain; what a formatted part comes to. -/
import Derived.Test.YtbknpbihgfphaaaDoorCrWh
import Derived.Test.YtbknpbihgfphaaaDoorCrAw
set_option linter.unusedSimpArgs false
set_option linter.unusedVariables false
namespace Go.Proofs.YtbknpbihgfphaaaDoor
open Go Go.RowKit Go.Own
def okS : St → Bool
  | .w a b => decide (a < 52) && decide (b.length = 64)
  | .f => true
def effS (f : Nat) (l : List St) (c : Nat → List UInt8) : Nat → List UInt8 := l.foldl (fun c s => match s with | .w a b => fun k => if k = f + a then b else c k | .f => c) c
theorem effS_congr (f N : Nat) : ∀ (l : List St) {c c' : Nat → List UInt8}, (∀ k, k < N → c k = c' k) → ∀ k, k < N → effS f l c k = effS f l c' k
  | [], c, c', h, k, hk => h k hk
  | .w a b :: r, c, c', h, k, hk => effS_congr f N r (c := fun k => if k = f + a then b else c k) (c' := fun k => if k = f + a then b else c' k) (fun j hj => by rw [h j hj]) k hk
  | .f :: r, c, c', h, k, hk => effS_congr f N r h k hk
theorem wr1_curW (d : DM) (n : Nat) (b : List UInt8) (j : Nat) : (wr1 d n b).cur j = if j = n then b else d.cur j := by
  unfold wr1 DM.cur
  simp only [List.foldl_append, List.foldl_cons, List.foldl_nil]
  by_cases h : n = j
  · subst h; simp
  · rw [if_neg h, if_neg (fun e => h e.symm)]; rfl
theorem run_free {f : Nat} (hf : f + 52 ≤ 60) : ∀ (l : List St) {d : DM}, Fr0 60 d → l.all okS = true → (run ((f : Int), 52) l d).2 = 0 ∧ Fr0 60 (run ((f : Int), 52) l d).1 ∧ ∀ k, k < 60 → (run ((f : Int), 52) l d).1.cur k = effS f l d.cur k
  | [], d, h, _ => ⟨rfl, h, fun k _ => rfl⟩
  | .w a b :: r, d, h, hok => by
    rw [List.all_cons, Bool.and_eq_true] at hok
    obtain ⟨ho, hr⟩ := hok
    unfold okS at ho
    rw [Bool.and_eq_true, decide_eq_true_eq, decide_eq_true_eq] at ho
    have hw : pwrite d ((f : Int), 52) (a : Int) b = (wr1 d (f + a) b, 0) := h.pwrite (c := 52) ho.1 hf (by decide) ho.2
    rw [run_ok _ (by rw [hw]), hw]
    obtain ⟨h1, h2, h3⟩ := run_free hf r (h.wr1 (f + a) b) hr
    refine ⟨h1, h2, fun k hk => ?_⟩
    rw [h3 k hk]
    exact effS_congr f 60 r (fun j hj => wr1_curW d (f + a) b j) k hk
  | .f :: r, d, h, hok => by
    rw [List.all_cons, Bool.and_eq_true] at hok
    obtain ⟨hf1, hf2, hf3, hf4⟩ := h.flush
    rw [run_fok _ hf1]
    obtain ⟨h1, h2, h3⟩ := run_free hf r hf2 hok.2
    refine ⟨h1, h2, fun k hk => ?_⟩
    rw [h3 k hk]
    exact effS_congr f 60 r (fun j hj => hf4 j hj) k hk
theorem fmt_ok : formatSteps.all okS = true := by decide +kernel
def fmtD (f : Nat) : DM := (run ((f : Int), 52) formatSteps (DM.new 60)).1
theorem fmt_free {f : Nat} (hf : f + 52 ≤ 60) : (run ((f : Int), 52) formatSteps (DM.new 60)).2 = 0 ∧ Fr0 60 (fmtD f) := by
  obtain ⟨h1, h2, _⟩ := run_free hf formatSteps Fr0.new fmt_ok
  exact ⟨h1, h2⟩
deriving instance DecidableEq for WL
theorem open_aw : openM (fmtD 0) ((0 : Nat), 52) = (some ⟨1, 0, 0, z640, false⟩, 0) := by decide +kernel
end Go.Proofs.YtbknpbihgfphaaaDoor

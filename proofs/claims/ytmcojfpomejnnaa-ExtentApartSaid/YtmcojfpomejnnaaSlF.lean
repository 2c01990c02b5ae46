/- Elements of slices that are only read; more of the disk as plain data. Over any program. -/
import Derived.Test.YtmcojfpomejnnaaEngJ
import Derived.Test.YtmcojfpomejnnaaDm
set_option linter.unusedSimpArgs false
set_option linter.unusedVariables false
namespace Go.Own
open Go Go.RowKit

theorem flat_get {α β : Type} {f : α → List β} {sz : Nat} : ∀ (l : List α), (∀ x ∈ l, (f x).length = sz) → ∀ (i j : Nat) (hi : i < l.length), j < sz → (l.flatMap f)[i * sz + j]? = (f l[i])[j]?
  | [], _, i, j, hi, _ => by simp at hi
  | x :: l, hf, 0, j, hi, hj => by
    rw [List.flatMap_cons, Nat.zero_mul, Nat.zero_add, List.getElem?_append_left (by rw [hf x (by simp)]; exact hj)]
    rfl
  | x :: l, hf, i + 1, j, hi, hj => by
    have hx := hf x (by simp)
    rw [List.flatMap_cons, List.getElem?_append_right (by rw [hx, Nat.add_mul]; omega), hx]
    have : (i + 1) * sz + j - sz = i * sz + j := by rw [Nat.add_mul]; omega
    rw [this, flat_get l (fun y hy => hf y (by simp [hy])) i j (by simpa using hi) hj]
    rfl
theorem elemS {s : Ro} {α : Type} {f : α → List Value} {v : Value} {sz : Nat} {l : List α} (h : SlS s v sz l.length (l.flatMap f)) (hf : ∀ x ∈ l, (f x).length = sz) (hsz : 0 < sz) (hne : 0 < l.length) :
    ∃ g o c, v = .slice (some ⟨g, o, none⟩) l.length c ∧ l.length ≤ c ∧ c ≤ maxLen ∧ ∀ i (hi : i < l.length) j x, (f l[i])[j]? = some x → Pin s g (o + i * sz + j) x := by
  obtain ⟨g, o, c, rfl, h1, h2, h3⟩ := posS h hne hsz
  refine ⟨g, o, c, rfl, h1, h2, fun i hi j x hx => ?_⟩
  have hj : j < sz := by
    have := (List.getElem?_eq_some_iff.1 hx).1
    rwa [hf _ (List.getElem_mem hi)] at this
  rw [Nat.add_assoc]
  exact h3 _ _ (by rw [flat_get l hf i j hi hj]; exact hx)
theorem elemS1 {s : Ro} {α : Type} {f : α → Value} {v : Value} {l : List α} (h : SlS s v 1 l.length (l.map f)) (hne : 0 < l.length) :
    ∃ g o c, v = .slice (some ⟨g, o, none⟩) l.length c ∧ l.length ≤ c ∧ c ≤ maxLen ∧ ∀ i (hi : i < l.length), Pin s g (o + i) (f l[i]) := by
  obtain ⟨g, o, c, rfl, h1, h2, h3⟩ := posS h hne (by decide)
  exact ⟨g, o, c, rfl, h1, h2, fun i hi => h3 i (f l[i]) (by simp [hi])⟩
theorem formS {s : Ro} {v : Value} {sz n : Nat} {xs : List Value} (h : SlS s v sz n xs) : ∃ a c, v = .slice a n c ∧ n ≤ c ∧ c ≤ maxLen := by
  obtain ⟨a, c, h1, _, h2, h3, _⟩ := h; exact ⟨a, c, h1, h2, h3⟩

/-! ### the disk: laid writes -/
def DM.lay (d : DM) (all : Bool) (sv : List Bool) : DM := { d with secs := if all then layAll d.secs d.pend else layS d.secs d.pend sv, pend := [] }
def layT (d : DM) (all : Bool) (sv : List Bool) (i : Nat) : List (List UInt8) := if all then layAll d.secs (d.pend.take i) else layS d.secs (d.pend.take i) sv
theorem layT_len (d : DM) (all : Bool) (sv : List Bool) (i : Nat) : (layT d all sv i).length = d.secs.length := by
  unfold layT; split <;> simp [layAll_len, layS_len]
theorem layT_succ (d : DM) (all : Bool) (sv : List Bool) {i : Nat} (h : i < d.pend.length) : layT d all sv (i + 1) = if (all || sv[i]?.getD false) = true then (layT d all sv i).set d.pend[i].1 d.pend[i].2 else layT d all sv i := by
  unfold layT
  rw [take_snoc' _ h]
  have hl : (d.pend.take i).length = i := by simp; omega
  cases all with
  | true => simp only [if_true, Bool.true_or]; exact layAll_snoc _ _ _
  | false =>
    have := layS_snoc d.secs (d.pend.take i) d.pend[i] sv
    rw [hl] at this
    simpa using this
theorem layT_all (d : DM) (all : Bool) (sv : List Bool) : layT d all sv d.pend.length = (d.lay all sv).secs := by
  unfold layT DM.lay; rw [List.take_length]
theorem DM.Wf.lay {d : DM} (h : d.Wf) (all : Bool) (sv : List Bool) : (d.lay all sv).Wf := by
  have h1 := h.lo
  have h2 := h.hi
  refine ⟨?_, fun p hp => by simp [DM.lay] at hp, ?_, ?_, h.l0, h.l1⟩
  · unfold DM.lay
    cases all
    · exact layS_64 _ _ _ h.sec (fun q hq => (h.pnd q hq).2)
    · exact layAll_64 _ _ h.sec (fun q hq => (h.pnd q hq).2)
  · unfold DM.lay; cases all <;> simp [layAll_len, layS_len, h1]
  · unfold DM.lay; cases all <;> simp [layAll_len, layS_len, h2]
end Go.Own

/- The plain laws of extents that are apart. -/
import Derived.Test.YtmcojfpomejnnaaExtA
set_option linter.unusedSimpArgs false
set_option linter.unusedVariables false
namespace Go.Proofs.Ytmcojfpomejnnaa
open Go Go.RowKit Go.Own

def NoMeet (x y : Ext) : Prop := meetM x.1 x.2 y.1 y.2 = false
theorem NoMeet.symm {x y : Ext} (h : NoMeet x y) : NoMeet y x := by
  unfold NoMeet meetM at *
  simp only [decide_eq_false_iff_not] at *
  omega
/-- are they apart, two by two -/
def apartM (l : List Ext) : Bool := decide (l.Pairwise fun x y => meetM x.1 x.2 y.1 y.2 = false)
def big (l : List Ext) : List Ext := l.filter fun x => decide (1 ≤ x.2)
theorem pair_big : ∀ l : List Ext, (big l).Pairwise NoMeet ↔ l.Pairwise NoMeet
  | [] => by simp [big]
  | x :: l => by
    have ih := pair_big l
    unfold big at *
    rw [List.filter_cons]
    by_cases h : 1 ≤ x.2
    · rw [if_pos (by simpa using h), List.pairwise_cons, List.pairwise_cons, ih]
      refine and_congr_left fun _ => ⟨fun h' y hy => ?_, fun h' y hy => h' y (List.mem_filter.1 hy).1⟩
      by_cases hy2 : 1 ≤ y.2
      · exact h' y (List.mem_filter.2 ⟨hy, by simpa using hy2⟩)
      · unfold NoMeet meetM; simp only [decide_eq_false_iff_not]; omega
    · rw [if_neg (by simpa using h), List.pairwise_cons, ih]
      refine ⟨fun h' => ⟨fun y _ => ?_, h'⟩, fun h' => h'.2⟩
      unfold NoMeet meetM; simp only [decide_eq_false_iff_not]; omega
theorem pair_perm {l l' : List Ext} (h : l'.Perm l) : l'.Pairwise NoMeet ↔ l.Pairwise NoMeet := h.pairwise_iff fun h => NoMeet.symm h
theorem adj_pair {l : List Ext} (hs : l.Pairwise fun x y => x.1 ≤ y.1) (h1 : ∀ x ∈ l, 1 ≤ x.2) : l.Pairwise NoMeet ↔ ∀ j (h : j + 1 < l.length), l[j].2 ≤ l[j + 1].1 - l[j].1 := by
  rw [List.pairwise_iff_getElem] at hs
  constructor
  · intro h j hj
    rw [List.pairwise_iff_getElem] at h
    have a := h j (j + 1) (by omega) hj (by omega)
    have b := hs j (j + 1) (by omega) hj (by omega)
    have c := h1 l[j] (List.getElem_mem _)
    have c' := h1 l[j + 1] (List.getElem_mem _)
    unfold NoMeet meetM at a
    simp only [decide_eq_false_iff_not] at a
    omega
  · intro h
    rw [List.pairwise_iff_getElem]
    intro i j hi hj hij
    have a := h i (by omega)
    have b : l[i + 1].1 ≤ l[j].1 := by
      rcases Nat.lt_or_ge (i + 1) j with h' | h'
      · exact hs (i + 1) j (by omega) hj h'
      · have : j = i + 1 := by omega
        subst this; exact Int.le_refl _
    have c := h1 l[i] (List.getElem_mem _)
    unfold NoMeet meetM
    simp only [decide_eq_false_iff_not]
    omega
/-- what extent.Apart answers, by what it finds -/
theorem apart_of {l s : List Ext} (hp : s.Perm (big l)) (hs : s.Pairwise fun x y => x.1 ≤ y.1) : apartM l = true ↔ ∀ j (h : j + 1 < s.length), s[j].2 ≤ s[j + 1].1 - s[j].1 := by
  have h1 : ∀ x ∈ s, 1 ≤ x.2 := fun x hx => by
    have := (hp.mem_iff).1 hx
    simpa using (List.mem_filter.1 this).2
  unfold apartM
  rw [decide_eq_true_iff]
  show l.Pairwise NoMeet ↔ _
  rw [← pair_big, ← pair_perm hp, adj_pair hs h1]
theorem big_take_succ (l : List Ext) (i : Nat) (h : i < l.length) : big (l.take (i + 1)) = big (l.take i) ++ if 1 ≤ l[i].2 then [l[i]] else [] := by
  unfold big
  rw [List.take_succ_eq_append_getElem h, List.filter_append]
  congr 1
  by_cases h' : 1 ≤ l[i].2 <;> simp [h']
theorem big_len (l : List Ext) (i : Nat) : (big (l.take i)).length ≤ i := Nat.le_trans (List.length_filter_le _ _) (by simp; omega)
end Go.Proofs.Ytmcojfpomejnnaa

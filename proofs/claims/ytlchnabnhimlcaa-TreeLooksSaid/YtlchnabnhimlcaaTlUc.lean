/- Trees, plain: Write, whole: what is read behind it, how many blocks there are. Trees, plain: a node's path is its own alone; what is done elsewhere leaves it. Trees, plain: what is done to one path leaves what is read by another. Trees, plain: the paths of nodes (the document's nodes have whole paths). Trees, plain: a path leads to the node that has it; the paths behind an operation. nacelleref17, walked weakly: paths. nacelleref17, walked weakly: IsPath; its tree in memory; at. nacelleref17, walked weakly: its tree in memory; at, find, Find, dir, File. -/
import Derived.Test.YtlchnabnhimlcaaTlTzw
set_option linter.unusedSimpArgs false
set_option linter.unusedVariables false
namespace Go.Proofs.Ytlchnabnhimlcaa
open Go Go.RowKit Go.Own
theorem sum_set : ∀ (l : List Nat) (i x : Nat) (h : i < l.length), (l.set i x).sum + l[i] = l.sum + x
  | a :: l, 0, x, _ => by simp only [List.set_cons_zero, List.sum_cons, List.getElem_cons_zero]; omega
  | a :: l, i + 1, x, h => by
    have := sum_set l i x (by simpa using h)
    simp only [List.set_cons_succ, List.sum_cons, List.getElem_cons_succ]
    omega
theorem used_set {t : TR} (ht : t.Ok) {f : Nat} (hf : f < 8) (x : Nd) : usedN (t.set f x) + (t.n f).nblk = usedN t + x.nblk := by
  have := sum_set (t.nd.map Nd.nblk) f x.nblk (by rw [List.length_map, ht.n8]; exact hf)
  rw [← List.map_set, List.getElem_map, ← TR.n_get ht hf] at this
  exact this
theorem pokes_nd {f : Nat} : ∀ {l : Str} {u : TR} {p : Nat}, (pokesM u f p l).nd = u.nd
  | [], u, p => rfl
  | c :: l, u, p => by rw [pokesM, pokes_nd]; rfl
theorem growJ_used {t v : TR} (ht : t.Ok) {f : Nat} (hf : f < 8) {size quota : Int} {j : Nat} (hj : j < 2) (h : growJ t f size quota j = some v) : v.Ok ∧ ((usedN v : Int) ≤ usedN t ∨ (usedN v : Int) ≤ quota) := by
  unfold growJ at h
  split at h
  · cases h; exact ⟨ht, .inl (Int.le_refl _)⟩
  · rename_i hc
    split at h
    · cases h
    · rename_i hc2
      cases h
      refine ⟨TR.ok_set ht _ _, .inr ?_⟩
      have h1 := used_set ht hf ((t.n f).setBlk j (unusedM t))
      have h2 : ((t.n f).setBlk j (unusedM t)).nblk ≤ (t.n f).nblk + 1 := by
        unfold Nd.setBlk Nd.nblk
        split <;> dsimp only <;> split <;> split <;> omega
      omega
theorem growM_used {t u : TR} (ht : t.Ok) {f : Nat} (hf : f < 8) {size quota : Int} (h : growM t f size quota = some u) : (usedN u : Int) ≤ usedN t ∨ (usedN u : Int) ≤ quota := by
  rw [growM_eq] at h
  unfold growTo growTo growTo at h
  simp only [Option.bind_some] at h
  cases h0 : growJ t f size quota 0 with
  | none => rw [h0] at h; cases h
  | some a =>
    rw [h0, Option.bind_some] at h
    cases h1 : growJ a f size quota 1 with
    | none => rw [h1] at h; cases h
    | some b =>
      rw [h1, Option.map_some] at h
      cases h
      obtain ⟨a1, a2⟩ := growJ_used ht hf (by omega) h0
      obtain ⟨b1, b2⟩ := growJ_used a1 hf (by omega) h1
      have h3 := used_set b1 hf ⟨(b.n f).kind, (b.n f).parent, (b.n f).name, size, (b.n f).b0, (b.n f).b1⟩
      have h4 : (⟨(b.n f).kind, (b.n f).parent, (b.n f).name, size, (b.n f).b0, (b.n f).b1⟩ : Nd).nblk = (b.n f).nblk := rfl
      change (usedN (b.set f ⟨(b.n f).kind, (b.n f).parent, (b.n f).name, size, (b.n f).b0, (b.n f).b1⟩) : Int) ≤ _ ∨ _
      omega
/-- what Write has done, when it answers OK -/
structure Written (t w : TR) (p : Str) (o : Nat) (l : Str) (quota : Int) : Prop where
  chk : checkM w = true
  rd : (readM w p 0 80).2 = 0
  used : (usedN w : Int) ≤ usedN t ∨ (usedN w : Int) ≤ quota
  len : (readM w p 0 80).1.length = if l.length = 0 ∨ o + l.length < (readM t p 0 80).1.length then (readM t p 0 80).1.length else o + l.length
  byte : ∀ i : Nat, i < (readM w p 0 80).1.length → (readM w p 0 80).1[i]? = some (if o ≤ i ∧ i - o < l.length then l[i - o]?.getD 0 else if i < (readM t p 0 80).1.length then (readM t p 0 80).1[i]?.getD 0 else 0)
theorem file_size {t : TR} (h : WF t) {f : Nat} (hf : f < 8) (hk : (t.n f).kind = 2) : 0 ≤ (t.n f).size ∧ (t.n f).size ≤ 80 := by
  have := ((h.nd f (file_pos h.root hk) hf).resolve_left (kind_nz (by rw [hk]; decide))).sh
  unfold Shaped at this
  omega
theorem written {t : TR} (ht : t.Ok) {p : Str} {a : Int} {l : Str} {qu : Int} (h : (writeM t p a l qu).2 = 0) : ∃ o : Nat, a = o ∧ o ≤ 80 ∧ Written t (writeM t p a l qu).1 p o l qu := by
  have hcw := check_write ht h
  obtain ⟨hc, f, o, hfd, hf, hk, rfl, ho, hcase⟩ := write_ok h
  have hw := (check_wf ht).1 hc
  have hf1 := file_pos hw.root hk
  have hsz := file_size hw hf hk
  have hrt := read_all hc hfd hk hsz.2
  refine ⟨o, rfl, by omega, ?_⟩
  rcases hcase with ⟨hl, e⟩ | ⟨hl, u, hg, e⟩
  · rw [e]
    refine ⟨hc, by rw [hrt], .inl (Int.le_refl _), by rw [hrt, if_pos (.inl hl)], fun i hi => ?_⟩
    rw [hrt] at hi ⊢
    dsimp only at hi ⊢
    rw [if_neg (by omega), if_pos hi, List.getElem?_eq_getElem hi]
    rfl
  · rw [e] at hcw ⊢
    have hg' := growM_facts ht hf (bksJ_iff.2 (hw.bks f hf)) hg
    have hmo : most (t.n f).size ((o : Int) + l.length) ≤ 80 := by unfold most; split <;> omega
    obtain ⟨x0, x1, G⟩ := grown_of ht hf hg
    have hsame : SameP t (pokesM u f o l) := fun j => by
      rw [pokes_n, G.eq, TR.n_set ht hf]
      split
      · rename_i e'; subst e'; exact ⟨rfl, rfl, rfl⟩
      · exact ⟨rfl, rfl, rfl⟩
    have hfw : findM (pokesM u f o l) p = ((f : Int), 0) := by rw [find_same hsame, hfd]
    have hkw : ((pokesM u f o l).n f).kind = 2 := by rw [(hsame f).2.2, hk]
    have hsw : ((pokesM u f o l).n f).size = most (t.n f).size ((o : Int) + l.length) := by rw [pokes_n]; exact hg'.2.2.1
    have hrw := read_all hcw hfw hkw (by rw [hsw]; exact hmo)
    have hlw : (bytesOf (pokesM u f o l) f).length = (most (t.n f).size ((o : Int) + l.length)).toNat := by rw [bytesOf_len, hsw]
    have hlt : (bytesOf t f).length = (t.n f).size.toNat := bytesOf_len
    refine ⟨hcw, by rw [hrw], ?_, ?_, fun i hi => ?_⟩
    · have := growM_used ht hf hg
      unfold usedN at this ⊢
      rw [pokes_nd]
      exact this
    · rw [hrw, hrt]
      dsimp only
      rw [hlw, hlt]
      unfold most
      split <;> split <;> omega
    · rw [hrw] at hi ⊢
      rw [hrt]
      dsimp only at hi ⊢
      rw [hlw] at hi
      rw [bytesOf_get (by rw [hsw]; exact hi), write_peek hw hf1 hf hk hg (by unfold most; split <;> omega) hmo (by unfold most; split <;> omega) (by omega), hlt]
      by_cases h1 : o ≤ i ∧ i < o + l.length
      · rw [if_pos h1, if_pos (by omega)]
      · have e1 : ¬ (o ≤ i ∧ i - o < l.length) := by omega
        rw [if_neg h1, if_neg e1]
        by_cases h2 : (i : Int) < (t.n f).size
        · rw [if_pos h2, if_pos (by omega), bytesOf_get (by omega)]
          rfl
        · rw [if_neg h2, if_neg (by omega)]
/-- an operation that fails gives the empty tree -/
theorem write_bad {t : TR} {p : Str} {a : Int} {l : Str} {qu : Int} (h : (writeM t p a l qu).2 ≠ 0) : (writeM t p a l qu).1 = TR.zero := by
  unfold writeM at h ⊢
  by_cases h1 : checkM t = false
  · rw [if_pos h1]
  rw [if_neg h1] at h ⊢
  by_cases h2 : (kindOfM t p 2).2 ≠ 0
  · rw [if_pos h2]
  rw [if_neg h2] at h ⊢
  by_cases h3 : a < 0
  · rw [if_pos h3]
  rw [if_neg h3] at h ⊢
  by_cases h4 : a > 80 - (l.length : Int)
  · rw [if_pos h4]
  rw [if_neg h4] at h ⊢
  by_cases h5 : l.length = 0
  · rw [if_pos h5] at h; exact absurd rfl h
  rw [if_neg h5] at h ⊢
  split
  · rfl
  · rename_i u hg
    rw [hg] at h
    exact absurd rfl h
end Go.Proofs.Ytlchnabnhimlcaa
set_option linter.unusedSimpArgs false
set_option linter.unusedVariables false
namespace Go.Proofs.Ytlchnabnhimlcaa
open Go Go.RowKit Go.Own
/-- does a path lie within another one's? -/
def underP (p d : Str) : Prop := d.length < p.length ∧ p.take d.length = d ∧ p[d.length]? = some 47
abbrev Match (t : TR) (d : Int) (nm : Str) (j : Nat) : Prop := (t.n j).kind ≠ 0 ∧ (t.n j).parent = d ∧ (t.n j).name = nm
theorem child_spec {t : TR} {d : Int} {nm : Str} {c : Nat} (h : childM t d nm = (c : Int)) : 1 ≤ c ∧ c < 8 ∧ Match t d nm c ∧ ∀ j, 1 ≤ j → j < c → ¬ Match t d nm j := by
  have key : ∀ (f i : Nat), childFrom t d nm f i = (c : Int) → i ≤ c ∧ c < i + f ∧ Match t d nm c ∧ ∀ j, i ≤ j → j < c → ¬ Match t d nm j := by
    intro f
    induction f with
    | zero => intro i h; rw [childFrom] at h; omega
    | succ f ih =>
      intro i h
      rw [childFrom] at h
      split at h
      · rename_i hm
        obtain rfl : i = c := by omega
        exact ⟨Nat.le_refl _, by omega, hm, fun j h1 h2 => by omega⟩
      · rename_i hm
        obtain ⟨a1, a2, a3, a4⟩ := ih (i + 1) h
        refine ⟨by omega, by omega, a3, fun j h1 h2 => ?_⟩
        by_cases e : j = i
        · subst e; exact hm
        · exact a4 j (by omega) h2
  obtain ⟨a1, a2, a3, a4⟩ := key 7 1 h
  exact ⟨a1, by omega, a3, a4⟩
end Go.Proofs.Ytlchnabnhimlcaa
set_option linter.unusedSimpArgs false
set_option linter.unusedVariables false
namespace Go.Proofs.Ytlchnabnhimlcaa
open Go Go.RowKit Go.Own
theorem find_walk {t : TR} {p : Str} {g : Nat} (hf : findM t p = ((g : Int), 0)) : isPathM p = true ∧ walkM t (namesM p) ((0 : Nat) : Int) = ((g : Int), 0) := by
  unfold findM at hf
  split at hf
  · rename_i h; exact ⟨h, hf⟩
  · cases hf
theorem blk_apart {t : TR} (h : WF t) {f g i j : Nat} (hf : f < 8) (hg : g < 8) (hi : i < 2) (hj : j < 2) (hne : g ≠ f) (h0 : (t.n g).blk j ≠ 0) : (t.n g).blk j ≠ (t.n f).blk i := by
  have hc : ∀ f j, j < 2 → (clAt t (2 * f + j)).1 = (t.n f).blk j := by
    intro f j hj
    rw [clAt_of, show (2 * f + j) / 2 = f by omega, show (2 * f + j) % 2 = j by omega]
    rfl
  have := h.bf.one (2 * g + j) (2 * f + i) (by omega) (by omega) (by omega) (by rw [hc g j hj]; exact h0)
  rw [hc g j hj, hc f i hi] at this
  exact this
section
variable {t : TR} (ht : t.Ok) {p q r : Str} (hr : (readM t p 0 80).2 = 0)
include ht hr
end
end Go.Proofs.Ytlchnabnhimlcaa
set_option linter.unusedSimpArgs false
set_option linter.unusedVariables false
namespace Go.Proofs.Ytlchnabnhimlcaa
open Go Go.RowKit Go.Own
/-- the path of a node; of the root nothing -/
def sp (t : TR) (i : Nat) : Str := pathFrom t 8 i []
/-- as the document has it -/
def full (t : TR) (i : Nat) : Str := if i = 0 then [47] else sp t i
theorem pathFrom_app {t : TR} : ∀ (f : Nat) (i : Int) (s : Str), pathFrom t f i s = pathFrom t f i [] ++ s
  | 0, i, s => rfl
  | f + 1, i, s => by
    rw [pathFrom, pathFrom]
    split
    · rfl
    · rw [pathFrom_app f _ (47 :: (t.n i.toNat).name ++ s), pathFrom_app f _ (47 :: (t.n i.toNat).name ++ []), List.append_assoc, List.append_nil]
theorem pathFrom_zero {t : TR} (s : Str) : ∀ f, pathFrom t f ((0 : Nat) : Int) s = s
  | 0 => rfl
  | f + 1 => by rw [pathFrom, if_pos (by rfl)]
theorem pathFrom_more {t : TR} (h : WF t) : ∀ (f j : Nat) (s : Str), j < 8 → it t f j = 0 → pathFrom t (f + 1) (j : Int) s = pathFrom t f (j : Int) s
  | 0, j, s, hj, hf => by
    have : j = 0 := hf
    subst this
    rw [pathFrom_zero, pathFrom_zero]
  | f + 1, j, s, hj, hf => by
    by_cases h0 : j = 0
    · subst h0; rw [pathFrom_zero, pathFrom_zero]
    · have hp := h.par j hj
      have e : (t.n j).parent = ((up t j : Nat) : Int) := by unfold up; omega
      rw [pathFrom, if_neg (by omega), Int.toNat_natCast, e, pathFrom_more h f (up t j) _ (h.up8 j hj) hf]
      conv => rhs; rw [pathFrom, if_neg (by omega), Int.toNat_natCast, e]
theorem WF.it7 {t : TR} (h : WF t) {j : Nat} (hj : j < 8) (hk : (t.n j).kind ≠ 0) : it t 7 j = 0 := by
  by_cases h0 : j = 0
  · subst h0; exact it_zero (up_root h.root) 7
  · obtain ⟨f, hf⟩ := ((h.nd j (by omega) hj).resolve_left (kind_nz hk)).rt
    exact reach (up_root h.root) h.up8 hj hf
theorem WF.up_alive {t : TR} (h : WF t) {j : Nat} (hj : j < 8) (h0 : j ≠ 0) (hk : (t.n j).kind ≠ 0) : (t.n (up t j)).kind = 1 := h.alive_up hj h0 (kind_nz hk)
theorem sp_zero {t : TR} : sp t 0 = [] := pathFrom_zero [] 8
theorem sp_step {t : TR} (h : WF t) {j : Nat} (hj : j < 8) (h0 : j ≠ 0) (hk : (t.n j).kind ≠ 0) : sp t j = sp t (up t j) ++ 47 :: (t.n j).name := by
  have hp := h.par j hj
  have e : (t.n j).parent = ((up t j : Nat) : Int) := by unfold up; omega
  have h7 : it t 7 (up t j) = 0 := h.it7 (h.up8 j hj) (by rw [h.up_alive hj h0 hk]; decide)
  unfold sp
  rw [pathFrom, if_neg (by omega), Int.toNat_natCast, e, pathFrom_app, pathFrom_more h 7 _ _ (h.up8 j hj) h7, List.append_nil]
/-- whoever is had comes of the root -/
theorem WF.ind {t : TR} (h : WF t) {P : Nat → Prop} (h0 : P 0) (hs : ∀ j, j < 8 → j ≠ 0 → (t.n j).kind ≠ 0 → P (up t j) → P j) {j : Nat} (hj : j < 8) (hk : (t.n j).kind ≠ 0) : P j := by
  have key : ∀ (f j : Nat), j < 8 → (t.n j).kind ≠ 0 → it t f j = 0 → P j := by
    intro f
    induction f with
    | zero =>
      intro j hj hk hf
      have : j = 0 := hf
      rw [this]; exact h0
    | succ f ih =>
      intro j hj hk hf
      by_cases hz : j = 0
      · rw [hz]; exact h0
      · exact hs j hj hz hk (ih _ (h.up8 j hj) (by rw [h.up_alive hj hz hk]; decide) hf)
  exact key 7 j hj hk (h.it7 hj hk)
theorem WF.name {t : TR} (h : WF t) {j : Nat} (hj : j < 8) (h0 : j ≠ 0) (hk : (t.n j).kind ≠ 0) : isNameM (t.n j).name = true := ((h.nd j (by omega) hj).resolve_left (kind_nz hk)).nm
theorem name_nosl {s : Str} (h : isNameM s = true) : NoSl s := by
  intro x hx e
  subst e
  unfold isNameM at h
  simp only [Bool.and_eq_true, List.all_eq_true] at h
  have := h.2 _ hx
  revert this
  decide
theorem cut_last : ∀ s : Str, NoSl s ∨ ∃ a b, NoSl b ∧ s = a ++ 47 :: b
  | [] => .inl (fun x hx => by cases hx)
  | c :: s => by
    rcases cut_last s with h | ⟨a, b, hb, rfl⟩
    · by_cases e : c = 47
      · exact .inr ⟨[], s, h, by rw [e]; rfl⟩
      · left
        intro x hx
        rcases List.mem_cons.1 hx with rfl | hx
        · exact e
        · exact h x hx
    · exact .inr ⟨c :: a, b, hb, rfl⟩
/-- the last slash says what is what -/
theorem last_split {a b x y : Str} (hx : NoSl x) (hy : NoSl y) (h : a ++ 47 :: x = b ++ 47 :: y) : a = b ∧ x = y := by
  have e : x = y := by
    rcases List.append_eq_append_iff.1 h with ⟨c, rfl, hc⟩ | ⟨c, rfl, hc⟩
    · cases c with
      | nil => cases hc; rfl
      | cons z c =>
        rw [List.cons_append] at hc
        injection hc with h1 h2
        exact absurd rfl (hx 47 (by rw [h2]; simp))
    · cases c with
      | nil => cases hc; rfl
      | cons z c =>
        rw [List.cons_append] at hc
        injection hc with h1 h2
        exact absurd rfl (hy 47 (by rw [h2]; simp))
  subst e
  exact ⟨List.append_cancel_right h, rfl⟩
theorem sp_inj {t : TR} (h : WF t) {i : Nat} (hi : i < 8) (hki : (t.n i).kind ≠ 0) : ∀ j, j < 8 → (t.n j).kind ≠ 0 → sp t i = sp t j → i = j := by
  refine h.ind (P := fun i => ∀ j, j < 8 → (t.n j).kind ≠ 0 → sp t i = sp t j → i = j) ?_ ?_ hi hki
  · intro j hj hk e
    apply Classical.byContradiction
    intro h0
    rw [sp_zero, sp_step h hj (fun e => h0 e.symm) hk] at e
    have := congrArg List.length e
    simp at this
  · intro i hi h0 hk ih j hj hkj e
    by_cases hj0 : j = 0
    · subst hj0
      rw [sp_zero, sp_step h hi h0 hk] at e
      have := congrArg List.length e
      simp at this
    · rw [sp_step h hi h0 hk, sp_step h hj hj0 hkj] at e
      obtain ⟨e1, e2⟩ := last_split (name_nosl (h.name hi h0 hk)) (name_nosl (h.name hj hj0 hkj)) e
      have e3 := ih _ (h.up8 j hj) (by rw [h.up_alive hj hj0 hkj]; decide) e1
      apply Classical.byContradiction
      intro hne
      refine h.un i j (by omega) hi (by omega) hj hne (kind_nz hk) (kind_nz hkj) ⟨?_, e2⟩
      have hp := h.par i hi
      have hp2 := h.par j hj
      unfold up at e3
      omega
/-- does a node's way up lead through another, behind itself? -/
def Below (t : TR) (a j : Nat) : Prop := ∃ f, 1 ≤ f ∧ it t f j = a
theorem below_step {t : TR} {a j : Nat} : Below t a j ↔ up t j = a ∨ Below t a (up t j) := by
  constructor
  · rintro ⟨f, h1, hf⟩
    obtain ⟨g, rfl⟩ : ∃ g, f = g + 1 := ⟨f - 1, by omega⟩
    by_cases hg : g = 0
    · subst hg; exact .inl hf
    · exact .inr ⟨g, by omega, hf⟩
  · rintro (h | ⟨f, h1, hf⟩)
    · exact ⟨1, Nat.le_refl _, h⟩
    · exact ⟨f + 1, by omega, hf⟩
theorem below_root {t : TR} (h : WF t) {a : Nat} (ha : a ≠ 0) : ¬ Below t a 0 := by
  rintro ⟨f, _, hf⟩
  rw [it_zero (up_root h.root)] at hf
  exact ha hf.symm
theorem below_iff {t : TR} (h : WF t) {a : Nat} (ha : a < 8) (ha0 : a ≠ 0) (hka : (t.n a).kind ≠ 0) {j : Nat} (hj : j < 8) (hkj : (t.n j).kind ≠ 0) : Below t a j ↔ ∃ r, sp t j = sp t a ++ 47 :: r := by
  refine h.ind (P := fun j => Below t a j ↔ ∃ r, sp t j = sp t a ++ 47 :: r) ?_ ?_ hj hkj
  · constructor
    · intro hb; exact absurd hb (below_root h ha0)
    · rintro ⟨r, hr⟩
      rw [sp_zero] at hr
      have := congrArg List.length hr
      simp at this
  · intro j hj h0 hk ih
    have hku : (t.n (up t j)).kind ≠ 0 := by rw [h.up_alive hj h0 hk]; decide
    rw [below_step, ih, sp_step h hj h0 hk]
    constructor
    · rintro (hu | ⟨r, hr⟩)
      · exact ⟨(t.n j).name, by rw [hu]⟩
      · exact ⟨r ++ 47 :: (t.n j).name, by rw [hr, List.append_assoc, List.cons_append]⟩
    · rintro ⟨r, hr⟩
      rcases cut_last r with hn | ⟨r1, r2, h2, rfl⟩
      · obtain ⟨e1, _⟩ := last_split (name_nosl (h.name hj h0 hk)) hn hr
        exact .inl (sp_inj h (h.up8 j hj) hku a ha hka e1)
      · rw [show sp t a ++ 47 :: (r1 ++ 47 :: r2) = (sp t a ++ 47 :: r1) ++ 47 :: r2 by simp] at hr
        obtain ⟨e1, _⟩ := last_split (name_nosl (h.name hj h0 hk)) h2 hr
        exact .inr ⟨r1, e1⟩
theorem under_iff {p d : Str} : underP p d ↔ ∃ r, p = d ++ 47 :: r := by
  constructor
  · rintro ⟨h1, h2, h3⟩
    refine ⟨p.drop (d.length + 1), ?_⟩
    conv => lhs; rw [← List.take_append_drop d.length p, h2]
    rw [List.drop_eq_getElem_cons h1]
    rw [List.getElem?_eq_getElem h1] at h3
    injection h3 with h3
    rw [h3]
  · rintro ⟨r, rfl⟩
    refine ⟨by simp, by simp, by simp⟩
theorem below_under {t : TR} (h : WF t) {a : Nat} (ha : a < 8) (ha0 : a ≠ 0) (hka : (t.n a).kind ≠ 0) {j : Nat} (hj : j < 8) (hkj : (t.n j).kind ≠ 0) : underP (full t j) (full t a) ↔ Below t a j := by
  rw [below_iff h ha ha0 hka hj hkj, under_iff]
  unfold full
  rw [if_neg ha0]
  by_cases h0 : j = 0
  · subst h0
    rw [if_pos rfl, sp_zero]
    have : sp t a ≠ [] := by rw [sp_step h ha ha0 hka]; simp
    constructor
    · rintro ⟨r, hr⟩
      have hl := congrArg List.length hr
      have h1 : (sp t a).length ≠ 0 := fun e => this (List.eq_nil_of_length_eq_zero e)
      simp at hl
      omega
    · rintro ⟨r, hr⟩
      have hl := congrArg List.length hr
      simp at hl
  · rw [if_neg h0]
end Go.Proofs.Ytlchnabnhimlcaa
set_option linter.unusedSimpArgs false
set_option linter.unusedVariables false
namespace Go.Proofs.Ytlchnabnhimlcaa
open Go Go.RowKit Go.Own
theorem walk_sp {t : TR} (h : WF t) : ∀ (n : Nat) (l : List Str) (g : Nat), l.length ≤ n → walkM t l ((0 : Nat) : Int) = ((g : Int), 0) → sp t g = l.flatMap fun x => 47 :: x := by
  intro n
  induction n with
  | zero =>
    intro l g hl hw
    rw [List.eq_nil_of_length_eq_zero (by omega : l.length = 0)] at hw ⊢
    rw [walkM] at hw
    have : g = 0 := by have := (Prod.mk.inj hw).1; omega
    rw [this, sp_zero]; rfl
  | succ n ih =>
    intro l g hl hw
    rcases List.eq_nil_or_concat l with rfl | ⟨l0, nm, rfl⟩
    · rw [walkM] at hw
      have : g = 0 := by have := (Prod.mk.inj hw).1; omega
      rw [this, sp_zero]; rfl
    · rw [List.concat_eq_append] at hw hl ⊢
      obtain ⟨d, hd, hw0, _, hc⟩ := walk_snoc (by omega) hw
      obtain ⟨c1, c8, ⟨m1, m2, m3⟩, _⟩ := child_spec hc
      have hu : up t g = d := by unfold up; omega
      rw [sp_step h c8 (by omega) m1, hu, m3, ih l0 d (by simp at hl; omega) hw0, List.flatMap_append]
      simp
theorem parts_flat : ∀ (n : Nat) (s : Str), s.length ≤ n → ((parts s).flatMap fun x => 47 :: x) = 47 :: s := by
  intro n
  induction n with
  | zero =>
    intro s hs
    rw [List.eq_nil_of_length_eq_zero (by omega : s.length = 0), parts_no NoSl.nil]
    rfl
  | succ n ih =>
    intro s hs
    rcases cut_cases s with h | ⟨a, r, ha, rfl⟩
    · rw [parts_no h]; simp
    · rw [parts_app ha, List.flatMap_cons, ih r (by simp at hs; omega), List.cons_append]
theorem inner_flat {p : Str} (h : isInnerM p = true) : p = (namesM p).flatMap fun x => 47 :: x := by
  obtain ⟨r, rfl, _, _, e, _⟩ := inner_names h
  rw [e, parts_flat r.length r (Nat.le_refl _)]
theorem inner_of {p : Str} (h : isPathM p = true) (hp : p ≠ [47]) : isInnerM p = true := by
  unfold isInnerM
  rw [h, Bool.and_true, decide_eq_true_eq]
  exact hp
theorem find_full {t : TR} (h : WF t) {p : Str} {g : Nat} (hf : findM t p = ((g : Int), 0)) : full t g = p := by
  obtain ⟨hp, hw⟩ := find_walk hf
  by_cases e : p = [47]
  · subst e
    rw [show namesM [47] = [] from rfl, walkM] at hw
    have : g = 0 := by have := (Prod.mk.inj hw).1; omega
    rw [this]; rfl
  · have hin := inner_of hp e
    have hs := walk_sp h _ _ g (Nat.le_refl _) hw
    rw [← inner_flat hin] at hs
    unfold full
    split
    · rename_i h0
      subst h0
      rw [sp_zero] at hs
      rw [← hs] at hp
      exact absurd hp (by decide)
    · exact hs
theorem find_lt {t : TR} (h : WF t) {p : Str} {g : Nat} (hf : findM t p = ((g : Int), 0)) : g < 8 ∧ (t.n g).kind ≠ 0 := by
  obtain ⟨hp, hw⟩ := find_walk hf
  rcases List.eq_nil_or_concat (namesM p) with e | ⟨l0, nm, e⟩
  · rw [e, walkM] at hw
    have : g = 0 := by have := (Prod.mk.inj hw).1; omega
    subst this
    exact ⟨by omega, by rw [h.root]; decide⟩
  · rw [e, List.concat_eq_append] at hw
    obtain ⟨d, hd, hw0, _, hc⟩ := walk_snoc (by omega) hw
    obtain ⟨c1, c8, ⟨m1, m2, m3⟩, _⟩ := child_spec hc
    exact ⟨c8, m1⟩
theorem inner_join {t : TR} (h : WF t) {p : Str} {d : Nat} (hin : isInnerM p = true) (hf : findM t (splitM p).1 = ((d : Int), 0)) : sp t d ++ 47 :: (splitM p).2 = p := by
  obtain ⟨h1, _, _⟩ := split_names hin
  obtain ⟨_, hw⟩ := find_walk hf
  rw [walk_sp h _ _ d (Nat.le_refl _) hw]
  conv => rhs; rw [inner_flat hin, h1, List.flatMap_append]
  simp
theorem sp_ne {t : TR} (h : WF t) {j : Nat} (hj : j < 8) (h0 : j ≠ 0) (hk : (t.n j).kind ≠ 0) : sp t j ≠ [47] := by
  rw [sp_step h hj h0 hk]
  intro e
  have h1 := (isName_ne (h.name hj h0 hk)).1
  have h2 := congrArg List.length e
  simp only [List.length_append, List.length_cons, List.length_nil] at h2
  exact h1 (List.eq_nil_of_length_eq_zero (by omega))
theorem full_inj {t : TR} (h : WF t) {i j : Nat} (hi : i < 8) (hki : (t.n i).kind ≠ 0) (hj : j < 8) (hkj : (t.n j).kind ≠ 0) (e : full t i = full t j) : i = j := by
  unfold full at e
  by_cases h0 : i = 0
  · by_cases h1 : j = 0
    · omega
    · rw [if_pos h0, if_neg h1] at e
      exact absurd e.symm (sp_ne h hj h1 hkj)
  · by_cases h1 : j = 0
    · rw [if_neg h0, if_pos h1] at e
      exact absurd e (sp_ne h hi h0 hki)
    · rw [if_neg h0, if_neg h1] at e
      exact sp_inj h hi hki j hj hkj e
/-- the first node that has a path -/
def atTFrom (t : TR) (p : Str) : Nat → Nat → Int
  | 0, _ => -1
  | f + 1, i => if (t.n i).kind ≠ 0 ∧ full t i = p then (i : Int) else atTFrom t p f (i + 1)
def atT (t : TR) (p : Str) : Int := atTFrom t p 8 0
theorem atT_of {t : TR} (h : WF t) {p : Str} {c : Nat} (hc : c < 8) (hk : (t.n c).kind ≠ 0) (hp : full t c = p) : atT t p = c := by
  have key : ∀ f i : Nat, i ≤ c → c < i + f → i + f ≤ 8 → atTFrom t p f i = c := by
    intro f
    induction f with
    | zero => intro i h1 h2; omega
    | succ f ih =>
      intro i h1 h2 h3
      rw [atTFrom]
      by_cases e : i = c
      · rw [if_pos (by rw [e]; exact ⟨hk, hp⟩), e]
      · rw [if_neg (fun hh => e (full_inj h (by omega) hh.1 hc hk (by rw [hh.2, hp])))]
        exact ih (i + 1) (by omega) (by omega) (by omega)
  exact key 8 0 (by omega) (by omega) (by omega)
theorem atT_none {t : TR} {p : Str} (hn : ∀ c, c < 8 → (t.n c).kind ≠ 0 → full t c ≠ p) : atT t p = -1 := by
  have key : ∀ f i : Nat, i + f ≤ 8 → atTFrom t p f i = -1 := by
    intro f
    induction f with
    | zero => intro i _; rfl
    | succ f ih =>
      intro i h3
      rw [atTFrom, if_neg (fun hh => hn i (by omega) hh.1 hh.2)]
      exact ih (i + 1) (by omega)
  exact key 8 0 (by omega)
theorem childFrom_cases {t : TR} {d : Int} {nm : Str} : ∀ f i : Nat, childFrom t d nm f i = -1 ∨ ∃ c : Nat, childFrom t d nm f i = c
  | 0, i => .inl rfl
  | f + 1, i => by
    rw [childFrom]
    split
    · exact .inr ⟨i, rfl⟩
    · exact childFrom_cases f (i + 1)
theorem childM_cases (t : TR) (d : Int) (nm : Str) : childM t d nm = -1 ∨ ∃ c : Nat, childM t d nm = c := childFrom_cases 7 1
theorem at_child {t : TR} (h : WF t) {p : Str} {d : Nat} (hin : isInnerM p = true) (hf : findM t (splitM p).1 = ((d : Int), 0)) : atT t p = childM t (d : Int) (splitM p).2 := by
  have hj := inner_join h hin hf
  obtain ⟨_, hnm, _⟩ := split_names hin
  obtain ⟨hd, hkd⟩ := find_lt h hf
  have hp47 : p ≠ [47] := by
    intro e
    subst e
    exact absurd hin (by decide)
  rcases childM_cases t (d : Int) (splitM p).2 with hc | ⟨c, hc⟩
  · rw [hc]
    refine atT_none (fun c h8 hk e => ?_)
    have c0 : c ≠ 0 := by
      intro e0
      rw [e0] at e
      exact hp47 e.symm
    unfold full at e
    rw [if_neg c0, sp_step h h8 c0 hk, ← hj] at e
    obtain ⟨e1, e2⟩ := last_split (name_nosl (h.name h8 c0 hk)) (name_nosl hnm) e
    have e3 := sp_inj h (h.up8 c h8) (by rw [h.up_alive h8 c0 hk]; decide) d hd hkd e1
    have hpar := h.par c h8
    refine childM_none (t := t) (d := (d : Int)) (nm := (splitM p).2) (by omega) c (by omega) h8 ⟨hk, ?_, e2⟩
    unfold up at e3
    omega
  · rw [hc]
    obtain ⟨c1, c8, ⟨m1, m2, m3⟩, _⟩ := child_spec hc
    refine atT_of h c8 m1 ?_
    have hu : up t c = d := by unfold up; omega
    unfold full
    rw [if_neg (by omega), sp_step h c8 (by omega) m1, hu, m3, hj]
theorem sp_same {t t' : TR} (h : WF t) (h' : WF t') (hs : ∀ j, j < 8 → j ≠ 0 → (t.n j).kind ≠ 0 → (t'.n j).kind ≠ 0 ∧ (t'.n j).parent = (t.n j).parent ∧ (t'.n j).name = (t.n j).name) {j : Nat} (hj : j < 8) (hk : (t.n j).kind ≠ 0) : sp t' j = sp t j := by
  refine h.ind (P := fun j => sp t' j = sp t j) (by rw [sp_zero, sp_zero]) (fun j hj h0 hk ih => ?_) hj hk
  obtain ⟨a, b, c⟩ := hs j hj h0 hk
  have hu : up t' j = up t j := by unfold up; rw [b]
  rw [sp_step h' hj h0 a, sp_step h hj h0 hk, hu, ih, c]
/-- a move's paths -/
theorem sp_move {t t' : TR} (h : WF t) (h' : WF t') {a d : Nat} {nm : Str} (ha : a < 8) (ha0 : a ≠ 0) (hka : (t.n a).kind ≠ 0) (hd : d < 8) (hkd : (t.n d).kind ≠ 0) (hda : d ≠ a) (hbd : ¬ Below t a d)
    (hn : ∀ j, t'.n j = if a = j then { t.n a with parent := (d : Int), name := nm } else t.n j) {j : Nat} (hj : j < 8) (hk : (t.n j).kind ≠ 0) :
    (Below t a j → sp t' j = sp t d ++ 47 :: nm ++ (sp t j).drop (sp t a).length) ∧ (¬ Below t a j → sp t' j = if j = a then sp t d ++ 47 :: nm else sp t j) := by
  have hk' : ∀ j, (t'.n j).kind = (t.n j).kind := fun j => by
    rw [hn]; split
    · rename_i e; rw [← e]
    · rfl
  have hua : up t' a = d := by unfold up; rw [hn, if_pos rfl]; exact Int.toNat_natCast d
  have huo : ∀ j, j ≠ a → up t' j = up t j ∧ (t'.n j).name = (t.n j).name := fun j e => by unfold up; rw [hn, if_neg (fun e' => e e'.symm)]; exact ⟨rfl, rfl⟩
  have hsame : ∀ j, j < 8 → (t.n j).kind ≠ 0 → (j ≠ a → ¬ Below t a j → sp t' j = sp t j) := by
    intro j hj hk
    refine h.ind (P := fun j => j ≠ a → ¬ Below t a j → sp t' j = sp t j) (fun _ _ => by rw [sp_zero, sp_zero]) (fun j hj h0 hk ih hja hb => ?_) hj hk
    rw [below_step] at hb
    obtain ⟨e1, e2⟩ := huo j hja
    rw [sp_step h' hj h0 (by rw [hk']; exact hk), sp_step h hj h0 hk, e1, e2, ih (fun e => hb (.inl e)) (fun e => hb (.inr e))]
  have hspa : sp t' a = sp t d ++ 47 :: nm := by
    rw [sp_step h' ha ha0 (by rw [hk']; exact hka), hua, hsame d hd hkd hda hbd, hn, if_pos rfl]
  refine ⟨?_, fun hb => ?_⟩
  · refine h.ind (P := fun j => Below t a j → sp t' j = sp t d ++ 47 :: nm ++ (sp t j).drop (sp t a).length) (fun hb => absurd hb (below_root h ha0)) (fun j hj h0 hk ih hb => ?_) hj hk
    have hja : j ≠ a := by
      intro e
      subst e
      obtain ⟨r, hr⟩ := (below_iff h hj h0 hk hj hk).1 hb
      have := congrArg List.length hr
      simp at this
    obtain ⟨e1, e2⟩ := huo j hja
    rw [sp_step h' hj h0 (by rw [hk']; exact hk), sp_step h hj h0 hk, e1, e2]
    rw [below_step] at hb
    have hku : (t.n (up t j)).kind ≠ 0 := by rw [h.up_alive hj h0 hk]; decide
    by_cases hbu : Below t a (up t j)
    · rw [ih hbu]
      obtain ⟨r, hr⟩ := (below_iff h ha ha0 hka (h.up8 j hj) hku).1 hbu
      rw [hr]
      simp
    · have e3 := hb.resolve_right hbu
      rw [e3, hspa]
      simp
  · by_cases hja : j = a
    · rw [if_pos hja, hja, hspa]
    · rw [if_neg hja, hsame j hj hk hja hb]
/-- underFrom, without fuel -/
theorem under_from {t : TR} (h : WF t) {a : Nat} (ha0 : a ≠ 0) : ∀ (f i : Nat), i < 8 → it t f i = 0 → (underFrom t (a : Int) f (i : Int) = true ↔ i = a ∨ Below t a i)
  | 0, i, hi, hf => by
    have : i = 0 := hf
    subst this
    rw [underFrom]
    refine ⟨fun h => (by cases h), fun hh => ?_⟩
    rcases hh with hh | hh
    · exact absurd hh.symm ha0
    · exact absurd hh (below_root h ha0)
  | f + 1, i, hi, hf => by
    rw [underFrom]
    by_cases h0 : i = 0
    · subst h0
      rw [if_pos (by rfl)]
      refine ⟨fun h => (by cases h), fun hh => ?_⟩
      rcases hh with hh | hh
      · exact absurd hh.symm ha0
      · exact absurd hh (below_root h ha0)
    · rw [if_neg (by omega)]
      by_cases hia : i = a
      · rw [if_pos (by omega)]
        exact ⟨fun _ => .inl hia, fun _ => rfl⟩
      · have hp := h.par i hi
        have e : (t.n i).parent = ((up t i : Nat) : Int) := by unfold up; omega
        rw [if_neg (by omega), Int.toNat_natCast, e, under_from h ha0 f (up t i) (h.up8 i hi) hf, below_step (j := i)]
        exact ⟨fun hh => .inr hh, fun hh => hh.resolve_left hia⟩
theorem under_8 {t : TR} (h : WF t) {a d : Nat} (ha0 : a ≠ 0) (hd : d < 8) (hk : (t.n d).kind ≠ 0) : underFrom t (a : Int) 8 (d : Int) = true ↔ d = a ∨ Below t a d := under_from h ha0 8 d hd (it_more (up_root h.root) (h.it7 hd hk) (by omega))
theorem held_iff {t : TR} {a : Int} : ∀ {f i : Nat}, heldFrom t a f i = true ↔ ∃ j, i ≤ j ∧ j < i + f ∧ (t.n j).kind ≠ 0 ∧ (t.n j).parent = a
  | 0, i => by rw [heldFrom]; exact ⟨fun h => (by cases h), fun ⟨j, h1, h2, _⟩ => (by omega)⟩
  | f + 1, i => by
    rw [heldFrom]
    by_cases hm : (t.n i).kind ≠ 0 ∧ (t.n i).parent = a
    · rw [if_pos hm]
      exact ⟨fun _ => ⟨i, Nat.le_refl _, by omega, hm⟩, fun _ => rfl⟩
    · rw [if_neg hm, held_iff]
      refine ⟨fun ⟨j, h1, h2, h3⟩ => ⟨j, by omega, by omega, h3⟩, fun ⟨j, h1, h2, h3⟩ => ⟨j, ?_, by omega, h3⟩⟩
      rcases Nat.lt_or_ge i j with hl | hl
      · omega
      · have : j = i := by omega
        subst this
        exact absurd h3 hm
theorem held_below {t : TR} (h : WF t) {a : Nat} (ha : a < 8) (ha0 : a ≠ 0) : heldFrom t (a : Int) 7 1 = true ↔ ∃ j, j < 8 ∧ (t.n j).kind ≠ 0 ∧ Below t a j := by
  rw [held_iff]
  constructor
  · rintro ⟨j, h1, h2, h3, h4⟩
    exact ⟨j, by omega, h3, below_step.2 (.inl (by unfold up; omega))⟩
  · rintro ⟨j, h1, h2, h3⟩
    have hz : (t.n 0).kind ≠ 0 := by rw [h.root]; decide
    revert h3
    refine h.ind (P := fun j => Below t a j → ∃ j, 1 ≤ j ∧ j < 1 + 7 ∧ (t.n j).kind ≠ 0 ∧ (t.n j).parent = (a : Int)) (fun hb => absurd hb (below_root h ha0)) (fun j hj h0 hk ih hb => ?_) h1 h2
    rw [below_step] at hb
    rcases hb with hb | hb
    · refine ⟨j, by omega, by omega, hk, ?_⟩
      have := h.par j hj
      unfold up at hb
      omega
    · exact ih hb
end Go.Proofs.Ytlchnabnhimlcaa
set_option linter.unusedSimpArgs false
set_option linter.unusedVariables false
namespace Go.Proofs.Ytlchnabnhimlcaa
open Go Go.RowKit Go.Own
/-- a path without its last name, and that -/
def aboveM (s : Str) (i : Nat) : Str × Str := if i = 0 then ([47], s.drop 1) else (s.take i, s.drop (i + 1))
section
variable {n : Nat} {ops : Array Oper} {Q : Post} {rest : List Oper} {e : Env} {w : World} {s : Ro} {rs R : List Asn} {tt : Nat} {pp : String} {af : Array Edge} {g : Option (Nat × Bool)} {d : Nat}
variable {p : Str}
def alph : Str := [97, 98, 99, 100, 101, 102, 103, 104, 105, 106, 107, 108, 109, 110, 111, 112, 113, 114, 115, 116, 117, 118, 119, 120, 121, 122, 48, 49, 50, 51, 52, 53, 54, 55, 56, 57, 46, 95]
end
end Go.Proofs.Ytlchnabnhimlcaa
set_option linter.unusedSimpArgs false
set_option linter.unusedVariables false
namespace Go.Proofs.Ytlchnabnhimlcaa
open Go Go.RowKit Go.Own
theorem above_fst_lt {p : Str} {i : Nat} (hi : i < p.length) (h2 : 2 ≤ p.length) : (aboveM p i).1.length < p.length := by
  unfold aboveM
  split
  · show 1 < _; omega
  · simp only [List.length_take]; omega
theorem above_snd_le {p : Str} {i : Nat} : (aboveM p i).2.length ≤ p.length := by
  unfold aboveM
  split <;> simp
section
variable {n : Nat} {ops : Array Oper} {Q : Post} {rest : List Oper} {e : Env} {w : World} {s : Ro} {rs R : List Asn} {tt : Nat} {pp : String} {af : Array Edge} {g : Option (Nat × Bool)} {d : Nat}
end
end Go.Proofs.Ytlchnabnhimlcaa
set_option linter.unusedSimpArgs false
set_option linter.unusedVariables false
namespace Go.Proofs.Ytlchnabnhimlcaa
open Go Go.RowKit Go.Own
structure RN where
  kind : Int
  path : Str
  data : Str
  sa : Option Addr
  nb : Nat
  sc : Nat
def RN.zero : RN := ⟨0, [], [], none, 0, 0⟩
def RN.cells (x : RN) : List Value := [.int .i64 x.kind, .string ⟨x.path.toArray⟩, .string ⟨x.data.toArray⟩, .slice x.sa x.nb x.sc]
def rcells (m : List RN) : List Value := m.flatMap RN.cells
def rn (m : List RN) (i : Nat) : RN := m[i]?.getD RN.zero
theorem rcells_len {m : List RN} (h : m.length = 8) : (rcells m).length = 32 := by
  unfold rcells
  rw [flatS_len m (sz := 4) (fun x _ => rfl), h]
theorem rn_get {m : List RN} (h : m.length = 8) {i : Nat} (hi : i < 8) : rn m i = m[i]'(by omega) := by
  unfold rn
  rw [List.getElem?_eq_getElem (by omega)]
  rfl
theorem rcell {m : List RN} (h : m.length = 8) {i : Nat} (hi : i < 8) (k : Nat) (v : Value) (hv : (rn m i).cells[k]? = some v) : (rcells m)[0 + i * 4 + k]? = some v := by
  have hk : k < 4 := (List.getElem?_eq_some_iff.1 hv).1
  rw [Nat.zero_add, rcells, flat_get m (sz := 4) (fun x _ => rfl) i k (by omega) hk, ← rn_get h hi]
  exact hv
def atFrom (m : List RN) (p : Str) : Nat → Nat → Int
  | 0, _ => -1
  | f + 1, i => if (rn m i).kind ≠ 0 ∧ (rn m i).path = p then (i : Int) else atFrom m p f (i + 1)
def atM (m : List RN) (p : Str) : Int := atFrom m p 8 0
section
variable {n : Nat} {ops : Array Oper} {Q : Post} {rest : List Oper} {e : Env} {w : World} {s : Ro} {rs R : List Asn} {tt : Nat} {pp : String} {af : Array Edge} {g : Option (Nat × Bool)} {d : Nat}
variable {p : Str} {m : List RN}
set_option maxRecDepth 100000 in
set_option maxHeartbeats 1000000 in
theorem at_w (H : Holds s w R) (hm : m.length = 8) : Calls Try.prog 56 #[.agg (rcells m).toArray, .string ⟨p.toArray⟩] w fun e w' => e = .returned (.int .i64 (atM m p)) ∧ Holds s w' R := by
  refine enter Try.func56 rfl Try.ntmps56 rfl ?_
  repeat' (first | (refine X.lenL ?_) | (refine X.lv H ?_) | (refine X.lw H ?_) | (refine X.lp H ?_) | (refine X.eqL ?_ ?_ <;> intro hc <;> first | (exfalso; first | exact absurd hc (by assumption) | exact absurd (by assumption) hc) | skip) | refine Z H ?_ | (refine Zc ?_ ?_ <;> intro hc <;> first | (exfalso; omega) | skip) | (refine Y ?_; try change C _ _ _ _ _ _) | (refine Zs H ?_; clear H; (try clear w); intro w H) | (refine Zn H ?_; clear H; (try clear w); intro _ w H) | (refine Ze H ?_; clear H; (try clear w); intro gv w H))
  refine C.loopH H [4, 5, 6, 7, 8, 9, 10, 11, 12, 13, 14, 15, 16, 17, 18, 19, 20, 21, 22, 23] [5] rfl (fun f vs => ∃ i : Nat, f = 8 - i ∧ i ≤ 8 ∧ vs = [.int .i64 (i : Int)] ∧ atFrom m p (8 - i) i = atM m p) 8 ⟨0, rfl, by omega, rfl, rfl⟩ ?_
  clear H
  rintro f vs hv w ⟨i, rfl, hi, rfl, hr⟩ H
  by_cases hlt : i < 8
  rotate_left
  · obtain rfl : i = 8 := by omega
    repeat' (first | (refine X.lenL ?_) | (refine X.lv H ?_) | (refine X.lw H ?_) | (refine X.lp H ?_) | (refine X.eqL ?_ ?_ <;> intro hc <;> first | (exfalso; first | exact absurd hc (by assumption) | exact absurd (by assumption) hc) | skip) | refine Z H ?_ | (refine Zc ?_ ?_ <;> intro hc <;> first | (exfalso; omega) | skip) | (refine Y ?_; try change C _ _ _ _ _ _) | (refine Zs H ?_; clear H; (try clear w); intro w H) | (refine Zn H ?_; clear H; (try clear w); intro _ w H) | (refine Ze H ?_; clear H; (try clear w); intro gv w H))
    exact ⟨_, resT rfl, by rw [← hr]; rfl, H.tail⟩
  rw [show 8 - i = (7 - i) + 1 by omega, atFrom] at hr
  have c0 := rcell hm hlt 0 _ rfl
  have c1 := rcell hm hlt 1 _ rfl
  by_cases h1 : (rn m i).kind ≠ 0
  · by_cases h2 : (rn m i).path = p
    · rw [if_pos ⟨h1, h2⟩] at hr
      repeat' (first | (refine K.iaA (i := i) rfl rfl rfl rfl rfl hlt ?_) | (refine X.lenL ?_) | (refine X.lv H ?_) | (refine X.lw H ?_) | (refine X.lp H ?_) | (refine X.eqL ?_ ?_ <;> intro hc <;> first | (exfalso; first | exact absurd hc (by assumption) | exact absurd (by assumption) hc) | skip) | refine Z H ?_ | (refine Zc ?_ ?_ <;> intro hc <;> first | (exfalso; omega) | skip) | (refine Y ?_; try change C _ _ _ _ _ _) | (refine Zs H ?_; clear H; (try clear w); intro w H) | (refine Zn H ?_; clear H; (try clear w); intro _ w H) | (refine Ze H ?_; clear H; (try clear w); intro gv w H))
      exact ⟨_, resT rfl, by rw [← hr]; rfl, H.tail⟩
    · rw [if_neg (fun h => h2 h.2)] at hr
      repeat' (first | (refine K.iaA (i := i) rfl rfl rfl rfl rfl hlt ?_) | (refine X.lenL ?_) | (refine X.lv H ?_) | (refine X.lw H ?_) | (refine X.lp H ?_) | (refine X.eqL ?_ ?_ <;> intro hc <;> first | (exfalso; first | exact absurd hc (by assumption) | exact absurd (by assumption) hc) | skip) | refine Z H ?_ | (refine Zc ?_ ?_ <;> intro hc <;> first | (exfalso; omega) | skip) | (refine Y ?_; try change C _ _ _ _ _ _) | (refine Zs H ?_; clear H; (try clear w); intro w H) | (refine Zn H ?_; clear H; (try clear w); intro _ w H) | (refine Ze H ?_; clear H; (try clear w); intro gv w H))
      exact ⟨by (repeat (first | exact Agr.refl | exact Agr.hav | refine Agr.upd rfl ?_ | refine Agr.in rfl ?_)), 8 - (i + 1), by omega, ⟨i + 1, rfl, by omega, rfl, by rw [← hr]; congr 1; omega⟩, H⟩
  · rw [if_neg (fun h => h1 h.1)] at hr
    have h1' : (rn m i).kind = 0 := by omega
    repeat' (first | (refine K.iaA (i := i) rfl rfl rfl rfl rfl hlt ?_) | (refine X.lenL ?_) | (refine X.lv H ?_) | (refine X.lw H ?_) | (refine X.lp H ?_) | (refine X.eqL ?_ ?_ <;> intro hc <;> first | (exfalso; first | exact absurd hc (by assumption) | exact absurd (by assumption) hc) | skip) | refine Z H ?_ | (refine Zc ?_ ?_ <;> intro hc <;> first | (exfalso; omega) | skip) | (refine Y ?_; try change C _ _ _ _ _ _) | (refine Zs H ?_; clear H; (try clear w); intro w H) | (refine Zn H ?_; clear H; (try clear w); intro _ w H) | (refine Ze H ?_; clear H; (try clear w); intro gv w H))
    exact ⟨by (repeat (first | exact Agr.refl | exact Agr.hav | refine Agr.upd rfl ?_ | refine Agr.in rfl ?_)), 8 - (i + 1), by omega, ⟨i + 1, rfl, by omega, rfl, by rw [← hr]; congr 1; omega⟩, H⟩
end
end Go.Proofs.Ytlchnabnhimlcaa

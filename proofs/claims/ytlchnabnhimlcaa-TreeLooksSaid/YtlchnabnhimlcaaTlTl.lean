/- Trees, plain: blocks that fit, said without marks. Trees, plain: well formed, said without fuel. Trees, plain: Make, Move, Remove, Cut keep a tree well formed. Trees, plain: Cut and Remove keep a tree well formed. -/
import Derived.Test.YtlchnabnhimlcaaTlTx3
set_option linter.unusedSimpArgs false
set_option linter.unusedVariables false
namespace Go.Proofs.Ytlchnabnhimlcaa
open Go Go.RowKit Go.Own
/-- the p-th of the 16 places where a block's number stands: the number, how many bytes it has -/
def clAt (t : TR) (p : Nat) : Int × Int := if p % 2 = 0 then ((t.n (p / 2)).b0, least (t.n (p / 2)).size 40) else ((t.n (p / 2)).b1, least ((t.n (p / 2)).size - 40) 40)
abbrev Marks := List (Option Int)
def markL : List (Int × Int) → Marks → Option Marks
  | [], m => some m
  | c :: r, m => (mark m c.1 c.2).bind (markL r)
theorem markL_app : ∀ {a b : List (Int × Int)} {m : Marks}, markL (a ++ b) m = (markL a m).bind (markL b)
  | [], b, m => rfl
  | c :: a, b, m => by
    rw [List.cons_append, markL, markL]
    cases mark m c.1 c.2 with
    | none => rfl
    | some m' => exact markL_app
theorem marks_eq {t : TR} {i : Nat} {m : Marks} : marks (t.n i) m = markL [clAt t (2 * i), clAt t (2 * i + 1)] m := by
  have e1 : clAt t (2 * i) = ((t.n i).b0, least (t.n i).size 40) := by
    unfold clAt; rw [if_pos (by omega), show 2 * i / 2 = i by omega]
  have e2 : clAt t (2 * i + 1) = ((t.n i).b1, least ((t.n i).size - 40) 40) := by
    unfold clAt; rw [if_neg (by omega), show (2 * i + 1) / 2 = i by omega]
  rw [e1, e2, marks, markL]
  cases mark m (t.n i).b0 (least (t.n i).size 40) with
  | none => rfl
  | some m' =>
    show mark m' _ _ = markL [_] m'
    rw [markL]
    cases mark m' (t.n i).b1 (least ((t.n i).size - 40) 40) <;> rfl
theorem markFrom_eq {t : TR} : ∀ (f i : Nat) (m : Marks), markFrom t f i m = markL ((List.range' (2 * i) (2 * f)).map (clAt t)) m
  | 0, i, m => rfl
  | f + 1, i, m => by
    rw [markFrom, marks_eq, show 2 * (f + 1) = 2 * f + 1 + 1 by omega, List.range'_succ, List.range'_succ, List.map_cons, List.map_cons]
    rw [show clAt t (2 * i) :: clAt t (2 * i + 1) :: (List.range' (2 * i + 1 + 1) (2 * f)).map (clAt t) = [clAt t (2 * i), clAt t (2 * i + 1)] ++ (List.range' (2 * i + 1 + 1) (2 * f)).map (clAt t) from rfl, markL_app]
    congr 1
    funext m'
    rw [markFrom_eq f (i + 1) m', show 2 * (i + 1) = 2 * i + 1 + 1 by omega]
def got (m : Marks) (k : Nat) : Option Int := m[k]?.getD none
theorem got_set {m : Marks} {k j : Nat} {v : Int} (hj : j < m.length) : got (m.set j (some v)) k = if j = k then some v else got m k := by
  unfold got
  by_cases e : j = k
  · subst e; rw [if_pos rfl, List.getElem?_set_self hj]; rfl
  · rw [if_neg e, List.getElem?_set_ne e]
abbrev Bd (c : Int × Int) : Prop := 0 ≤ c.1 ∧ c.1 ≤ 8
/-- what marks say behind a list of places -/
theorem markL_some : ∀ {l : List (Int × Int)} {m m' : Marks}, (∀ c ∈ l, Bd c) → m.length = 8 → markL l m = some m' →
    m'.length = 8 ∧ l.Pairwise (fun a b => a.1 ≠ 0 → a.1 ≠ b.1) ∧ (∀ c ∈ l, c.1 ≠ 0 → got m (c.1 - 1).toNat = none) ∧ (∀ c ∈ l, c.1 ≠ 0 → got m' (c.1 - 1).toNat = some c.2) ∧ (∀ k : Nat, (∀ c ∈ l, c.1 ≠ (k : Int) + 1) → got m' k = got m k)
  | [], m, m', _, hm, h => by
    cases h
    exact ⟨hm, List.Pairwise.nil, by simp, by simp, fun _ _ => rfl⟩
  | c :: l, m, m', hb, hm, h => by
    rw [markL] at h
    have hc := hb c (by simp)
    have hbl : ∀ c ∈ l, Bd c := fun x hx => hb x (by simp [hx])
    unfold mark at h
    split at h
    · rename_i h0
      rw [Option.bind_some] at h
      obtain ⟨a1, a2, a3, a4, a5⟩ := markL_some hbl hm h
      refine ⟨a1, List.Pairwise.cons (fun b _ hn => absurd h0 hn) a2, ?_, ?_, ?_⟩
      · intro x hx hn
        rcases List.mem_cons.1 hx with rfl | hx
        · exact absurd h0 hn
        · exact a3 x hx hn
      · intro x hx hn
        rcases List.mem_cons.1 hx with rfl | hx
        · exact absurd h0 hn
        · exact a4 x hx hn
      · intro k hk
        exact a5 k (fun x hx => hk x (by simp [hx]))
    · rename_i h0
      split at h
      · cases h
      · rename_i hs
        rw [Option.bind_some] at h
        have hlt : (c.1 - 1).toNat < m.length := by rw [hm]; unfold Bd at hc; omega
        have hgn : got m (c.1 - 1).toNat = none := by
          unfold got
          cases hx : (m[(c.1 - 1).toNat]?.getD none) with
          | none => rfl
          | some v => rw [hx] at hs; exact absurd rfl hs
        obtain ⟨a1, a2, a3, a4, a5⟩ := markL_some hbl (by rw [List.length_set, hm]) h
        have hne : ∀ x ∈ l, x.1 ≠ 0 → c.1 ≠ x.1 := by
          intro x hx hn e
          have := a3 x hx hn
          rw [got_set hlt, if_pos (by rw [e])] at this
          cases this
        refine ⟨a1, List.Pairwise.cons (fun x hx hn e => ?_) a2, ?_, ?_, ?_⟩
        · exact hne x hx (by rw [← e]; exact hn) e
        · intro x hx hn
          rcases List.mem_cons.1 hx with rfl | hx
          · exact hgn
          · have h3 := a3 x hx hn
            rw [got_set hlt] at h3
            split at h3
            · cases h3
            · exact h3
        · intro x hx hn
          rcases List.mem_cons.1 hx with rfl | hx
          · rw [a5 (x.1 - 1).toNat (fun y hy e => ?_), got_set hlt, if_pos rfl]
            have hyb := hbl y hy
            unfold Bd at hyb hc
            exact hne y hy (by omega) (by omega)
          · exact a4 x hx hn
        · intro k hk
          rw [a5 k (fun x hx => hk x (by simp [hx])), got_set hlt, if_neg]
          have := hk c (by simp)
          unfold Bd at hc
          omega
theorem markL_ok : ∀ {l : List (Int × Int)} {m : Marks}, (∀ c ∈ l, Bd c) → m.length = 8 → l.Pairwise (fun a b => a.1 ≠ 0 → a.1 ≠ b.1) → (∀ c ∈ l, c.1 ≠ 0 → got m (c.1 - 1).toNat = none) → ∃ m', markL l m = some m'
  | [], m, _, _, _, _ => ⟨m, rfl⟩
  | c :: l, m, hb, hm, hp, hn => by
    have hc := hb c (by simp)
    have hbl : ∀ c ∈ l, Bd c := fun x hx => hb x (by simp [hx])
    rw [List.pairwise_cons] at hp
    rw [markL, mark]
    split
    · exact markL_ok hbl hm hp.2 (fun x hx => hn x (by simp [hx]))
    · rename_i h0
      have hg := hn c (by simp) h0
      unfold got at hg
      rw [hg, if_neg (by decide), Option.bind_some]
      have hlt : (c.1 - 1).toNat < m.length := by rw [hm]; unfold Bd at hc; omega
      refine markL_ok hbl (by rw [List.length_set, hm]) hp.2 (fun x hx h1 => ?_)
      rw [got_set hlt, if_neg]
      · exact hn x (by simp [hx]) h1
      · have hxb := hbl x hx
        have := hp.1 x hx h0
        unfold Bd at hc hxb
        omega
/-- each block in one place at most; what stands behind the bytes is noughts -/
structure BF (t : TR) : Prop where
  one : ∀ p q : Nat, p < 16 → q < 16 → p ≠ q → (clAt t p).1 ≠ 0 → (clAt t p).1 ≠ (clAt t q).1
  nought : ∀ k q : Nat, k < 8 → q < 40 → (∀ p : Nat, p < 16 → (clAt t p).1 = (k : Int) + 1 → (clAt t p).2 ≤ (q : Int)) → (t.b k)[q]? = some 0
theorem markAll_eq {t : TR} : markAll t = markL ((List.range 16).map (clAt t)) (List.replicate 8 none) := by
  rw [markAll, markFrom_eq, List.range_eq_range']
theorem got_rep (k : Nat) : got (List.replicate 8 (none : Option Int)) k = none := by
  unfold got
  cases h : (List.replicate 8 (none : Option Int))[k]? with
  | none => rfl
  | some v => rw [List.eq_of_mem_replicate (List.mem_of_getElem? h)]; rfl
theorem pairs_iff {t : TR} : ((List.range 16).map (clAt t)).Pairwise (fun a b => a.1 ≠ 0 → a.1 ≠ b.1) ↔ ∀ p q : Nat, p < 16 → q < 16 → p ≠ q → (clAt t p).1 ≠ 0 → (clAt t p).1 ≠ (clAt t q).1 := by
  rw [List.pairwise_iff_getElem]
  constructor
  · intro h p q hp hq hne h0
    rcases Nat.lt_or_ge p q with hlt | hge
    · have := h p q (by simpa using hp) (by simpa using hq) hlt
      simpa [h0] using this
    · have := h q p (by simpa using hq) (by simpa using hp) (by omega)
      simp only [List.getElem_map, List.getElem_range] at this
      intro e
      exact this (by rw [← e]; exact h0) e.symm
  · intro h i j hi hj hij
    simp only [List.getElem_map, List.getElem_range]
    exact h i j (by simpa using hi) (by simpa using hj) (by omega)
theorem blocks_iff {t : TR} (hb : ∀ p, p < 16 → Bd (clAt t p)) : blocksFitM t = true ↔ BF t := by
  have hbl : ∀ c ∈ (List.range 16).map (clAt t), Bd c := by
    intro c hc
    obtain ⟨p, hp, rfl⟩ := List.mem_map.1 hc
    exact hb p (by simpa using hp)
  have hmem : ∀ p, p < 16 → clAt t p ∈ (List.range 16).map (clAt t) := fun p hp => List.mem_map.2 ⟨p, by simpa using hp, rfl⟩
  constructor
  · intro h
    unfold blocksFitM at h
    cases hm : markAll t with
    | none => rw [hm] at h; cases h
    | some m =>
      rw [hm] at h
      rw [markAll_eq] at hm
      have hcl := of_decide_eq_true h
      obtain ⟨a1, a2, a3, a4, a5⟩ := markL_some hbl (by simp) hm
      refine ⟨pairs_iff.1 a2, fun k q hk hq hp => hcl k hk q hq ?_⟩
      unfold lenOf
      show (got m k).getD 0 ≤ _
      by_cases hx : ∃ p, p < 16 ∧ (clAt t p).1 = (k : Int) + 1
      · obtain ⟨p, hp16, he⟩ := hx
        have := a4 _ (hmem p hp16) (by omega)
        rw [he, show ((k : Int) + 1 - 1).toNat = k by omega] at this
        rw [this]
        exact hp p hp16 he
      · rw [a5 k (fun c hc he => ?_), got_rep]
        · show (0 : Int) ≤ q
          omega
        · obtain ⟨p, hp16, rfl⟩ := List.mem_map.1 hc
          exact hx ⟨p, by simpa using hp16, he⟩
  · intro h
    obtain ⟨m, hm⟩ := markL_ok (m := List.replicate 8 none) hbl (by simp) (pairs_iff.2 h.one) (fun c _ _ => got_rep _)
    obtain ⟨a1, a2, a3, a4, a5⟩ := markL_some hbl (by simp) hm
    unfold blocksFitM
    rw [markAll_eq, hm]
    refine decide_eq_true (fun k hk q hq hl => h.nought k q hk hq (fun p hp he => ?_))
    have := a4 _ (hmem p hp) (by omega)
    rw [he, show ((k : Int) + 1 - 1).toNat = k by omega] at this
    unfold lenOf at hl
    change (got m k).getD 0 ≤ _ at hl
    rw [this] at hl
    exact hl
end Go.Proofs.Ytlchnabnhimlcaa
set_option linter.unusedSimpArgs false
set_option linter.unusedVariables false
namespace Go.Proofs.Ytlchnabnhimlcaa
open Go Go.RowKit Go.Own
def up (t : TR) (j : Nat) : Nat := (t.n j).parent.toNat
def it (t : TR) : Nat → Nat → Nat
  | 0, j => j
  | f + 1, j => it t f (up t j)
theorem it_zero {t : TR} (h0 : up t 0 = 0) : ∀ f, it t f 0 = 0
  | 0 => rfl
  | f + 1 => by rw [it, h0]; exact it_zero h0 f
theorem it_add {t : TR} : ∀ (a b j : Nat), it t (a + b) j = it t b (it t a j)
  | 0, b, j => by rw [Nat.zero_add]; rfl
  | a + 1, b, j => by rw [show a + 1 + b = (a + b) + 1 by omega, it, it_add a b, it]
theorem it_more {t : TR} (h0 : up t 0 = 0) {f g j : Nat} (h : it t f j = 0) (hg : f ≤ g) : it t g j = 0 := by
  obtain ⟨d, rfl⟩ : ∃ d, g = f + d := ⟨g - f, by omega⟩
  rw [it_add, h, it_zero h0]
theorem it_lt {t : TR} (hu : ∀ j, j < 8 → up t j < 8) : ∀ (f j : Nat), j < 8 → it t f j < 8
  | 0, j, h => h
  | f + 1, j, h => it_lt hu f _ (hu j h)
theorem nodup_le : ∀ (n : Nat) (l : List Nat), l.Nodup → (∀ x ∈ l, x < n) → l.length ≤ n
  | 0, [], _, _ => Nat.le_refl _
  | 0, x :: l, _, h => absurd (h x (by simp)) (by omega)
  | n + 1, l, hn, h => by
    by_cases hm : n ∈ l
    · have h1 := nodup_le n (l.erase n) (hn.erase n) (fun x hx => by
        have h2 := h x (List.mem_of_mem_erase hx)
        have h3 : x ≠ n := by
          intro e
          subst e
          exact (List.Nodup.not_mem_erase hn) hx
        omega)
      rw [List.length_erase_of_mem hm] at h1
      omega
    · have h1 := nodup_le n l hn (fun x hx => by
        have h2 := h x hx
        have h3 : x ≠ n := fun e => hm (by rw [← e]; exact hx)
        omega)
      omega
/-- whoever comes to the root comes there in 7 steps -/
theorem reach {t : TR} (h0 : up t 0 = 0) (hu : ∀ j, j < 8 → up t j < 8) {j : Nat} (hj : j < 8) {F : Nat} (hF : it t F j = 0) : it t 7 j = 0 := by
  apply Classical.byContradiction
  intro hne
  have hnz : ∀ k, k ≤ 7 → it t k j ≠ 0 := fun k hk h => hne (it_more h0 h hk)
  by_cases hp : ∃ a b, a < b ∧ b ≤ 7 ∧ it t a j = it t b j
  · obtain ⟨a, b, hab, hb7, he⟩ := hp
    have hall : ∀ F, it t F j ≠ 0 := by
      intro F
      induction F using Nat.strongRecOn with
      | _ F ih =>
        by_cases hF7 : F ≤ 7
        · exact hnz F hF7
        · have e : it t F j = it t (a + (F - b)) j := by
            rw [it_add, he, ← it_add, show b + (F - b) = F by omega]
          rw [e]
          exact ih _ (by omega)
    exact hall F hF
  · have hnd : ((List.range 8).map fun k => it t k j).Nodup := by
      unfold List.Nodup
      rw [List.pairwise_iff_getElem]
      intro i k hi hk hik
      simp only [List.getElem_map, List.getElem_range]
      exact fun e => hp ⟨i, k, hik, by simp at hk; omega, e⟩
    have hnd2 : (0 :: (List.range 8).map fun k => it t k j).Nodup := by
      rw [List.nodup_cons]
      refine ⟨fun hm => ?_, hnd⟩
      obtain ⟨k, hk, e⟩ := List.mem_map.1 hm
      exact hnz k (by have := List.mem_range.1 hk; omega) e
    have := nodup_le 8 _ hnd2 (fun x hx => by
      rcases List.mem_cons.1 hx with rfl | hx
      · omega
      · obtain ⟨k, _, rfl⟩ := List.mem_map.1 hx
        exact it_lt hu k j hj)
    simp at this
/-- a node that is had -/
structure Good (t : TR) (i : Nat) : Prop where
  p0 : 0 ≤ (t.n i).parent
  p8 : (t.n i).parent < 8
  dir : (t.n (up t i)).kind = 1
  nm : isNameM (t.n i).name = true
  rt : ∃ f, it t f i = 0
  sh : Shaped (t.n i)
structure WF (t : TR) : Prop where
  ok : t.Ok
  root : t.n 0 = Nd.root
  nd : ∀ i, 1 ≤ i → i < 8 → t.n i = Nd.zero ∨ Good t i
  un : ∀ i j, 1 ≤ i → i < 8 → 1 ≤ j → j < 8 → i ≠ j → t.n i ≠ Nd.zero → t.n j ≠ Nd.zero → ¬ Same (t.n i) (t.n j)
  bf : BF t
theorem up_root {t : TR} (h : t.n 0 = Nd.root) : up t 0 = 0 := by rw [up, h]; rfl
theorem rooted_it {t : TR} (hr : t.n 0 = Nd.root) (hp : ∀ j, j < 8 → 0 ≤ (t.n j).parent ∧ (t.n j).parent < 8) : ∀ (f j : Nat), j < 8 → (rootedFrom t f (j : Int) = true ↔ it t f j = 0)
  | 0, j, hj => by
    rw [rootedFrom, it, decide_eq_true_eq]; omega
  | f + 1, j, hj => by
    rw [rootedFrom, it]
    by_cases h : j = 0
    · subst h
      rw [if_pos (by simp), up_root hr, it_zero (up_root hr)]
      simp
    · have := hp j hj
      rw [if_neg (by omega), Int.toNat_natCast, if_neg (by omega)]
      have e : (t.n j).parent = ((up t j : Nat) : Int) := by unfold up; omega
      rw [e]
      exact rooted_it hr hp f (up t j) (by unfold up; omega)
theorem par_of {t : TR} (hr : t.n 0 = Nd.root) (h : ∀ i, 1 ≤ i → i < 8 → t.n i = Nd.zero ∨ (0 ≤ (t.n i).parent ∧ (t.n i).parent < 8)) : ∀ j, j < 8 → 0 ≤ (t.n j).parent ∧ (t.n j).parent < 8 := by
  intro j hj
  by_cases h0 : j = 0
  · subst h0; rw [hr]; decide
  · rcases h j (by omega) hj with hz | h
    · rw [hz]; decide
    · exact h
theorem bd_of {t : TR} (hb : ∀ i, i < 8 → Bks (t.n i)) : ∀ p, p < 16 → Bd (clAt t p) := by
  intro p hp
  have := hb (p / 2) (by omega)
  unfold Bks at this
  unfold clAt Bd
  split <;> (dsimp only; omega)
theorem bks_shaped {n : Nd} (h : Shaped n) : Bks n := by
  unfold Shaped at h
  unfold Bks
  omega
theorem WF.bks {t : TR} (h : WF t) : ∀ i, i < 8 → Bks (t.n i) := by
  intro i hi
  by_cases h0 : i = 0
  · subst h0; rw [h.root]; decide
  · rcases h.nd i (by omega) hi with hz | hg
    · rw [hz]; decide
    · exact bks_shaped hg.sh
theorem WF.par {t : TR} (h : WF t) : ∀ j, j < 8 → 0 ≤ (t.n j).parent ∧ (t.n j).parent < 8 := par_of h.root fun i h1 hi => (h.nd i h1 hi).imp id fun g => ⟨g.p0, g.p8⟩
theorem WF.up8 {t : TR} (h : WF t) : ∀ j, j < 8 → up t j < 8 := fun j hj => by have := h.par j hj; unfold up; omega
theorem check_wf {t : TR} (ht : t.Ok) : checkM t = true ↔ WF t := by
  rw [check_iff]
  constructor
  · rintro ⟨h1, h2, h3⟩
    have hp := par_of h1 fun i hi1 hi => (h2 i hi hi1).imp id fun g => ⟨g.1.1, g.1.2.1⟩
    refine ⟨ht, h1, fun i hi1 hi => (h2 i hi hi1).imp id fun ⟨⟨f1, f2, f3, f4, f5, f6⟩, _⟩ => ⟨f1, f2, f3, f4, ⟨8, (rooted_it h1 hp 8 i hi).1 f5⟩, f6⟩, ?_, ?_⟩
    · intro i j hi1 hi hj1 hj hne hzi hzj hs
      rcases Nat.lt_or_ge j i with hlt | hge
      · rcases h2 i hi hi1 with hz | ⟨_, hl⟩
        · exact hzi hz
        · exact hl j hlt hj1 hzj ⟨hs.1.symm, hs.2.symm⟩
      · rcases h2 j hj hj1 with hz | ⟨_, hl⟩
        · exact hzj hz
        · exact hl i (by omega) hi1 hzi hs
    · refine (blocks_iff (bd_of fun i hi => ?_)).1 h3
      by_cases h0 : i = 0
      · subst h0; rw [h1]; decide
      · rcases h2 i hi (by omega) with hz | hg
        · rw [hz]; decide
        · exact bks_shaped hg.1.2.2.2.2.2
  · intro h
    refine ⟨h.root, fun i hi hi1 => ?_, (blocks_iff (bd_of h.bks)).2 h.bf⟩
    by_cases hz : t.n i = Nd.zero
    · exact .inl hz
    · right
      have hg := (h.nd i hi1 hi).resolve_left hz
      refine ⟨⟨hg.p0, hg.p8, hg.dir, hg.nm, ?_, hg.sh⟩, fun j hj hj1 hzj hs => h.un j i hj1 (by omega) hi1 hi (by omega) hzj hz hs⟩
      obtain ⟨f, hf⟩ := hg.rt
      have h7 := reach (up_root h.root) h.up8 hi hf
      exact (rooted_it h.root h.par 8 i hi).2 (it_more (up_root h.root) h7 (by omega))
end Go.Proofs.Ytlchnabnhimlcaa
set_option linter.unusedSimpArgs false
set_option linter.unusedVariables false
namespace Go.Proofs.Ytlchnabnhimlcaa
open Go Go.RowKit Go.Own
theorem it_same {t t' : TR} {S : Nat → Prop} (hc : ∀ j, S j → j ≠ 0 → S (up t j)) (ha : ∀ j, S j → j ≠ 0 → up t' j = up t j) (h0 : up t 0 = 0) (h0' : up t' 0 = 0) : ∀ (f j : Nat), S j → it t f j = 0 → it t' f j = 0
  | 0, j, _, h => h
  | f + 1, j, hs, h => by
    by_cases hj : j = 0
    · subst hj; exact it_zero h0' _
    · rw [it] at h ⊢
      rw [ha j hs hj]
      exact it_same hc ha h0 h0' f _ (hc j hs hj) h
theorem kind_of_good {t : TR} (h : WF t) {i : Nat} (hi : i < 8) (hk : (t.n i).kind = 0) : 1 ≤ i ∧ t.n i = Nd.zero := by
  by_cases h0 : i = 0
  · subst h0; rw [h.root] at hk; exact absurd hk (by decide)
  · refine ⟨by omega, ?_⟩
    rcases h.nd i (by omega) hi with hz | hg
    · exact hz
    · have := hg.sh
      unfold Shaped at this
      omega
theorem nz_kind {t : TR} (h : WF t) {i : Nat} (hi : i < 8) (hn : t.n i ≠ Nd.zero) : (t.n i).kind ≠ 0 := fun hk => hn (kind_of_good h hi hk).2
theorem kind_nz {t : TR} {i : Nat} (hk : (t.n i).kind ≠ 0) : t.n i ≠ Nd.zero := fun e => hk (by rw [e]; rfl)
theorem WF.alive_up {t : TR} (h : WF t) {i : Nat} (hi : i < 8) (h0 : i ≠ 0) (hn : t.n i ≠ Nd.zero) : (t.n (up t i)).kind = 1 :=
  ((h.nd i (by omega) hi).resolve_left hn).dir
theorem bf_same {t t' : TR} (hc : ∀ p, p < 16 → (clAt t' p).1 = (clAt t p).1 ∧ ((clAt t p).1 ≠ 0 → (clAt t' p).2 = (clAt t p).2)) (hb : ∀ k, k < 8 → t'.b k = t.b k) (h : BF t) : BF t' := by
  refine ⟨fun p q hp hq hne h1 => ?_, fun k q hk hq hl => ?_⟩
  · rw [(hc p hp).1] at h1 ⊢
    rw [(hc q hq).1]
    exact h.one p q hp hq hne h1
  · rw [hb k hk]
    refine h.nought k q hk hq (fun p hp he => ?_)
    rw [← (hc p hp).2 (by omega)]
    exact hl p hp (by rw [(hc p hp).1]; exact he)
theorem clAt_set {t : TR} (ht : t.Ok) {i : Nat} (hi : i < 8) {x : Nd} (h0 : x.b0 = (t.n i).b0) (h1 : x.b1 = (t.n i).b1) (hs : (t.n i).b0 ≠ 0 ∨ (t.n i).b1 ≠ 0 → x.size = (t.n i).size) : ∀ p, p < 16 → (clAt (t.set i x) p).1 = (clAt t p).1 ∧ ((clAt t p).1 ≠ 0 → (clAt (t.set i x) p).2 = (clAt t p).2) := by
  intro p hp
  unfold clAt
  by_cases e : i = p / 2
  · have hn : (t.set i x).n (p / 2) = x := by rw [TR.n_set ht hi, if_pos e]
    rw [hn, ← e]
    split
    · exact ⟨h0, fun hne => by dsimp only at hne ⊢; rw [hs (.inl hne)]⟩
    · exact ⟨h1, fun hne => by dsimp only at hne ⊢; rw [hs (.inr hne)]⟩
  · have hn : (t.set i x).n (p / 2) = t.n (p / 2) := by rw [TR.n_set ht hi, if_neg e]
    rw [hn]
    exact ⟨rfl, fun _ => rfl⟩
theorem childM_none {t : TR} {d : Int} {nm : Str} (h : childM t d nm < 0) : ∀ j : Nat, 1 ≤ j → j < 8 → ¬ ((t.n j).kind ≠ 0 ∧ (t.n j).parent = d ∧ (t.n j).name = nm) := by
  have key : ∀ (f i : Nat), childFrom t d nm f i < 0 → ∀ j, i ≤ j → j < i + f → ¬ ((t.n j).kind ≠ 0 ∧ (t.n j).parent = d ∧ (t.n j).name = nm) := by
    intro f
    induction f with
    | zero => intro i _ j h1 h2; omega
    | succ f ih =>
      intro i h j h1 h2
      rw [childFrom] at h
      split at h
      · omega
      · rename_i hn
        by_cases e : j = i
        · subst e; exact hn
        · exact ih (i + 1) h j (by omega) (by omega)
  exact fun j h1 h2 => key 7 1 h j h1 (by omega)
theorem freeFrom_some {t : TR} : ∀ {f i k : Nat}, freeFrom t f i = some k → i ≤ k ∧ k < i + f ∧ (t.n k).kind = 0
  | 0, i, k, h => by cases h
  | f + 1, i, k, h => by
    rw [freeFrom] at h
    split at h
    · rename_i hk
      cases h
      exact ⟨Nat.le_refl _, by omega, hk⟩
    · have := freeFrom_some h
      omega
/-- a new node -/
theorem wf_make {t : TR} (h : WF t) {i d : Nat} {k : Int} {nm : Str} (hi1 : 1 ≤ i) (hi : i < 8) (hz : t.n i = Nd.zero) (hk : k = 1 ∨ k = 2) (hd : d < 8) (hdk : (t.n d).kind = 1) (hnm : isNameM nm = true) (hch : childM t (d : Int) nm < 0) : WF (t.set i ⟨k, (d : Int), nm, 0, 0, 0⟩) := by
  have hn : ∀ j, (t.set i ⟨k, (d : Int), nm, 0, 0, 0⟩).n j = if i = j then ⟨k, (d : Int), nm, 0, 0, 0⟩ else t.n j := fun j => TR.n_set h.ok hi _ j
  have hdi : i ≠ d := fun e => by rw [← e, hz] at hdk; exact absurd hdk (by decide)
  have h0 := up_root h.root
  have hr : (t.set i ⟨k, (d : Int), nm, 0, 0, 0⟩).n 0 = Nd.root := by rw [hn, if_neg (by omega), h.root]
  have h0' := up_root hr
  have hsame := it_same (t := t) (t' := t.set i ⟨k, (d : Int), nm, 0, 0, 0⟩) (S := fun j => j < 8 ∧ t.n j ≠ Nd.zero)
    (fun j hj hj0 => ⟨h.up8 j hj.1, kind_nz (by rw [h.alive_up hj.1 hj0 hj.2]; decide)⟩)
    (fun j hj hj0 => by
      have : i ≠ j := fun e => hj.2 (by rw [← e, hz])
      unfold up; rw [hn, if_neg this]) h0 h0'
  have hrd : ∀ j, j < 8 → t.n j ≠ Nd.zero → ∃ f, it (t.set i ⟨k, (d : Int), nm, 0, 0, 0⟩) f j = 0 := by
    intro j hj hnz
    by_cases hj0 : j = 0
    · subst hj0; exact ⟨0, rfl⟩
    · obtain ⟨f, hf⟩ := ((h.nd j (by omega) hj).resolve_left hnz).rt
      exact ⟨f, hsame f j ⟨hj, hnz⟩ hf⟩
  refine ⟨TR.ok_set h.ok _ _, hr, fun j hj1 hj => ?_, ?_, ?_⟩
  · by_cases e : i = j
    · right
      subst e
      have hni : (t.set i ⟨k, (d : Int), nm, 0, 0, 0⟩).n i = ⟨k, (d : Int), nm, 0, 0, 0⟩ := by rw [hn, if_pos rfl]
      have hup : up (t.set i ⟨k, (d : Int), nm, 0, 0, 0⟩) i = d := by unfold up; rw [hni]; exact Int.toNat_natCast d
      refine ⟨by rw [hni]; dsimp only; omega, by rw [hni]; dsimp only; omega, by rw [hup, hn, if_neg hdi]; exact hdk, by rw [hni]; exact hnm, ?_, ?_⟩
      · obtain ⟨f, hf⟩ := hrd d hd (kind_nz (by rw [hdk]; decide))
        exact ⟨f + 1, by rw [it, hup]; exact hf⟩
      · rw [hni]; unfold Shaped; dsimp only; omega
    · by_cases hnz : t.n j = Nd.zero
      · left; rw [hn, if_neg e]; exact hnz
      · right
        have hg := (h.nd j hj1 hj).resolve_left hnz
        have hnj : (t.set i ⟨k, (d : Int), nm, 0, 0, 0⟩).n j = t.n j := by rw [hn, if_neg e]
        have hup : up (t.set i ⟨k, (d : Int), nm, 0, 0, 0⟩) j = up t j := by unfold up; rw [hnj]
        have hne : i ≠ up t j := fun e' => by have := hg.dir; rw [← e', hz] at this; exact absurd this (by decide)
        exact ⟨by rw [hnj]; exact hg.p0, by rw [hnj]; exact hg.p8, by rw [hup, hn, if_neg hne]; exact hg.dir, by rw [hnj]; exact hg.nm, hrd j hj hnz, by rw [hnj]; exact hg.sh⟩
  · intro a b ha1 ha hb1 hb hne hza hzb hs
    rw [hn] at hza hs
    rw [hn b] at hzb hs
    by_cases ea : i = a
    · rw [if_pos ea] at hs
      have eb : i ≠ b := fun e => hne (by rw [← ea, e])
      rw [if_neg eb] at hs hzb
      exact childM_none hch b hb1 hb ⟨nz_kind h hb hzb, hs.1.symm, hs.2.symm⟩
    · rw [if_neg ea] at hs hza
      by_cases eb : i = b
      · rw [if_pos eb] at hs
        exact childM_none hch a ha1 ha ⟨nz_kind h ha hza, hs.1, hs.2⟩
      · rw [if_neg eb] at hs hzb
        exact h.un a b ha1 ha hb1 hb hne hza hzb hs
  · refine bf_same (clAt_set h.ok hi (by rw [hz]; rfl) (by rw [hz]; rfl) (fun hx => ?_)) (fun k hk => rfl) h.bf
    rw [hz] at hx
    rcases hx with hx | hx <;> exact absurd rfl hx
/-- another place -/
theorem wf_move {t : TR} (h : WF t) {a d : Nat} {nm : Str} (ha1 : 1 ≤ a) (ha : a < 8) (hza : t.n a ≠ Nd.zero) (hd : d < 8) (hdk : (t.n d).kind = 1) (hnm : isNameM nm = true) (hch : childM t (d : Int) nm < 0) (hu : underFrom t (a : Int) 8 (d : Int) = false) : WF (t.set a { t.n a with parent := (d : Int), name := nm }) := by
  have hn : ∀ j, (t.set a { t.n a with parent := (d : Int), name := nm }).n j = if a = j then { t.n a with parent := (d : Int), name := nm } else t.n j := fun j => TR.n_set h.ok ha _ j
  generalize hT : t.set a { t.n a with parent := (d : Int), name := nm } = t' at hn ⊢
  have h0 := up_root h.root
  have hr : t'.n 0 = Nd.root := by rw [hn, if_neg (by omega), h.root]
  have h0' := up_root hr
  have hupa : up t' a = d := by unfold up; rw [hn, if_pos rfl]; exact Int.toNat_natCast d
  have hupn : ∀ j, a ≠ j → up t' j = up t j := fun j e => by unfold up; rw [hn, if_neg e]
  have hkk : ∀ j, (t'.n j).kind = (t.n j).kind := fun j => by
    rw [hn]
    split
    · rename_i e; subst e; rfl
    · rfl
  have hzz : ∀ j, t'.n j = Nd.zero → j < 8 → t.n j = Nd.zero := fun j hj hj8 => by
    have : (t.n j).kind = 0 := by rw [← hkk, hj]; rfl
    exact (kind_of_good h hj8 this).2
  have key : ∀ (f j : Nat), j < 8 → it t f j = 0 → underFrom t (a : Int) f (j : Int) = false → it t' f j = 0 := by
    intro f
    induction f with
    | zero => intro j _ h _; exact h
    | succ f ih =>
      intro j hj hf hu
      by_cases hj0 : j = 0
      · subst hj0; exact it_zero h0' _
      · rw [underFrom, if_neg (by omega)] at hu
        split at hu
        · cases hu
        · rename_i hja
          rw [it] at hf ⊢
          rw [hupn j (by omega)]
          have hp := h.par j hj
          refine ih (up t j) (h.up8 j hj) hf ?_
          rw [Int.toNat_natCast] at hu
          have e : ((up t j : Nat) : Int) = (t.n j).parent := by unfold up; omega
          rw [e]
          exact hu
  have hd0 : it t 8 d = 0 := by
    by_cases e : d = 0
    · subst e; exact it_zero h0 _
    · obtain ⟨f, hf⟩ := ((h.nd d (by omega) hd).resolve_left (kind_nz (by rw [hdk]; decide))).rt
      exact it_more h0 (reach h0 h.up8 hd hf) (by omega)
  have hd1 : it t' 8 d = 0 := key 8 d hd hd0 hu
  have hall : ∀ (f j : Nat), j < 8 → it t f j = 0 → ∃ g, it t' g j = 0 := by
    intro f
    induction f with
    | zero => intro j _ h; exact ⟨0, h⟩
    | succ f ih =>
      intro j hj hf
      by_cases e : a = j
      · subst e; exact ⟨9, by rw [it, hupa]; exact hd1⟩
      · rw [it] at hf
        obtain ⟨g, hg⟩ := ih (up t j) (h.up8 j hj) hf
        exact ⟨g + 1, by rw [it, hupn j e]; exact hg⟩
  refine ⟨by rw [← hT]; exact TR.ok_set h.ok _ _, hr, fun j hj1 hj => ?_, ?_, ?_⟩
  · by_cases hnz : t.n j = Nd.zero
    · left
      have : a ≠ j := fun e => hza (by rw [e]; exact hnz)
      rw [hn, if_neg this]; exact hnz
    · right
      have hg := (h.nd j hj1 hj).resolve_left hnz
      obtain ⟨f, hf⟩ := hg.rt
      obtain ⟨g, hg'⟩ := hall f j hj hf
      by_cases e : a = j
      · subst e
        have hna : t'.n a = { t.n a with parent := (d : Int), name := nm } := by rw [hn, if_pos rfl]
        exact ⟨by rw [hna]; dsimp only; omega, by rw [hna]; dsimp only; omega, by rw [hupa, hkk]; exact hdk, by rw [hna]; exact hnm, ⟨g, hg'⟩, by rw [hna]; exact hg.sh⟩
      · have hnj : t'.n j = t.n j := by rw [hn, if_neg e]
        exact ⟨by rw [hnj]; exact hg.p0, by rw [hnj]; exact hg.p8, by rw [hupn j e, hkk]; exact hg.dir, by rw [hnj]; exact hg.nm, ⟨g, hg'⟩, by rw [hnj]; exact hg.sh⟩
  · intro x y hx1 hx hy1 hy hne hzx hzy hs
    have hzx' : t.n x ≠ Nd.zero := fun e => nz_kind h hx (fun e' => by
      apply hzx
      by_cases ea : a = x
      · exact absurd (by rw [ea]; exact e') hza
      · rw [hn, if_neg ea]; exact e') (by rw [e]; rfl)
    have hzy' : t.n y ≠ Nd.zero := fun e' => by
      apply hzy
      by_cases ea : a = y
      · exact absurd (by rw [ea]; exact e') hza
      · rw [hn, if_neg ea]; exact e'
    rw [hn x, hn y] at hs
    by_cases ea : a = x
    · have eb : a ≠ y := fun e => hne (by rw [← ea, e])
      rw [if_pos ea, if_neg eb] at hs
      exact childM_none hch y hy1 hy ⟨nz_kind h hy hzy', hs.1.symm, hs.2.symm⟩
    · rw [if_neg ea] at hs
      by_cases eb : a = y
      · rw [if_pos eb] at hs
        exact childM_none hch x hx1 hx ⟨nz_kind h hx hzx', hs.1, hs.2⟩
      · rw [if_neg eb] at hs
        exact h.un x y hx1 hx hy1 hy hne hzx' hzy' hs
  · rw [← hT]
    exact bf_same (clAt_set h.ok ha rfl rfl (fun _ => rfl)) (fun k hk => rfl) h.bf
end Go.Proofs.Ytlchnabnhimlcaa
set_option linter.unusedSimpArgs false
set_option linter.unusedVariables false
namespace Go.Proofs.Ytlchnabnhimlcaa
open Go Go.RowKit Go.Own
theorem bf_clear {t t' : TR} {i : Nat} (h : BF t) (hp : ∀ p, p < 16 → p / 2 ≠ i → clAt t' p = clAt t p) (hi : ∀ p, p < 16 → p / 2 = i → (clAt t' p).1 = 0)
    (hc : ∀ k p : Nat, k < 8 → p < 16 → p / 2 = i → (clAt t p).1 = (k : Int) + 1 → t'.b k = List.replicate 40 0) (hs : ∀ k : Nat, k < 8 → (∀ p, p < 16 → p / 2 = i → (clAt t p).1 ≠ (k : Int) + 1) → t'.b k = t.b k) : BF t' := by
  have hin : ∀ p, p < 16 → (clAt t' p).1 ≠ 0 → p / 2 ≠ i := fun p hp16 hn e => hn (hi p hp16 e)
  refine ⟨fun p q hp16 hq16 hne h1 => ?_, fun k q hk hq hl => ?_⟩
  · have e1 := hin p hp16 h1
    rw [hp p hp16 e1] at h1 ⊢
    by_cases e2 : q / 2 = i
    · rw [hi q hq16 e2]; exact h1
    · rw [hp q hq16 e2]
      exact h.one p q hp16 hq16 hne h1
  · by_cases hx : ∃ p, p < 16 ∧ p / 2 = i ∧ (clAt t p).1 = (k : Int) + 1
    · obtain ⟨p, hp16, e, he⟩ := hx
      rw [hc k p hk hp16 e he]
      rw [List.getElem?_replicate, if_pos hq]
    · rw [hs k hk (fun p hp16 e he => hx ⟨p, hp16, e, he⟩)]
      refine h.nought k q hk hq (fun p hp16 he => ?_)
      have e : p / 2 ≠ i := fun e => hx ⟨p, hp16, e, he⟩
      rw [← hp p hp16 e]
      exact hl p hp16 (by rw [hp p hp16 e]; exact he)
theorem clr_b {t : TR} (ht : t.Ok) {b : Int} (hb : 0 ≤ b ∧ b ≤ 8) {k : Nat} (hk : k < 8) : (clrM t b).b k = if b = (k : Int) + 1 then List.replicate 40 0 else t.b k := by
  unfold clrM
  by_cases h : b = 0
  · subst h
    rw [if_neg (by simp), if_neg (by omega)]
  · rw [if_pos h, TR.b_setB ht (by omega)]
    by_cases e : b = (k : Int) + 1
    · rw [if_pos (by omega), if_pos e]
    · rw [if_neg (by omega), if_neg e]
theorem clAt_of {t : TR} {p : Nat} : (clAt t p).1 = if p % 2 = 0 then (t.n (p / 2)).b0 else (t.n (p / 2)).b1 := by
  unfold clAt
  split <;> rfl
theorem empty_b {t : TR} (ht : t.Ok) {i : Nat} (hb : Bks (t.n i)) {x : Nd} {k : Nat} (hk : k < 8) : ((clrM (clrM t (t.n i).b0) (t.n i).b1).set i x).b k = if (t.n i).b0 = (k : Int) + 1 ∨ (t.n i).b1 = (k : Int) + 1 then List.replicate 40 0 else t.b k := by
  rw [TR.b_set, clr_b (ok_clr ht) ⟨hb.2.2.1, hb.2.2.2⟩ hk, clr_b ht ⟨hb.1, hb.2.1⟩ hk]
  by_cases h1 : (t.n i).b1 = (k : Int) + 1
  · rw [if_pos h1, if_pos (.inr h1)]
  · rw [if_neg h1]
    by_cases h0 : (t.n i).b0 = (k : Int) + 1
    · rw [if_pos h0, if_pos (.inl h0)]
    · rw [if_neg h0, if_neg (by intro h; exact h.elim h0 h1)]
theorem bf_empty {t : TR} (h : WF t) {i : Nat} (hi : i < 8) {x : Nd} (h0 : x.b0 = 0) (h1 : x.b1 = 0) : BF ((clrM (clrM t (t.n i).b0) (t.n i).b1).set i x) := by
  have hb := h.bks i hi
  have hok := ok_clr (ok_clr h.ok (b := (t.n i).b0)) (b := (t.n i).b1)
  have hn : ∀ j, ((clrM (clrM t (t.n i).b0) (t.n i).b1).set i x).n j = if i = j then x else t.n j := fun j => by rw [TR.n_set hok hi, n_clr, n_clr]
  refine bf_clear (i := i) h.bf (fun p hp e => ?_) (fun p hp e => ?_) (fun k p hk hp e he => ?_) (fun k hk hp => ?_)
  · have hne := hn (p / 2)
    rw [if_neg (fun e' => e e'.symm)] at hne
    unfold clAt
    rw [hne]
  · rw [clAt_of, hn, if_pos e.symm, h0, h1]
    split <;> rfl
  · rw [empty_b h.ok hb hk, if_pos]
    rw [clAt_of, e] at he
    split at he
    · exact .inl he
    · exact .inr he
  · rw [empty_b h.ok hb hk, if_neg]
    have a0 := hp (2 * i) (by omega) (by omega)
    have a1 := hp (2 * i + 1) (by omega) (by omega)
    rw [clAt_of, if_pos (by omega), show 2 * i / 2 = i by omega] at a0
    rw [clAt_of, if_neg (by omega), show (2 * i + 1) / 2 = i by omega] at a1
    intro hx
    exact hx.elim a0 a1
theorem wf_cut {t : TR} (h : WF t) {i : Nat} (hi1 : 1 ≤ i) (hi : i < 8) : WF (emptyM t i) := by
  have hn : ∀ j, (emptyM t i).n j = if i = j then { t.n i with size := 0, b0 := 0, b1 := 0 } else t.n j := fun j => by
    unfold emptyM
    rw [TR.n_set (ok_clr (ok_clr h.ok)) hi, n_clr, n_clr]
  have hb : BF (emptyM t i) := bf_empty h hi rfl rfl
  have hok := ok_empty h.ok (i := i)
  generalize emptyM t i = t' at *
  have hr : t'.n 0 = Nd.root := by rw [hn, if_neg (by omega), h.root]
  have hp : ∀ j, (t'.n j).parent = (t.n j).parent ∧ (t'.n j).name = (t.n j).name ∧ (t'.n j).kind = (t.n j).kind := fun j => by
    rw [hn]
    split
    · rename_i e; subst e; exact ⟨rfl, rfl, rfl⟩
    · exact ⟨rfl, rfl, rfl⟩
  have hup : ∀ j, up t' j = up t j := fun j => by unfold up; rw [(hp j).1]
  have hnz : ∀ j, j < 8 → t'.n j ≠ Nd.zero → t.n j ≠ Nd.zero := fun j hj hz e => hz (by
    rw [hn]
    split
    · rename_i e'; subst e'; rw [e]; rfl
    · exact e)
  refine ⟨hok, hr, fun j hj1 hj => ?_, fun a b ha1 ha hb1 hb' hne hza hzb hs => ?_, hb⟩
  · by_cases hz : t.n j = Nd.zero
    · left
      rw [hn]
      split
      · rename_i e'; subst e'; rw [hz]; rfl
      · exact hz
    · right
      have hg := (h.nd j hj1 hj).resolve_left hz
      obtain ⟨f, hf⟩ := hg.rt
      refine ⟨by rw [(hp j).1]; exact hg.p0, by rw [(hp j).1]; exact hg.p8, by rw [hup, (hp _).2.2]; exact hg.dir, by rw [(hp j).2.1]; exact hg.nm, ⟨f, ?_⟩, ?_⟩
      · exact it_same (S := fun _ => True) (fun _ _ _ => trivial) (fun j _ _ => hup j) (up_root h.root) (up_root hr) f j trivial hf
      · rw [hn]
        split
        · rename_i e'
          subst e'
          have := hg.sh
          unfold Shaped at this ⊢
          dsimp only
          omega
        · exact hg.sh
  · exact h.un a b ha1 ha hb1 hb' hne (hnz a ha hza) (hnz b hb' hzb) ⟨by rw [← (hp a).1, ← (hp b).1]; exact hs.1, by rw [← (hp a).2.1, ← (hp b).2.1]; exact hs.2⟩
theorem held_none {t : TR} {a : Int} : ∀ {f i : Nat}, heldFrom t a f i = false → ∀ j, i ≤ j → j < i + f → ¬ ((t.n j).kind ≠ 0 ∧ (t.n j).parent = a)
  | 0, i, _, j, h1, h2 => by omega
  | f + 1, i, h, j, h1, h2 => by
    rw [heldFrom] at h
    split at h
    · cases h
    · rename_i hn
      by_cases e : j = i
      · subst e; exact hn
      · exact held_none h j (by omega) (by omega)
theorem wf_remove {t : TR} (h : WF t) {i : Nat} (hi1 : 1 ≤ i) (hi : i < 8) (hh : heldFrom t (i : Int) 7 1 = false) : WF ((emptyM t i).set i Nd.zero) := by
  have e0 : (emptyM t i).set i Nd.zero = (clrM (clrM t (t.n i).b0) (t.n i).b1).set i Nd.zero := by
    unfold emptyM
    rw [TR.set, TR.set, List.set_set]
    rfl
  have hn : ∀ j, ((emptyM t i).set i Nd.zero).n j = if i = j then Nd.zero else t.n j := fun j => by
    rw [e0, TR.n_set (ok_clr (ok_clr h.ok)) hi, n_clr, n_clr]
  have hb : BF ((emptyM t i).set i Nd.zero) := by rw [e0]; exact bf_empty h hi rfl rfl
  have hok := TR.ok_set (ok_empty h.ok (i := i)) i Nd.zero
  generalize (emptyM t i).set i Nd.zero = t' at *
  have hr : t'.n 0 = Nd.root := by rw [hn, if_neg (by omega), h.root]
  have hnz : ∀ j, t'.n j ≠ Nd.zero → i ≠ j ∧ t'.n j = t.n j := fun j hz => by
    rw [hn] at hz ⊢
    split at hz
    · exact absurd rfl hz
    · rename_i e; exact ⟨e, by rw [if_neg e]⟩
  have hch : ∀ j, 1 ≤ j → j < 8 → t.n j ≠ Nd.zero → up t j ≠ i := fun j hj1 hj hz e => held_none hh j hj1 (by omega) ⟨nz_kind h hj hz, by
    have := h.par j hj
    unfold up at e
    omega⟩
  refine ⟨hok, hr, fun j hj1 hj => ?_, fun a b ha1 ha hb1 hb' hne hza hzb hs => ?_, hb⟩
  · by_cases hz : t'.n j = Nd.zero
    · exact .inl hz
    · right
      obtain ⟨e, hnj⟩ := hnz j hz
      have hzt : t.n j ≠ Nd.zero := by rw [← hnj]; exact hz
      have hg := (h.nd j hj1 hj).resolve_left hzt
      obtain ⟨f, hf⟩ := hg.rt
      have hupj : up t' j = up t j := by unfold up; rw [hnj]
      have hkd : (t'.n (up t j)).kind = 1 := by
        rw [hn, if_neg (fun e' => hch j hj1 hj hzt e'.symm)]
        exact hg.dir
      refine ⟨by rw [hnj]; exact hg.p0, by rw [hnj]; exact hg.p8, by rw [hupj]; exact hkd, by rw [hnj]; exact hg.nm, ⟨f, ?_⟩, by rw [hnj]; exact hg.sh⟩
      refine it_same (S := fun j => j < 8 ∧ t.n j ≠ Nd.zero ∧ i ≠ j) (fun j hs h0 => ⟨h.up8 j hs.1, kind_nz (by rw [h.alive_up hs.1 h0 hs.2.1]; decide), fun e' => hch j (by omega) hs.1 hs.2.1 e'.symm⟩) (fun j hs h0 => by unfold up; rw [hn, if_neg hs.2.2]) (up_root h.root) (up_root hr) f j ⟨hj, hzt, e⟩ hf
  · obtain ⟨ea, na⟩ := hnz a hza
    obtain ⟨eb, nb⟩ := hnz b hzb
    rw [na] at hza hs
    rw [nb] at hzb hs
    exact h.un a b ha1 ha hb1 hb' hne hza hzb hs
end Go.Proofs.Ytlchnabnhimlcaa

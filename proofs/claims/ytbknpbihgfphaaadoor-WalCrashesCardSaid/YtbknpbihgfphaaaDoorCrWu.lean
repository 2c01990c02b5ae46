/- wal: the plain law of power failures: a log behind a commit that failed is the log ahead of it or behind it. -/
import Derived.Test.YtbknpbihgfphaaaDoorCrWt
import Derived.Test.YtbknpbihgfphaaaDoorCrBb
set_option linter.unusedSimpArgs false
set_option linter.unusedVariables false
namespace Go.Proofs.YtbknpbihgfphaaaDoor
open Go Go.RowKit Go.Own
theorem dec_sec {c : UInt8} {e n : Nat} {r : List UInt8} (he : e < 2 ^ 32) (hn : r.length = n) (hr : n ≤ 55) : decW c n (secW c e r) = some (e, r) := by
  subst hn
  have hp : (c :: putN e 4).length = 5 := by simp [putN_len]
  have h0 : contW c e r = (c :: putN e 4) ++ (r ++ List.replicate (55 - r.length) 0) := by simp [contW]
  have h1 : (contW c e r).drop 5 = r ++ List.replicate (55 - r.length) 0 := by rw [h0]; exact List.drop_left' hp
  have h2 : (contW c e r).drop (5 + r.length) = List.replicate (55 - r.length) 0 := by rw [← List.drop_drop, h1]; exact List.drop_left' rfl
  have h3 : ((contW c e r).drop 1).take 4 = putN e 4 := by
    rw [h0, List.cons_append, List.drop_succ_cons, List.drop_zero]
    exact List.take_left' (by simp [putN_len])
  have h4 : (contW c e r)[0]? = some c := by rw [h0]; rfl
  have h5 : (List.replicate (55 - r.length) (0 : UInt8)).any (fun x => x != 0) = false := by simp [List.any_eq_false]
  have h6 : numN (putN e 4) = e := by rw [numN_put]; exact Nat.mod_eq_of_lt (by omega)
  unfold decW secW
  rw [open_seal]
  simp only [contW_len hr, h4, h2, h5, h3, h1, h6, if_true]
  simp
theorem dec_oth {c c' : UInt8} {e n : Nat} {r : List UInt8} (hr : r.length ≤ 55) (hc : c ≠ c') : decW c' n (secW c e r) = none := by
  have h4 : (contW c e r)[0]? = some c := by simp [contW]
  unfold decW secW
  rw [open_seal]
  simp only [contW_len hr, h4, if_true]
  rw [if_neg (fun h => hc (Option.some.inj h))]
/-- what a sector says among the records: nothing, a mark, a change -/
def recStep (l : List UInt8) (e k : Nat) : Option (Option Ch) := match decW 82 42 l with
  | some (e', b :: b2 :: r) => if e' = e ∧ b.toNat = k ∧ b2.toNat < 16 then some (some ⟨(b2.toNat : Int), r⟩) else none
  | _ => match decW 67 1 l with
    | some (e', [b]) => if e' = e ∧ b.toNat = k then some none else none
    | _ => none
def recsC (c : Nat → List UInt8) (e : Nat) : Nat → Nat → List UInt8 → Nat → List Ch → List UInt8 × Nat
  | 0, _, ps, u, _ => (ps, u)
  | n + 1, k, ps, u, pend => match recStep (c (34 + k)) e k with
    | none => (ps, u)
    | some (some ch) => recsC c e n (k + 1) ps u (pend ++ [ch])
    | some none => recsC c e n (k + 1) (applyL ps pend) (k + 1) []
theorem recsM_eq {d : DM} {x : Ext} {c : Nat → List UInt8} {e : Nat} (h : ∀ k, k < 52 → sec d x k = c k) : ∀ n k ps u pend, n + k ≤ 18 → recsM d x e n k ps u pend = recsC c e n k ps u pend
  | 0, k, ps, u, pend, _ => rfl
  | n + 1, k, ps, u, pend, hk => by
    have e1 := h (34 + k) (by omega)
    have h2 := fun ps u pend => recsM_eq (e := e) h n (k + 1) ps u pend (by omega)
    simp only [recsM, recsC, recStep, e1, h2]
    cases h82 : decW 82 42 (c (34 + k)) with
    | some p =>
      obtain ⟨e', r⟩ := p
      have := decW_len h82 (by decide)
      match r, this with
      | b :: b2 :: r, _ =>
        simp only
        by_cases hc : e' = e ∧ b.toNat = k ∧ b2.toNat < 16
        · simp only [if_pos hc]
        · simp only [if_neg hc]
    | none =>
      simp only
      cases h67 : decW 67 1 (c (34 + k)) with
      | some p =>
        obtain ⟨e', r⟩ := p
        have := decW_len h67 (by decide)
        match r, this with
        | [b], _ =>
          simp only
          by_cases hc : e' = e ∧ b.toNat = k
          · simp only [if_pos hc]
          · simp only [if_neg hc]
      | none => rfl
theorem recStep_rec {e k : Nat} {ch : Ch} (he : e < 2 ^ 32) (hk : k < 256) (ho : ch.Ok) : recStep (recB e k ch) e k = some (some ch) := by
  obtain ⟨h1, h2, h3⟩ := ho
  have hp : (UInt8.ofNat ch.page.toNat).toNat = ch.page.toNat := by rw [UInt8.toNat_ofNat']; exact Nat.mod_eq_of_lt (by omega)
  have hk' : (UInt8.ofNat k).toNat = k := by rw [UInt8.toNat_ofNat']; exact Nat.mod_eq_of_lt hk
  have hd : decW 82 42 (recB e k ch) = some (e, UInt8.ofNat k :: UInt8.ofNat ch.page.toNat :: ch.data) := dec_sec he (by simp [h3]) (by decide)
  unfold recStep
  rw [hd]
  simp only
  rw [if_pos ⟨trivial, hk', by omega⟩, hp]
  have : ((ch.page.toNat : Nat) : Int) = ch.page := by omega
  rw [this]
theorem recStep_not {e e' k k' : Nat} {ch : Ch} (he : e < 2 ^ 32) (ho : ch.Ok) : recStep (recB e k ch) e' k' ≠ some none := by
  have hd : decW 82 42 (recB e k ch) = some (e, UInt8.ofNat k :: UInt8.ofNat ch.page.toNat :: ch.data) := dec_sec he (by simp [ho.2.2]) (by decide)
  unfold recStep
  rw [hd]
  simp only
  split <;> simp
theorem recStep_mark {e k : Nat} (he : e < 2 ^ 32) (hk : k < 256) : recStep (markB e k) e k = some none := by
  have hk' : (UInt8.ofNat k).toNat = k := by rw [UInt8.toNat_ofNat']; exact Nat.mod_eq_of_lt hk
  have h1 : decW 82 42 (markB e k) = none := dec_oth (by simp) (by decide)
  have h2 : decW 67 1 (markB e k) = some (e, [UInt8.ofNat k]) := dec_sec he rfl (by decide)
  unfold recStep
  rw [h1, h2]
  simp [hk']
theorem recStep_mark_e {e e' k k' : Nat} (he : e < 2 ^ 32) (h : recStep (markB e k) e' k' = some none) : e' = e := by
  have h1 : decW 82 42 (markB e k) = none := dec_oth (by simp) (by decide)
  have h2 : decW 67 1 (markB e k) = some (e, [UInt8.ofNat k]) := dec_sec he rfl (by decide)
  unfold recStep at h
  rw [h1, h2] at h
  simp only at h
  split at h
  · rename_i hc; exact hc.1.symm
  · cases h
/-- no mark any more -/
theorem recsC_end {c : Nat → List UInt8} {e : Nat} : ∀ n k ps u pend, (∀ j, k ≤ j → j < k + n → recStep (c (34 + j)) e j ≠ some none) → recsC c e n k ps u pend = (ps, u)
  | 0, k, ps, u, pend, _ => rfl
  | n + 1, k, ps, u, pend, h => by
    rw [recsC]
    cases hs : recStep (c (34 + k)) e k with
    | none => rfl
    | some o =>
      cases o with
      | none => exact absurd hs (h k (Nat.le_refl _) (by omega))
      | some ch => exact recsC_end n (k + 1) ps u _ (fun j h1 h2 => h j (by omega) (by omega))
theorem recsC_le {c : Nat → List UInt8} {e : Nat} : ∀ n k ps u pend, u ≤ k → u ≤ (recsC c e n k ps u pend).2 ∧ (recsC c e n k ps u pend).2 ≤ k + n ∧ ((recsC c e n k ps u pend).2 ≤ k → recsC c e n k ps u pend = (ps, u))
  | 0, k, ps, u, pend, h => ⟨Nat.le_refl _, h, fun _ => rfl⟩
  | n + 1, k, ps, u, pend, h => by
    rw [recsC]
    cases hs : recStep (c (34 + k)) e k with
    | none => exact ⟨Nat.le_refl _, by simp only; omega, fun _ => rfl⟩
    | some o =>
      cases o with
      | none =>
        have := recsC_le (c := c) (e := e) n (k + 1) (applyL ps pend) (k + 1) [] (Nat.le_refl _)
        simp only
        exact ⟨by omega, by omega, fun h' => by omega⟩
      | some ch =>
        have := recsC_le (c := c) (e := e) n (k + 1) ps u (pend ++ [ch]) (by omega)
        simp only
        exact ⟨by omega, by omega, fun h' => this.2.2 (by omega)⟩
/-- what is read up to the last mark -/
theorem recsC_to {c c' : Nat → List UInt8} {e : Nat} : ∀ n k ps u pend ps2 u2, u ≤ k → recsC c e n k ps u pend = (ps2, u2) → k < u2 → (∀ j, k ≤ j → j < u2 → c' (34 + j) = c (34 + j)) → recsC c' e n k ps u pend = recsC c' e (n - (u2 - k)) u2 ps2 u2 []
  | 0, k, ps, u, pend, ps2, u2, h, hr, hk, hc => by
    rw [recsC] at hr; cases hr; omega
  | n + 1, k, ps, u, pend, ps2, u2, h, hr, hk, hc => by
    rw [recsC, hc k (Nat.le_refl _) hk]
    rw [recsC] at hr
    cases hs : recStep (c (34 + k)) e k with
    | none => rw [hs] at hr; cases hr; omega
    | some o =>
      rw [hs] at hr
      cases o with
      | some ch =>
        simp only at hr ⊢
        by_cases hk1 : k + 1 < u2
        · rw [recsC_to n (k + 1) ps u _ ps2 u2 (by omega) hr hk1 (fun j h1 h2 => hc j (by omega) h2), show n - (u2 - (k + 1)) = n + 1 - (u2 - k) by omega]
        · have := recsC_le (c := c) (e := e) n (k + 1) ps u (pend ++ [ch]) (by omega)
          rw [hr] at this
          have h3 := this.2.2 (by dsimp only; omega)
          cases h3
          omega
      | none =>
        simp only at hr ⊢
        by_cases hk1 : k + 1 < u2
        · rw [recsC_to n (k + 1) _ (k + 1) [] ps2 u2 (Nat.le_refl _) hr hk1 (fun j h1 h2 => hc j (by omega) h2), show n - (u2 - (k + 1)) = n + 1 - (u2 - k) by omega]
        · have := recsC_le (c := c) (e := e) n (k + 1) (applyL ps pend) (k + 1) [] (Nat.le_refl _)
          rw [hr] at this
          have h3 := this.2.2 (by dsimp only; omega)
          cases h3
          rw [show n + 1 - (k + 1 - k) = n by omega]
theorem recsC_keep {c c' : Nat → List UInt8} {e : Nat} {ps0 ps : List UInt8} {u : Nat} (h : recsC c e 18 0 ps0 0 [] = (ps, u)) (hc : ∀ j, j < u → c' (34 + j) = c (34 + j)) : recsC c' e 18 0 ps0 0 [] = recsC c' e (18 - u) u ps u [] := by
  by_cases hu : 0 < u
  · have := recsC_to (c' := c') 18 0 ps0 0 [] ps u (Nat.le_refl _) h hu (fun j _ h2 => hc j h2)
    rw [this, Nat.sub_zero]
  · have h0 : u = 0 := by omega
    subst h0
    have := recsC_le (c := c) (e := e) 18 0 ps0 0 [] (Nat.le_refl _)
    rw [h] at this
    have h3 := this.2.2 (Nat.le_refl _)
    cases h3
    rfl
/-- records read -/
theorem recsC_recs {c : Nat → List UInt8} {e : Nat} (he : e < 2 ^ 32) : ∀ (l : List Ch) (n k : Nat) ps u pend, (∀ ch ∈ l, ch.Ok) → k + l.length ≤ 18 → (∀ i (hi : i < l.length), c (34 + (k + i)) = recB e (k + i) l[i]) → recsC c e (l.length + n) k ps u pend = recsC c e n (k + l.length) ps u (pend ++ l)
  | [], n, k, ps, u, pend, _, _, _ => by simp
  | ch :: r, n, k, ps, u, pend, ho, hk, h => by
    rw [List.length_cons] at hk
    have h0 : c (34 + k) = recB e k ch := h 0 (by simp)
    rw [List.length_cons, show r.length + 1 + n = (r.length + n) + 1 by omega, recsC, h0, recStep_rec he (by omega) (ho ch (by simp))]
    simp only
    rw [recsC_recs he r n (k + 1) ps u (pend ++ [ch]) (fun x hx => ho x (by simp [hx])) (by omega) (fun i hi => by
      have := h (i + 1) (by rw [List.length_cons]; omega)
      rw [show k + 1 + i = k + (i + 1) by omega, this]; rfl)]
    rw [show k + 1 + r.length = k + (r.length + 1) by omega, List.append_assoc]; rfl
/-- the sectors of a log -/
structure LgC (c : Nat → List UInt8) (m : WL) : Prop where
  ep : m.epoch < 2 ^ 32
  home : m.home ≤ 1
  used : m.used ≤ 18
  plen : m.pages.length = 640
  dead : m.dead = false
  head : c (m.epoch % 2) = headB m.epoch m.home
  oth : ∀ e' h', candW (c (1 - m.epoch % 2)) (1 - m.epoch % 2) = some (e', h') → e' < m.epoch
  body : ∃ ps0 : List UInt8, ps0.length = 640 ∧ (∀ i, i < 16 → c (2 + 16 * m.home + i) = pageB m.epoch i ps0) ∧ recsC c m.epoch 18 0 ps0 0 [] = (m.pages, m.used)
  old : ∀ k e', k < 18 → m.epoch < e' → recStep (c (34 + k)) e' k ≠ some none
  late : ∀ k, m.used ≤ k → k < 18 → recStep (c (34 + k)) m.epoch k ≠ some none
theorem cand_head {e h : Nat} (he : e < 2 ^ 32) (hh : h ≤ 1) : candW (headB e h) (e % 2) = some (e, h) := by
  have h2 : decW 72 1 (headB e h) = some (e, [UInt8.ofNat h]) := dec_sec he rfl (by decide)
  have hk' : (UInt8.ofNat h).toNat = h := by rw [UInt8.toNat_ofNat']; exact Nat.mod_eq_of_lt (by omega)
  unfold candW
  rw [h2]
  simp only
  rw [if_pos trivial, if_pos (by omega), hk']
theorem pagesM_eq {d : DM} {x : Ext} {c : Nat → List UInt8} {e h : Nat} {ps0 : List UInt8} (hs : ∀ k, k < 52 → sec d x k = c k) (he : e < 2 ^ 32) (hh : h ≤ 1) (hl : ps0.length = 640) (hp : ∀ i, i < 16 → c (2 + 16 * h + i) = pageB e i ps0) : ∀ n i ps, i + n = 16 → ps.length = 640 → ps.take (i * 40) = ps0.take (i * 40) → pagesM d x e h n i ps = some ps0
  | 0, i, ps, hi, hps, ht => by
    have : i = 16 := by omega
    subst this
    rw [List.take_of_length_le (by omega), List.take_of_length_le (by omega)] at ht
    rw [pagesM, ht]
  | n + 1, i, ps, hi, hps, ht => by
    have hg := getP_len hl (i := i) (by omega)
    have hk' : (UInt8.ofNat i).toNat = i := by rw [UInt8.toNat_ofNat']; exact Nat.mod_eq_of_lt (by omega)
    have h2 : decW 80 41 (pageB e i ps0) = some (e, UInt8.ofNat i :: getP ps0 i) := dec_sec he (by simp [hg]) (by decide)
    rw [pagesM, hs _ (by omega), hp i (by omega), h2]
    simp only
    rw [if_pos ⟨trivial, hk'⟩]
    refine pagesM_eq hs he hh hl hp n (i + 1) _ (by omega) (setP_len hps hg (by omega)) ?_
    unfold setP
    rw [← List.append_assoc, List.take_append_of_le_length (by rw [List.length_append, List.length_take, hg]; omega), List.take_of_length_le (by rw [List.length_append, List.length_take, hg]; omega), ht, take_page]
theorem LgC.opens {c : Nat → List UInt8} {m : WL} (h : LgC c m) {d : DM} {x : Ext} (hs : ∀ k, k < 52 → sec d x k = c k) : openM d x = (some m, 0) := by
  have hep := h.ep
  have hhm := h.home
  obtain ⟨ps0, hl, hp, hr⟩ := h.body
  have hacc : accW d x 2 = some (m.epoch, m.home) := by
    have e2 : accW d x 2 = pickW (pickW none (candW (sec d x 0) 0)) (candW (sec d x 1) 1) := rfl
    rw [e2, hs 0 (by decide), hs 1 (by decide)]
    have ho := h.oth
    have hh := h.head
    rcases Nat.mod_two_eq_zero_or_one m.epoch with h0 | h0
    · rw [h0] at hh ho
      have h1 : candW (c 0) 0 = some (m.epoch, m.home) := by rw [hh, ← h0]; exact cand_head hep hhm
      rw [h1]
      cases hc : candW (c 1) 1 with
      | none => rfl
      | some p =>
        have := ho p.1 p.2 (by rw [← hc])
        simp only [pickW]
        rw [if_neg (by omega)]
    · rw [h0] at hh ho
      have h1 : candW (c 1) 1 = some (m.epoch, m.home) := by rw [hh, ← h0]; exact cand_head hep hhm
      rw [h1]
      cases hc : candW (c 0) 0 with
      | none => rfl
      | some p =>
        have := ho p.1 p.2 (by rw [← hc])
        simp only [pickW]
        rw [if_pos (by omega)]
  unfold openM
  rw [hacc]
  simp only
  rw [pagesM_eq hs hep hhm hl hp 16 0 z640 (by decide) List.length_replicate rfl]
  simp only
  rw [recsM_eq hs 18 0 ps0 0 [] (by decide), hr]
  simp only
  obtain ⟨e, h', u, ps, dd⟩ := m
  have := h.dead
  dsimp only at this ⊢
  rw [this]
theorem recsC_congr {c c' : Nat → List UInt8} {e : Nat} (h : ∀ j, j < 18 → c' (34 + j) = c (34 + j)) : ∀ n k ps u pend, n + k ≤ 18 → recsC c' e n k ps u pend = recsC c e n k ps u pend
  | 0, k, ps, u, pend, _ => rfl
  | n + 1, k, ps, u, pend, hk => by
    rw [recsC, recsC, h k (by omega)]
    have h2 := fun ps u pend => recsC_congr (e := e) h n (k + 1) ps u pend (by omega)
    simp only [h2]
/-- the other home does not count -/
theorem LgC.home_any {c c' : Nat → List UInt8} {m : WL} (h : LgC c m) (hc : ∀ k, k < 52 → (k < 2 + 16 * (1 - m.home) ∨ 2 + 16 * (1 - m.home) + 16 ≤ k) → c' k = c k) : LgC c' m := by
  have hh := h.home
  obtain ⟨ps0, hl, hp, hr⟩ := h.body
  have h34 : ∀ j, j < 18 → c' (34 + j) = c (34 + j) := fun j hj => hc (34 + j) (by omega) (by omega)
  refine ⟨h.ep, h.home, h.used, h.plen, h.dead, ?_, ?_, ⟨ps0, hl, fun i hi => ?_, ?_⟩, fun k e' hk he => ?_, fun k h1 h2 => ?_⟩
  · rw [hc _ (by omega) (by omega)]; exact h.head
  · rw [hc _ (by omega) (by omega)]; exact h.oth
  · rw [hc _ (by omega) (by omega)]; exact hp i hi
  · rw [recsC_congr h34 18 0 _ _ _ (by decide)]; exact hr
  · rw [h34 k hk]; exact h.old k e' hk he
  · rw [h34 k h2]; exact h.late k h1 h2
/-- the next epoch's head counts -/
theorem LgC.next {c c' : Nat → List UInt8} {m : WL} (h : LgC c m) (he : m.epoch ≠ 4294967295) (hp : ∀ i, i < 16 → c' (2 + 16 * (1 - m.home) + i) = pageB (m.epoch + 1) i m.pages) (hh : c' ((m.epoch + 1) % 2) = headB (m.epoch + 1) (1 - m.home)) (ho : c' (m.epoch % 2) = c (m.epoch % 2)) (h34 : ∀ j, j < 18 → c' (34 + j) = c (34 + j)) : LgC c' ⟨m.epoch + 1, 1 - m.home, 0, m.pages, false⟩ := by
  have hep := h.ep
  have hhm := h.home
  have hold : ∀ k, k < 18 → recStep (c' (34 + k)) (m.epoch + 1) k ≠ some none := fun k hk => by rw [h34 k hk]; exact h.old k _ hk (by omega)
  refine ⟨by dsimp only; omega, by dsimp only; omega, Nat.zero_le _, h.plen, rfl, hh, fun e' h' hc => ?_, ⟨m.pages, h.plen, hp, ?_⟩, fun k e' hk he => ?_, fun k _ h2 => hold k h2⟩
  · dsimp only at hc ⊢
    have e1 : 1 - (m.epoch + 1) % 2 = m.epoch % 2 := by omega
    rw [e1, ho, h.head, cand_head hep hhm] at hc
    cases hc; omega
  · exact recsC_end 18 0 _ _ _ (fun j _ hj => hold j (by omega))
  · dsimp only at he
    rw [h34 k hk]; exact h.old k e' hk (by omega)
/-- records that no mark follows do not count -/
theorem LgC.recs_any {c c' : Nat → List UInt8} {m : WL} {l : List Ch} (h : LgC c m) (hl : ∀ ch ∈ l, ch.Ok) (hu : m.used + l.length + 1 ≤ 18) (hc : ∀ k, k < 52 → c' k = c k ∨ ∃ i, ∃ hi : i < l.length, k = 34 + (m.used + i) ∧ c' k = recB m.epoch (m.used + i) l[i]) : LgC c' m := by
  have hep := h.ep
  have hhm := h.home
  obtain ⟨ps0, hl0, hp, hr⟩ := h.body
  have hlo : ∀ k, k < 34 + m.used → c' k = c k := fun k hk => (hc k (by omega)).resolve_right (fun ⟨i, hi, he, _⟩ => by omega)
  have hst : ∀ k e', k < 18 → recStep (c' (34 + k)) e' k = some none → recStep (c (34 + k)) e' k = some none := fun k e' hk hs => by
    rcases hc (34 + k) (by omega) with h1 | ⟨i, hi, _, h1⟩
    · rw [h1] at hs; exact hs
    · rw [h1] at hs; exact absurd hs (recStep_not hep (hl _ (List.getElem_mem hi)))
  have hlate : ∀ k, m.used ≤ k → k < 18 → recStep (c' (34 + k)) m.epoch k ≠ some none := fun k h1 h2 h3 => h.late k h1 h2 (hst k _ h2 h3)
  refine ⟨h.ep, h.home, h.used, h.plen, h.dead, ?_, ?_, ⟨ps0, hl0, fun i hi => ?_, ?_⟩, fun k e' hk he h3 => h.old k e' hk he (hst k _ hk h3), hlate⟩
  · rw [hlo _ (by omega)]; exact h.head
  · rw [hlo _ (by omega)]; exact h.oth
  · rw [hlo _ (by omega)]; exact hp i hi
  · rw [recsC_keep hr (fun j hj => hlo _ (by omega)), recsC_end _ _ _ _ _ (fun j h1 h2 => hlate j h1 (by omega))]
/-- the mark makes them count -/
theorem LgC.mark {c c' : Nat → List UInt8} {m : WL} {l : List Ch} (h : LgC c m) (hl : ∀ ch ∈ l, ch.Ok) (hu : m.used + l.length + 1 ≤ 18) (hr : ∀ i (hi : i < l.length), c (34 + (m.used + i)) = recB m.epoch (m.used + i) l[i]) (hm : c' (34 + (m.used + l.length)) = markB m.epoch (m.used + l.length)) (hc : ∀ k, k < 52 → k ≠ 34 + (m.used + l.length) → c' k = c k) : LgC c' ⟨m.epoch, m.home, m.used + l.length + 1, applyL m.pages l, false⟩ := by
  have hep := h.ep
  have hhm := h.home
  obtain ⟨ps0, hl0, hp, hr0⟩ := h.body
  have hlate : ∀ k, m.used + l.length + 1 ≤ k → k < 18 → recStep (c' (34 + k)) m.epoch k ≠ some none := fun k h1 h2 => by rw [hc _ (by omega) (by omega)]; exact h.late k (by omega) h2
  refine ⟨h.ep, h.home, hu, applyL_len hl h.plen, rfl, ?_, ?_, ⟨ps0, hl0, fun i hi => ?_, ?_⟩, fun k e' hk he h3 => ?_, hlate⟩
  · dsimp only; rw [hc _ (by omega) (by omega)]; exact h.head
  · dsimp only; rw [hc _ (by omega) (by omega)]; exact h.oth
  · dsimp only; rw [hc _ (by omega) (by omega)]; exact hp i hi
  · dsimp only
    rw [recsC_keep hr0 (fun j hj => hc _ (by omega) (by omega)), show 18 - m.used = l.length + ((18 - m.used - l.length - 1) + 1) by omega, recsC_recs hep l _ m.used _ _ _ hl (by omega) (fun i hi => by rw [hc _ (by omega) (by omega)]; exact hr i hi), recsC, hm, recStep_mark hep (by omega)]
    simp only [List.nil_append]
    exact recsC_end _ _ _ _ _ (fun j h1 h2 => hlate j h1 (by omega))
  · dsimp only at he
    by_cases hk2 : k = m.used + l.length
    · subst hk2
      rw [hm] at h3
      have := recStep_mark_e hep h3
      omega
    · rw [hc _ (by omega) (by omega)] at h3
      exact h.old k e' hk he h3
end Go.Proofs.YtbknpbihgfphaaaDoor

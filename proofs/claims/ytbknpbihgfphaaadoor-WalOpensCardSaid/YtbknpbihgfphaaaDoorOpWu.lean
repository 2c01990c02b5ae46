/- wal: the plain law of power failures: a log behind a commit that failed is the log ahead of it or behind it. wal: what the document's State makes of sectors is what the log is, plain. -/
import Derived.Test.YtbknpbihgfphaaaDoorOpAr
set_option linter.unusedSimpArgs false
set_option linter.unusedVariables false
namespace Go.Proofs.YtbknpbihgfphaaaDoor
open Go Go.RowKit Go.Own
theorem dec_sec {c : UInt8} {e n : Nat} {r : List UInt8} (he : e < 2 ^ 32) (hn : r.length = n) (hr : n ≤ 55) : decW c n (secW c e r) = some (e, r) := by
  subst hn
  have hp : (c :: putN e 4).length = 5 := by simp [putN_len]
  have h0 : contW c e r = (c :: putN e 4) ++ (r ++ List.replicate (55 - r.length) 0) := by simp [contW]
  have h1 : (contW c e r).drop 5 = r ++ List.replicate (55 - r.length) 0 := by rw [h0]; exact List.drop_left' hp
  have h2 : (contW c e r).drop (5 + r.length) = List.replicate (55 - r.length) 0 := by rw [← List.drop_drop, h1]; exact List.drop_left' rfl
  have h3 : ((contW c e r).drop 1).take 4 = putN e 4 := by
    rw [h0, List.cons_append, List.drop_succ_cons, List.drop_zero]
    exact List.take_left' (by simp [putN_len])
  have h4 : (contW c e r)[0]? = some c := by rw [h0]; rfl
  have h5 : (List.replicate (55 - r.length) (0 : UInt8)).any (fun x => x != 0) = false := by simp [List.any_eq_false]
  have h6 : numN (putN e 4) = e := by rw [numN_put]; exact Nat.mod_eq_of_lt (by omega)
  unfold decW secW
  rw [open_seal]
  simp only [contW_len hr, h4, h2, h5, h3, h1, h6, if_true]
  simp
theorem dec_oth {c c' : UInt8} {e n : Nat} {r : List UInt8} (hr : r.length ≤ 55) (hc : c ≠ c') : decW c' n (secW c e r) = none := by
  have h4 : (contW c e r)[0]? = some c := by simp [contW]
  unfold decW secW
  rw [open_seal]
  simp only [contW_len hr, h4, if_true]
  rw [if_neg (fun h => hc (Option.some.inj h))]
/-- what a sector says among the records: nothing, a mark, a change -/
def recStep (l : List UInt8) (e k : Nat) : Option (Option Ch) := match decW 82 42 l with
  | some (e', b :: b2 :: r) => if e' = e ∧ b.toNat = k ∧ b2.toNat < 16 then some (some ⟨(b2.toNat : Int), r⟩) else none
  | _ => match decW 67 1 l with
    | some (e', [b]) => if e' = e ∧ b.toNat = k then some none else none
    | _ => none
def recsC (c : Nat → List UInt8) (e : Nat) : Nat → Nat → List UInt8 → Nat → List Ch → List UInt8 × Nat
  | 0, _, ps, u, _ => (ps, u)
  | n + 1, k, ps, u, pend => match recStep (c (34 + k)) e k with
    | none => (ps, u)
    | some (some ch) => recsC c e n (k + 1) ps u (pend ++ [ch])
    | some none => recsC c e n (k + 1) (applyL ps pend) (k + 1) []
theorem recsM_eq {d : DM} {x : Ext} {c : Nat → List UInt8} {e : Nat} (h : ∀ k, k < 52 → sec d x k = c k) : ∀ n k ps u pend, n + k ≤ 18 → recsM d x e n k ps u pend = recsC c e n k ps u pend
  | 0, k, ps, u, pend, _ => rfl
  | n + 1, k, ps, u, pend, hk => by
    have e1 := h (34 + k) (by omega)
    have h2 := fun ps u pend => recsM_eq (e := e) h n (k + 1) ps u pend (by omega)
    simp only [recsM, recsC, recStep, e1, h2]
    cases h82 : decW 82 42 (c (34 + k)) with
    | some p =>
      obtain ⟨e', r⟩ := p
      have := decW_len h82 (by decide)
      match r, this with
      | b :: b2 :: r, _ =>
        simp only
        by_cases hc : e' = e ∧ b.toNat = k ∧ b2.toNat < 16
        · simp only [if_pos hc]
        · simp only [if_neg hc]
    | none =>
      simp only
      cases h67 : decW 67 1 (c (34 + k)) with
      | some p =>
        obtain ⟨e', r⟩ := p
        have := decW_len h67 (by decide)
        match r, this with
        | [b], _ =>
          simp only
          by_cases hc : e' = e ∧ b.toNat = k
          · simp only [if_pos hc]
          · simp only [if_neg hc]
      | none => rfl
theorem recStep_rec {e k : Nat} {ch : Ch} (he : e < 2 ^ 32) (hk : k < 256) (ho : ch.Ok) : recStep (recB e k ch) e k = some (some ch) := by
  obtain ⟨h1, h2, h3⟩ := ho
  have hp : (UInt8.ofNat ch.page.toNat).toNat = ch.page.toNat := by rw [UInt8.toNat_ofNat']; exact Nat.mod_eq_of_lt (by omega)
  have hk' : (UInt8.ofNat k).toNat = k := by rw [UInt8.toNat_ofNat']; exact Nat.mod_eq_of_lt hk
  have hd : decW 82 42 (recB e k ch) = some (e, UInt8.ofNat k :: UInt8.ofNat ch.page.toNat :: ch.data) := dec_sec he (by simp [h3]) (by decide)
  unfold recStep
  rw [hd]
  simp only
  rw [if_pos ⟨trivial, hk', by omega⟩, hp]
  have : ((ch.page.toNat : Nat) : Int) = ch.page := by omega
  rw [this]
theorem recStep_not {e e' k k' : Nat} {ch : Ch} (he : e < 2 ^ 32) (ho : ch.Ok) : recStep (recB e k ch) e' k' ≠ some none := by
  have hd : decW 82 42 (recB e k ch) = some (e, UInt8.ofNat k :: UInt8.ofNat ch.page.toNat :: ch.data) := dec_sec he (by simp [ho.2.2]) (by decide)
  unfold recStep
  rw [hd]
  simp only
  split <;> simp
theorem recStep_mark {e k : Nat} (he : e < 2 ^ 32) (hk : k < 256) : recStep (markB e k) e k = some none := by
  have hk' : (UInt8.ofNat k).toNat = k := by rw [UInt8.toNat_ofNat']; exact Nat.mod_eq_of_lt hk
  have h1 : decW 82 42 (markB e k) = none := dec_oth (by simp) (by decide)
  have h2 : decW 67 1 (markB e k) = some (e, [UInt8.ofNat k]) := dec_sec he rfl (by decide)
  unfold recStep
  rw [h1, h2]
  simp [hk']
theorem recStep_mark_e {e e' k k' : Nat} (he : e < 2 ^ 32) (h : recStep (markB e k) e' k' = some none) : e' = e := by
  have h1 : decW 82 42 (markB e k) = none := dec_oth (by simp) (by decide)
  have h2 : decW 67 1 (markB e k) = some (e, [UInt8.ofNat k]) := dec_sec he rfl (by decide)
  unfold recStep at h
  rw [h1, h2] at h
  simp only at h
  split at h
  · rename_i hc; exact hc.1.symm
  · cases h
/-- no mark any more -/
theorem recsC_end {c : Nat → List UInt8} {e : Nat} : ∀ n k ps u pend, (∀ j, k ≤ j → j < k + n → recStep (c (34 + j)) e j ≠ some none) → recsC c e n k ps u pend = (ps, u)
  | 0, k, ps, u, pend, _ => rfl
  | n + 1, k, ps, u, pend, h => by
    rw [recsC]
    cases hs : recStep (c (34 + k)) e k with
    | none => rfl
    | some o =>
      cases o with
      | none => exact absurd hs (h k (Nat.le_refl _) (by omega))
      | some ch => exact recsC_end n (k + 1) ps u _ (fun j h1 h2 => h j (by omega) (by omega))
theorem recsC_le {c : Nat → List UInt8} {e : Nat} : ∀ n k ps u pend, u ≤ k → u ≤ (recsC c e n k ps u pend).2 ∧ (recsC c e n k ps u pend).2 ≤ k + n ∧ ((recsC c e n k ps u pend).2 ≤ k → recsC c e n k ps u pend = (ps, u))
  | 0, k, ps, u, pend, h => ⟨Nat.le_refl _, h, fun _ => rfl⟩
  | n + 1, k, ps, u, pend, h => by
    rw [recsC]
    cases hs : recStep (c (34 + k)) e k with
    | none => exact ⟨Nat.le_refl _, by simp only; omega, fun _ => rfl⟩
    | some o =>
      cases o with
      | none =>
        have := recsC_le (c := c) (e := e) n (k + 1) (applyL ps pend) (k + 1) [] (Nat.le_refl _)
        simp only
        exact ⟨by omega, by omega, fun h' => by omega⟩
      | some ch =>
        have := recsC_le (c := c) (e := e) n (k + 1) ps u (pend ++ [ch]) (by omega)
        simp only
        exact ⟨by omega, by omega, fun h' => this.2.2 (by omega)⟩
/-- what is read up to the last mark -/
theorem recsC_to {c c' : Nat → List UInt8} {e : Nat} : ∀ n k ps u pend ps2 u2, u ≤ k → recsC c e n k ps u pend = (ps2, u2) → k < u2 → (∀ j, k ≤ j → j < u2 → c' (34 + j) = c (34 + j)) → recsC c' e n k ps u pend = recsC c' e (n - (u2 - k)) u2 ps2 u2 []
  | 0, k, ps, u, pend, ps2, u2, h, hr, hk, hc => by
    rw [recsC] at hr; cases hr; omega
  | n + 1, k, ps, u, pend, ps2, u2, h, hr, hk, hc => by
    rw [recsC, hc k (Nat.le_refl _) hk]
    rw [recsC] at hr
    cases hs : recStep (c (34 + k)) e k with
    | none => rw [hs] at hr; cases hr; omega
    | some o =>
      rw [hs] at hr
      cases o with
      | some ch =>
        simp only at hr ⊢
        by_cases hk1 : k + 1 < u2
        · rw [recsC_to n (k + 1) ps u _ ps2 u2 (by omega) hr hk1 (fun j h1 h2 => hc j (by omega) h2), show n - (u2 - (k + 1)) = n + 1 - (u2 - k) by omega]
        · have := recsC_le (c := c) (e := e) n (k + 1) ps u (pend ++ [ch]) (by omega)
          rw [hr] at this
          have h3 := this.2.2 (by dsimp only; omega)
          cases h3
          omega
      | none =>
        simp only at hr ⊢
        by_cases hk1 : k + 1 < u2
        · rw [recsC_to n (k + 1) _ (k + 1) [] ps2 u2 (Nat.le_refl _) hr hk1 (fun j h1 h2 => hc j (by omega) h2), show n - (u2 - (k + 1)) = n + 1 - (u2 - k) by omega]
        · have := recsC_le (c := c) (e := e) n (k + 1) (applyL ps pend) (k + 1) [] (Nat.le_refl _)
          rw [hr] at this
          have h3 := this.2.2 (by dsimp only; omega)
          cases h3
          rw [show n + 1 - (k + 1 - k) = n by omega]
theorem recsC_keep {c c' : Nat → List UInt8} {e : Nat} {ps0 ps : List UInt8} {u : Nat} (h : recsC c e 18 0 ps0 0 [] = (ps, u)) (hc : ∀ j, j < u → c' (34 + j) = c (34 + j)) : recsC c' e 18 0 ps0 0 [] = recsC c' e (18 - u) u ps u [] := by
  by_cases hu : 0 < u
  · have := recsC_to (c' := c') 18 0 ps0 0 [] ps u (Nat.le_refl _) h hu (fun j _ h2 => hc j h2)
    rw [this, Nat.sub_zero]
  · have h0 : u = 0 := by omega
    subst h0
    have := recsC_le (c := c) (e := e) 18 0 ps0 0 [] (Nat.le_refl _)
    rw [h] at this
    have h3 := this.2.2 (Nat.le_refl _)
    cases h3
    rfl
/-- records read -/
theorem recsC_recs {c : Nat → List UInt8} {e : Nat} (he : e < 2 ^ 32) : ∀ (l : List Ch) (n k : Nat) ps u pend, (∀ ch ∈ l, ch.Ok) → k + l.length ≤ 18 → (∀ i (hi : i < l.length), c (34 + (k + i)) = recB e (k + i) l[i]) → recsC c e (l.length + n) k ps u pend = recsC c e n (k + l.length) ps u (pend ++ l)
  | [], n, k, ps, u, pend, _, _, _ => by simp
  | ch :: r, n, k, ps, u, pend, ho, hk, h => by
    rw [List.length_cons] at hk
    have h0 : c (34 + k) = recB e k ch := h 0 (by simp)
    rw [List.length_cons, show r.length + 1 + n = (r.length + n) + 1 by omega, recsC, h0, recStep_rec he (by omega) (ho ch (by simp))]
    simp only
    rw [recsC_recs he r n (k + 1) ps u (pend ++ [ch]) (fun x hx => ho x (by simp [hx])) (by omega) (fun i hi => by
      have := h (i + 1) (by rw [List.length_cons]; omega)
      rw [show k + 1 + i = k + (i + 1) by omega, this]; rfl)]
    rw [show k + 1 + r.length = k + (r.length + 1) by omega, List.append_assoc]; rfl
/-- the sectors of a log -/
structure LgC (c : Nat → List UInt8) (m : WL) : Prop where
  ep : m.epoch < 2 ^ 32
  home : m.home ≤ 1
  used : m.used ≤ 18
  plen : m.pages.length = 640
  dead : m.dead = false
  head : c (m.epoch % 2) = headB m.epoch m.home
  oth : ∀ e' h', candW (c (1 - m.epoch % 2)) (1 - m.epoch % 2) = some (e', h') → e' < m.epoch
  body : ∃ ps0 : List UInt8, ps0.length = 640 ∧ (∀ i, i < 16 → c (2 + 16 * m.home + i) = pageB m.epoch i ps0) ∧ recsC c m.epoch 18 0 ps0 0 [] = (m.pages, m.used)
  old : ∀ k e', k < 18 → m.epoch < e' → recStep (c (34 + k)) e' k ≠ some none
  late : ∀ k, m.used ≤ k → k < 18 → recStep (c (34 + k)) m.epoch k ≠ some none
theorem cand_head {e h : Nat} (he : e < 2 ^ 32) (hh : h ≤ 1) : candW (headB e h) (e % 2) = some (e, h) := by
  have h2 : decW 72 1 (headB e h) = some (e, [UInt8.ofNat h]) := dec_sec he rfl (by decide)
  have hk' : (UInt8.ofNat h).toNat = h := by rw [UInt8.toNat_ofNat']; exact Nat.mod_eq_of_lt (by omega)
  unfold candW
  rw [h2]
  simp only
  rw [if_pos trivial, if_pos (by omega), hk']
theorem pagesM_eq {d : DM} {x : Ext} {c : Nat → List UInt8} {e h : Nat} {ps0 : List UInt8} (hs : ∀ k, k < 52 → sec d x k = c k) (he : e < 2 ^ 32) (hh : h ≤ 1) (hl : ps0.length = 640) (hp : ∀ i, i < 16 → c (2 + 16 * h + i) = pageB e i ps0) : ∀ n i ps, i + n = 16 → ps.length = 640 → ps.take (i * 40) = ps0.take (i * 40) → pagesM d x e h n i ps = some ps0
  | 0, i, ps, hi, hps, ht => by
    have : i = 16 := by omega
    subst this
    rw [List.take_of_length_le (by omega), List.take_of_length_le (by omega)] at ht
    rw [pagesM, ht]
  | n + 1, i, ps, hi, hps, ht => by
    have hg := getP_len hl (i := i) (by omega)
    have hk' : (UInt8.ofNat i).toNat = i := by rw [UInt8.toNat_ofNat']; exact Nat.mod_eq_of_lt (by omega)
    have h2 : decW 80 41 (pageB e i ps0) = some (e, UInt8.ofNat i :: getP ps0 i) := dec_sec he (by simp [hg]) (by decide)
    rw [pagesM, hs _ (by omega), hp i (by omega), h2]
    simp only
    rw [if_pos ⟨trivial, hk'⟩]
    refine pagesM_eq hs he hh hl hp n (i + 1) _ (by omega) (setP_len hps hg (by omega)) ?_
    unfold setP
    rw [← List.append_assoc, List.take_append_of_le_length (by rw [List.length_append, List.length_take, hg]; omega), List.take_of_length_le (by rw [List.length_append, List.length_take, hg]; omega), ht, take_page]
theorem LgC.opens {c : Nat → List UInt8} {m : WL} (h : LgC c m) {d : DM} {x : Ext} (hs : ∀ k, k < 52 → sec d x k = c k) : openM d x = (some m, 0) := by
  have hep := h.ep
  have hhm := h.home
  obtain ⟨ps0, hl, hp, hr⟩ := h.body
  have hacc : accW d x 2 = some (m.epoch, m.home) := by
    have e2 : accW d x 2 = pickW (pickW none (candW (sec d x 0) 0)) (candW (sec d x 1) 1) := rfl
    rw [e2, hs 0 (by decide), hs 1 (by decide)]
    have ho := h.oth
    have hh := h.head
    rcases Nat.mod_two_eq_zero_or_one m.epoch with h0 | h0
    · rw [h0] at hh ho
      have h1 : candW (c 0) 0 = some (m.epoch, m.home) := by rw [hh, ← h0]; exact cand_head hep hhm
      rw [h1]
      cases hc : candW (c 1) 1 with
      | none => rfl
      | some p =>
        have := ho p.1 p.2 (by rw [← hc])
        simp only [pickW]
        rw [if_neg (by omega)]
    · rw [h0] at hh ho
      have h1 : candW (c 1) 1 = some (m.epoch, m.home) := by rw [hh, ← h0]; exact cand_head hep hhm
      rw [h1]
      cases hc : candW (c 0) 0 with
      | none => rfl
      | some p =>
        have := ho p.1 p.2 (by rw [← hc])
        simp only [pickW]
        rw [if_pos (by omega)]
  unfold openM
  rw [hacc]
  simp only
  rw [pagesM_eq hs hep hhm hl hp 16 0 z640 (by decide) List.length_replicate rfl]
  simp only
  rw [recsM_eq hs 18 0 ps0 0 [] (by decide), hr]
  simp only
  obtain ⟨e, h', u, ps, dd⟩ := m
  have := h.dead
  dsimp only at this ⊢
  rw [this]
theorem recsC_congr {c c' : Nat → List UInt8} {e : Nat} (h : ∀ j, j < 18 → c' (34 + j) = c (34 + j)) : ∀ n k ps u pend, n + k ≤ 18 → recsC c' e n k ps u pend = recsC c e n k ps u pend
  | 0, k, ps, u, pend, _ => rfl
  | n + 1, k, ps, u, pend, hk => by
    rw [recsC, recsC, h k (by omega)]
    have h2 := fun ps u pend => recsC_congr (e := e) h n (k + 1) ps u pend (by omega)
    simp only [h2]
/-- the other home does not count -/
theorem LgC.home_any {c c' : Nat → List UInt8} {m : WL} (h : LgC c m) (hc : ∀ k, k < 52 → (k < 2 + 16 * (1 - m.home) ∨ 2 + 16 * (1 - m.home) + 16 ≤ k) → c' k = c k) : LgC c' m := by
  have hh := h.home
  obtain ⟨ps0, hl, hp, hr⟩ := h.body
  have h34 : ∀ j, j < 18 → c' (34 + j) = c (34 + j) := fun j hj => hc (34 + j) (by omega) (by omega)
  refine ⟨h.ep, h.home, h.used, h.plen, h.dead, ?_, ?_, ⟨ps0, hl, fun i hi => ?_, ?_⟩, fun k e' hk he => ?_, fun k h1 h2 => ?_⟩
  · rw [hc _ (by omega) (by omega)]; exact h.head
  · rw [hc _ (by omega) (by omega)]; exact h.oth
  · rw [hc _ (by omega) (by omega)]; exact hp i hi
  · rw [recsC_congr h34 18 0 _ _ _ (by decide)]; exact hr
  · rw [h34 k hk]; exact h.old k e' hk he
  · rw [h34 k h2]; exact h.late k h1 h2
/-- the next epoch's head counts -/
theorem LgC.next {c c' : Nat → List UInt8} {m : WL} (h : LgC c m) (he : m.epoch ≠ 4294967295) (hp : ∀ i, i < 16 → c' (2 + 16 * (1 - m.home) + i) = pageB (m.epoch + 1) i m.pages) (hh : c' ((m.epoch + 1) % 2) = headB (m.epoch + 1) (1 - m.home)) (ho : c' (m.epoch % 2) = c (m.epoch % 2)) (h34 : ∀ j, j < 18 → c' (34 + j) = c (34 + j)) : LgC c' ⟨m.epoch + 1, 1 - m.home, 0, m.pages, false⟩ := by
  have hep := h.ep
  have hhm := h.home
  have hold : ∀ k, k < 18 → recStep (c' (34 + k)) (m.epoch + 1) k ≠ some none := fun k hk => by rw [h34 k hk]; exact h.old k _ hk (by omega)
  refine ⟨by dsimp only; omega, by dsimp only; omega, Nat.zero_le _, h.plen, rfl, hh, fun e' h' hc => ?_, ⟨m.pages, h.plen, hp, ?_⟩, fun k e' hk he => ?_, fun k _ h2 => hold k h2⟩
  · dsimp only at hc ⊢
    have e1 : 1 - (m.epoch + 1) % 2 = m.epoch % 2 := by omega
    rw [e1, ho, h.head, cand_head hep hhm] at hc
    cases hc; omega
  · exact recsC_end 18 0 _ _ _ (fun j _ hj => hold j (by omega))
  · dsimp only at he
    rw [h34 k hk]; exact h.old k e' hk (by omega)
/-- records that no mark follows do not count -/
theorem LgC.recs_any {c c' : Nat → List UInt8} {m : WL} {l : List Ch} (h : LgC c m) (hl : ∀ ch ∈ l, ch.Ok) (hu : m.used + l.length + 1 ≤ 18) (hc : ∀ k, k < 52 → c' k = c k ∨ ∃ i, ∃ hi : i < l.length, k = 34 + (m.used + i) ∧ c' k = recB m.epoch (m.used + i) l[i]) : LgC c' m := by
  have hep := h.ep
  have hhm := h.home
  obtain ⟨ps0, hl0, hp, hr⟩ := h.body
  have hlo : ∀ k, k < 34 + m.used → c' k = c k := fun k hk => (hc k (by omega)).resolve_right (fun ⟨i, hi, he, _⟩ => by omega)
  have hst : ∀ k e', k < 18 → recStep (c' (34 + k)) e' k = some none → recStep (c (34 + k)) e' k = some none := fun k e' hk hs => by
    rcases hc (34 + k) (by omega) with h1 | ⟨i, hi, _, h1⟩
    · rw [h1] at hs; exact hs
    · rw [h1] at hs; exact absurd hs (recStep_not hep (hl _ (List.getElem_mem hi)))
  have hlate : ∀ k, m.used ≤ k → k < 18 → recStep (c' (34 + k)) m.epoch k ≠ some none := fun k h1 h2 h3 => h.late k h1 h2 (hst k _ h2 h3)
  refine ⟨h.ep, h.home, h.used, h.plen, h.dead, ?_, ?_, ⟨ps0, hl0, fun i hi => ?_, ?_⟩, fun k e' hk he h3 => h.old k e' hk he (hst k _ hk h3), hlate⟩
  · rw [hlo _ (by omega)]; exact h.head
  · rw [hlo _ (by omega)]; exact h.oth
  · rw [hlo _ (by omega)]; exact hp i hi
  · rw [recsC_keep hr (fun j hj => hlo _ (by omega)), recsC_end _ _ _ _ _ (fun j h1 h2 => hlate j h1 (by omega))]
/-- the mark makes them count -/
theorem LgC.mark {c c' : Nat → List UInt8} {m : WL} {l : List Ch} (h : LgC c m) (hl : ∀ ch ∈ l, ch.Ok) (hu : m.used + l.length + 1 ≤ 18) (hr : ∀ i (hi : i < l.length), c (34 + (m.used + i)) = recB m.epoch (m.used + i) l[i]) (hm : c' (34 + (m.used + l.length)) = markB m.epoch (m.used + l.length)) (hc : ∀ k, k < 52 → k ≠ 34 + (m.used + l.length) → c' k = c k) : LgC c' ⟨m.epoch, m.home, m.used + l.length + 1, applyL m.pages l, false⟩ := by
  have hep := h.ep
  have hhm := h.home
  obtain ⟨ps0, hl0, hp, hr0⟩ := h.body
  have hlate : ∀ k, m.used + l.length + 1 ≤ k → k < 18 → recStep (c' (34 + k)) m.epoch k ≠ some none := fun k h1 h2 => by rw [hc _ (by omega) (by omega)]; exact h.late k (by omega) h2
  refine ⟨h.ep, h.home, hu, applyL_len hl h.plen, rfl, ?_, ?_, ⟨ps0, hl0, fun i hi => ?_, ?_⟩, fun k e' hk he h3 => ?_, hlate⟩
  · dsimp only; rw [hc _ (by omega) (by omega)]; exact h.head
  · dsimp only; rw [hc _ (by omega) (by omega)]; exact h.oth
  · dsimp only; rw [hc _ (by omega) (by omega)]; exact hp i hi
  · dsimp only
    rw [recsC_keep hr0 (fun j hj => hc _ (by omega) (by omega)), show 18 - m.used = l.length + ((18 - m.used - l.length - 1) + 1) by omega, recsC_recs hep l _ m.used _ _ _ hl (by omega) (fun i hi => by rw [hc _ (by omega) (by omega)]; exact hr i hi), recsC, hm, recStep_mark hep (by omega)]
    simp only [List.nil_append]
    exact recsC_end _ _ _ _ _ (fun j h1 h2 => hlate j h1 (by omega))
  · dsimp only at he
    by_cases hk2 : k = m.used + l.length
    · subst hk2
      rw [hm] at h3
      have := recStep_mark_e hep h3
      omega
    · rw [hc _ (by omega) (by omega)] at h3
      exact h.old k e' hk he h3
end Go.Proofs.YtbknpbihgfphaaaDoor
set_option linter.unusedSimpArgs false
set_option linter.unusedVariables false
namespace Go.Proofs.YtbknpbihgfphaaaDoor
open Go Go.RowKit Go.Own
theorem num_byte (l : List UInt8) : ∀ n i, i < n → (numI l n >>> (8 * i)) % 2 ^ 8 = (l[i]?.getD 0).toNat
  | 0, i, h => absurd h (Nat.not_lt_zero _)
  | n + 1, i, h => by
    have hx : (l[n]?.getD 0).toNat < 2 ^ 8 := (l[n]?.getD 0).toNat_lt
    rw [numI]
    by_cases hi : i < n
    · rw [← num_byte l n i hi]
      apply Nat.eq_of_testBit_eq
      intro j
      rw [Nat.testBit_mod_two_pow, Nat.testBit_mod_two_pow, Nat.testBit_shiftRight, Nat.testBit_shiftRight, Nat.testBit_or, Nat.testBit_shiftLeft]
      by_cases hj : j < 8
      · have : ¬ (8 * n ≤ 8 * i + j) := by omega
        simp [this]
      · simp [hj]
    · have hie : i = n := by omega
      subst hie
      apply Nat.eq_of_testBit_eq
      intro j
      rw [Nat.testBit_mod_two_pow, Nat.testBit_shiftRight, Nat.testBit_or, Nat.testBit_shiftLeft]
      have h0 : (numI l i).testBit (8 * i + j) = false := Nat.testBit_lt_two_pow (Nat.lt_of_lt_of_le (numI_lt l i) (Nat.pow_le_pow_right (by decide) (by omega)))
      rw [h0, Nat.add_sub_cancel_left]
      by_cases hj : j < 8
      · simp [hj]
      · have h1 : ((l[i]?.getD 0).toNat).testBit j = false := Nat.testBit_lt_two_pow (Nat.lt_of_lt_of_le hx (Nat.pow_le_pow_right (by decide) (by omega)))
        simp [hj, h1]
theorem put_num {l : List UInt8} {n : Nat} (h : l.length = n) : putN (numN l) n = l := by
  apply List.ext_getElem
  · rw [putN_len, h]
  · intro i h1 h2
    rw [putN_len] at h1
    have := num_byte l l.length i h2
    have e2 : l[i]?.getD 0 = l[i] := by rw [List.getElem?_eq_getElem h2]; rfl
    rw [e2] at this
    have e3 : (putN (numN l) n)[i] = byteAt (numN l) i := by simp [putN]
    rw [e3]
    apply UInt8.toNat_inj.1
    unfold byteAt numN
    rw [UInt8.toNat_ofNat']
    exact this
theorem seal_open {l : List UInt8} (h : (openL l).2 = 0) : l = sealL (openL l).1 := by
  unfold openL at h ⊢
  split at h
  · exact absurd h (by decide)
  · rename_i h4
    split at h
    · rename_i hc
      rw [if_neg h4, if_pos hc]
      unfold sealL
      rw [← hc, put_num (by rw [List.length_drop]; omega), List.take_append_drop]
    · exact absurd h (by decide)
theorem sec_parts {c : UInt8} {e : Nat} {r : List UInt8} : ∃ t, secW c e r = (c :: putN e 4) ++ (r ++ t) := ⟨List.replicate (55 - r.length) 0 ++ putN (crcOn 0 (contW c e r)) 4, by simp [secW, sealL, contW]⟩
theorem sec_ep {c : UInt8} {e : Nat} {r : List UInt8} (he : e < 2 ^ 32) : numN (((secW c e r).drop 1).take 4) = e := by
  obtain ⟨t, ht⟩ := sec_parts (c := c) (e := e) (r := r)
  rw [ht, List.cons_append, List.drop_succ_cons, List.drop_zero, List.take_left' (putN_len e 4), numN_put]
  exact Nat.mod_eq_of_lt he
theorem sec_drop {c : UInt8} {e : Nat} {r : List UInt8} : ∃ t, (secW c e r).drop 5 = r ++ t := by
  obtain ⟨t, ht⟩ := sec_parts (c := c) (e := e) (r := r)
  exact ⟨t, by rw [ht]; exact List.drop_left' (by simp [putN_len])⟩
theorem sec_5 {c b : UInt8} {e : Nat} {r : List UInt8} : (secW c e (b :: r))[5]?.getD 0 = b ∧ ((secW c e (b :: r)).drop 6).take r.length = r := by
  obtain ⟨t, ht⟩ := sec_drop (c := c) (e := e) (r := b :: r)
  constructor
  · have : (secW c e (b :: r))[5]? = ((secW c e (b :: r)).drop 5)[0]? := by rw [List.getElem?_drop]
    rw [this, ht]; rfl
  · have : (secW c e (b :: r)).drop 6 = ((secW c e (b :: r)).drop 5).drop 1 := by rw [List.drop_drop]
    rw [this, ht]
    show (r ++ t).take r.length = r
    exact List.take_left' rfl
/-- a sector that is decoded is just that one -/
theorem dec_back {c : UInt8} {n e : Nat} {l r : List UInt8} (h : decW c n l = some (e, r)) (hn : n ≤ 55) : l = secW c e r := by
  have hr := decW_len h hn
  unfold decW at h
  split at h
  · rename_i h1
    split at h
    · rename_i h2
      split at h
      · rename_i h3
        split at h
        · cases h
        · rename_i h4
          have hso := seal_open h1
          generalize (openL l).1 = m at *
          cases h
          rw [hso]
          show sealL m = sealL _
          congr 1
          have hz : m.drop (5 + n) = List.replicate (55 - n) 0 := by
            apply List.eq_replicate_iff.2
            refine ⟨by rw [List.length_drop]; omega, fun b hb => ?_⟩
            simp only [Bool.not_eq_true, List.any_eq_false] at h4
            have := h4 b hb
            simpa using this
          have h4' : ((m.drop 1).take 4).length = 4 := by rw [List.length_take, List.length_drop]; omega
          unfold contW
          rw [put_num h4', hr, ← hz]
          have e0 : [c] = m.take 1 := by
            match m, h3 with
            | x :: r, h3 => cases h3; rfl
          rw [e0, ← List.drop_drop, List.append_assoc, List.take_append_drop, ← List.drop_drop (i := 4) (j := 1), List.append_assoc, List.take_append_drop, List.take_append_drop]
      · cases h
    · cases h
  · cases h
theorem ofNat8 (x : UInt8) : UInt8.ofNat x.toNat = x := by simp
theorem toNat8 {n : Nat} (h : n < 256) : (UInt8.ofNat n).toNat = n := by rw [UInt8.toNat_ofNat']; exact Nat.mod_eq_of_lt h
/-- what State reads of a head -/
def ep0 (l : List UInt8) : Nat := numN ((l.drop 1).take 4)
def b5 (l : List UInt8) : Nat := (l[5]?.getD 0).toNat
theorem ep0_lt (l : List UInt8) : ep0 l < 2 ^ 32 := Nat.lt_of_lt_of_le (numI_lt _ _) (Nat.pow_le_pow_right (by decide) (by rw [List.length_take, List.length_drop]; omega))
theorem b5_lt (l : List UInt8) : b5 l < 256 := UInt8.toNat_lt _
theorem cand_yes {l : List UInt8} {i : Nat} (h : l = headB (ep0 l) (b5 l)) (he : ep0 l % 2 = i) (hh : b5 l < 2) : candW l i = some (ep0 l, b5 l) := by
  have := cand_head (ep0_lt l) (by omega : b5 l ≤ 1)
  rw [← h, he] at this
  exact this
theorem cand_no {l : List UInt8} {i : Nat} (h : ¬ (l = headB (ep0 l) (b5 l) ∧ ep0 l % 2 = i ∧ b5 l < 2)) : candW l i = none := by
  unfold candW
  cases hd : decW 72 1 l with
  | none => rfl
  | some p =>
    obtain ⟨e, r⟩ := p
    have hl := decW_len hd (by decide)
    match r, hl with
    | [b], _ =>
      have hs := dec_back hd (by decide)
      have he := decW_lt hd
      have e1 : ep0 l = e := by rw [hs]; exact sec_ep he
      have e2 : b5 l = b.toNat := by unfold b5; rw [hs, (sec_5 (r := [])).1]
      simp only
      rw [e1, e2] at h
      by_cases h1 : e % 2 = i
      · rw [if_pos h1]
        by_cases h2 : b.toNat ≤ 1
        · refine absurd ⟨?_, h1, by omega⟩ h
          unfold headB
          rw [ofNat8]; exact hs
        · rw [if_neg h2]
      · rw [if_neg h1]
theorem page_yes {l : List UInt8} {e i : Nat} (he : e < 2 ^ 32) (hl : l.length = 64) (h : l = secW 80 e ([UInt8.ofNat i] ++ (l.drop 6).take 40)) : decW 80 41 l = some (e, UInt8.ofNat i :: (l.drop 6).take 40) := by
  have := dec_sec (c := 80) (r := [UInt8.ofNat i] ++ (l.drop 6).take 40) (n := 41) he (by rw [List.length_append, List.length_take, List.length_drop, hl]; rfl) (by decide)
  rw [← h] at this
  exact this
theorem page_no {l : List UInt8} {e e' i : Nat} {b : UInt8} {r : List UInt8} (h : l ≠ secW 80 e ([UInt8.ofNat i] ++ (l.drop 6).take 40)) (hd : decW 80 41 l = some (e', b :: r)) : ¬ (e' = e ∧ b.toNat = i) := by
  rintro ⟨rfl, rfl⟩
  have hs := dec_back hd (by decide)
  have hr := decW_len hd (by decide)
  have h6 := (sec_5 (c := 80) (e := e') (b := b) (r := r)).2
  have : r.length = 40 := by simpa using hr
  rw [this, ← hs] at h6
  exact h (by rw [ofNat8, h6]; exact hs)
theorem rec_yes {l : List UInt8} {e k : Nat} (he : e < 2 ^ 32) (hk : k < 256) (hl : l.length = 64) (hp : (l[6]?.getD 0).toNat < 16) (h : l = secW 82 e ([UInt8.ofNat k] ++ (l.drop 6).take 41)) : recStep l e k = some (some ⟨((l[6]?.getD 0).toNat : Int), (l.drop 7).take 40⟩) := by
  have h6 : (l.drop 6).take 41 = (l[6]?.getD 0) :: (l.drop 7).take 40 := by
    have hc : l.drop 6 = l[6] :: l.drop 7 := List.drop_eq_getElem_cons (by omega)
    rw [hc, List.take_succ_cons, List.getElem?_eq_getElem (by omega)]; rfl
  have := dec_sec (c := 82) (r := [UInt8.ofNat k] ++ (l.drop 6).take 41) (n := 42) he (by rw [List.length_append, List.length_take, List.length_drop, hl]; rfl) (by decide)
  rw [← h, h6] at this
  unfold recStep
  rw [this]
  simp only [List.cons_append, List.nil_append]
  rw [if_pos ⟨trivial, toNat8 hk, hp⟩]
theorem rec_no {l : List UInt8} {e k : Nat} (hl : l.length = 64) (h : ¬ ((l[6]?.getD 0).toNat < 16 ∧ l = secW 82 e ([UInt8.ofNat k] ++ (l.drop 6).take 41))) (h2 : l ≠ markB e k) : recStep l e k = none := by
  unfold recStep
  cases hd : decW 82 42 l with
  | some p =>
    obtain ⟨e', r⟩ := p
    have hr := decW_len hd (by decide)
    match r, hr with
    | b :: b2 :: r, hr =>
      simp only
      rw [if_neg]
      rintro ⟨rfl, rfl, hp⟩
      have hs := dec_back hd (by decide)
      have h6 := (sec_5 (c := 82) (e := e') (b := b) (r := b2 :: r)).2
      have hr' : (b2 :: r).length = 41 := by simpa using hr
      rw [hr', ← hs] at h6
      have h60 : l[6]?.getD 0 = b2 := by
        have hc : l.drop 6 = l[6] :: l.drop 7 := List.drop_eq_getElem_cons (by omega)
        rw [hc, List.take_succ_cons] at h6
        rw [List.getElem?_eq_getElem (by omega)]
        exact (List.cons.inj h6).1
      exact h ⟨by rw [h60]; exact hp, by rw [ofNat8, h6]; exact hs⟩
  | none =>
    simp only
    cases hd2 : decW 67 1 l with
    | none => rfl
    | some p =>
      obtain ⟨e', r⟩ := p
      have hr := decW_len hd2 (by decide)
      match r, hr with
      | [b], _ =>
        simp only
        rw [if_neg]
        rintro ⟨rfl, rfl⟩
        have hs := dec_back hd2 (by decide)
        exact h2 (by unfold markB; rw [ofNat8]; exact hs)
def accC (c : Nat → List UInt8) : Nat → Option (Nat × Nat)
  | 0 => none
  | i + 1 => pickW (accC c i) (candW (c i) i)
def pagesC (c : Nat → List UInt8) (e h : Nat) : Nat → Nat → List UInt8 → Option (List UInt8)
  | 0, _, ps => some ps
  | n + 1, i, ps => match decW 80 41 (c (2 + 16 * h + i)) with
    | some (e', b :: r) => if e' = e ∧ b.toNat = i then pagesC c e h n (i + 1) (setP ps i r) else none
    | _ => none
def openC (c : Nat → List UInt8) : Option WL × Int := match accC c 2 with
  | none => (none, 6)
  | some (e, h) => match pagesC c e h 16 0 z640 with
    | none => (none, 8)
    | some ps => (some ⟨e, h, (recsC c e 18 0 ps 0 []).2, (recsC c e 18 0 ps 0 []).1, false⟩, 0)
theorem pagesC_eq {d : DM} {x : Ext} {c : Nat → List UInt8} {e h : Nat} (hs : ∀ k, k < 52 → sec d x k = c k) (hh : h ≤ 1) : ∀ n i ps, i + n ≤ 16 → pagesM d x e h n i ps = pagesC c e h n i ps
  | 0, i, ps, _ => rfl
  | n + 1, i, ps, hi => by
    rw [pagesM, pagesC, hs _ (by omega)]
    have h2 := fun ps => pagesC_eq (e := e) hs hh n (i + 1) ps (by omega)
    simp only [h2]
    rfl
theorem openC_eq {d : DM} {x : Ext} {c : Nat → List UInt8} (hs : ∀ k, k < 52 → sec d x k = c k) : openM d x = openC c := by
  have hacc : accW d x 2 = accC c 2 := by
    show pickW (pickW none (candW (sec d x 0) 0)) (candW (sec d x 1) 1) = pickW (pickW none (candW (c 0) 0)) (candW (c 1) 1)
    rw [hs 0 (by decide), hs 1 (by decide)]
  unfold openM openC
  rw [hacc]
  cases ha : accC c 2 with
  | none => rfl
  | some p =>
    obtain ⟨e, h⟩ := p
    have hh : h ≤ 1 := accW_h 2 (hacc.trans ha)
    simp only
    rw [pagesC_eq hs hh 16 0 z640 (by decide)]
    cases pagesC c e h 16 0 z640 with
    | none => rfl
    | some ps =>
      simp only
      rw [recsM_eq hs 18 0 ps 0 [] (by decide)]
theorem accC_h {c : Nat → List UInt8} {e h : Nat} : ∀ i, accC c i = some (e, h) → h ≤ 1
  | 0, hc => by cases hc
  | i + 1, hc => by
    have h1 : pickW (accC c i) (candW (c i) i) = some (e, h) := hc
    rcases pickW_or h1 with h2 | h2
    · exact accC_h i h2.symm
    · exact candW_h h2.symm
/-- pages, apart -/
def pgsOf (ps : List UInt8) : List (List UInt8) := (List.range 16).map (getP ps)
theorem pgsOf_len (ps : List UInt8) : (pgsOf ps).length = 16 := by simp [pgsOf]
theorem pgsOf_get {ps : List UInt8} {i : Nat} (h : i < 16) : (pgsOf ps)[i]?.getD [] = getP ps i := by
  unfold pgsOf
  rw [List.getElem?_map, List.getElem?_range h]; rfl
theorem getP_setP {ps b : List UInt8} {p i : Nat} (hl : ps.length = 640) (hb : b.length = 40) (hp : p < 16) (hi : i < 16) : getP (setP ps p b) i = if i = p then b else getP ps i := by
  unfold getP setP
  have ht : (ps.take (p * 40)).length = p * 40 := by rw [List.length_take]; omega
  by_cases h : i = p
  · subst h
    rw [if_pos rfl, List.drop_left' ht]
    exact List.take_left' hb
  · rw [if_neg h]
    by_cases h2 : i < p
    · rw [List.drop_append_of_le_length (by omega), List.take_append_of_le_length (by rw [List.length_drop]; omega), List.drop_take, List.take_take, Nat.min_eq_left (by omega)]
    · rw [List.drop_append, List.drop_eq_nil_of_le (by omega), List.nil_append, ht, List.drop_append, List.drop_eq_nil_of_le (by omega), List.nil_append, hb, List.drop_drop]
      congr 2
      omega
theorem pgsOf_set {ps b : List UInt8} {p : Nat} (hl : ps.length = 640) (hb : b.length = 40) (hp : p < 16) : pgsOf (setP ps p b) = (pgsOf ps).set p b := by
  apply List.ext_getElem
  · rw [List.length_set, pgsOf_len, pgsOf_len]
  · intro i h1 h2
    rw [pgsOf_len] at h1
    rw [List.getElem_set]
    have e1 : ∀ (q : List UInt8) (h : i < (pgsOf q).length), (pgsOf q)[i] = getP q i := fun q h => by simp [pgsOf]
    rw [e1, e1, getP_setP hl hb hp h1]
    by_cases h3 : i = p
    · rw [if_pos h3, if_pos h3.symm]
    · rw [if_neg h3, if_neg (fun h => h3 h.symm)]
end Go.Proofs.YtbknpbihgfphaaaDoor

/- Squeezed copy of the texts Pw Wy Ws Ww Kb Wx Pc Pg. -/
import Derived.Test.YtgilmcpdpggikaaGreatDoorZAr0
import Derived.Test.YtgilmcpdpggikaaGreatDoorZTb
import Derived.Test.YtgilmcpdpggikaaGreatDoorZTk
import Derived.Test.YtgilmcpdpggikaaGreatDoorZPe
set_option maxRecDepth 100000
set_option maxHeartbeats 1000000
set_option linter.unusedSimpArgs false
set_option linter.unusedVariables false
namespace Go.Proofs.YtgilmcpdpggikaaGreatDoor
open Go Go.RowKit Go.Own
structure From (P : Nat → List UInt8 → Prop) (d d' : DM) : Prop where
 sec : ∀ k, d'.sec k = d.sec k ∨ P k (d'.sec k)
 pnd : ∀ p ∈ d'.pend, P p.1 p.2
theorem From.trans {P : Nat → List UInt8 → Prop} {a b c : DM} (h : From P a b) (k : From P b c) : From P a c := ⟨fun i => by
 rcases k.sec i with e | e
 ·rw [e]; exact h.sec i
 ·exact .inr e, k.pnd⟩
theorem From.refl {P : Nat → List UInt8 → Prop} {d : DM} (h : ∀ p ∈ d.pend, P p.1 p.2) : From P d d := ⟨fun _ => .inl rfl, h⟩
theorem set_sec (s : List (List UInt8)) (n k : Nat) (b : List UInt8) : (s.set n b)[k]?.getD [] = s[k]?.getD [] ∨ (n = k ∧ (s.set n b)[k]?.getD [] = b) := by
 by_cases e : n = k
 ·subst e
  by_cases hl : n < s.length
  ·exact .inr ⟨rfl, by rw [List.getElem?_set_self hl]; rfl⟩
  ·left
   rw [List.set_eq_of_length_le (by omega)]
 ·left; rw [List.getElem?_set_ne e]
theorem layAll_sec {P : Nat → List UInt8 → Prop} (k : Nat) : ∀ (p : List (Nat × List UInt8)) (s : List (List UInt8)), (∀ q ∈ p, P q.1 q.2) → (layAll s p)[k]?.getD [] = s[k]?.getD [] ∨ P k ((layAll s p)[k]?.getD [])
 | [], s, _ => .inl rfl
 | q :: p, s, h => by
  have e : layAll s (q :: p) = layAll (s.set q.1 q.2) p := rfl
  rw [e]
  rcases layAll_sec k p (s.set q.1 q.2) (fun r hr => h r (by simp [hr])) with h1 | h1
  ·rcases set_sec s q.1 k q.2 with h2 | ⟨h2, h3⟩
   ·left; rw [h1, h2]
   ·right; rw [h1, h3, ← h2]; exact h q (by simp)
  ·exact .inr h1
theorem layS_sec {P : Nat → List UInt8 → Prop} (k : Nat) : ∀ (p : List (Nat × List UInt8)) (s : List (List UInt8)) (b : List Bool), (∀ q ∈ p, P q.1 q.2) → (layS s p b)[k]?.getD [] = s[k]?.getD [] ∨ P k ((layS s p b)[k]?.getD [])
 | [], s, b, _ => by simp [layS]
 | _ :: _, s, [], _ => by simp [layS]
 | q :: p, s, b :: bs, h => by
  rw [layS]
  rcases layS_sec k p (if b = true then s.set q.1 q.2 else s) bs (fun r hr => h r (by simp [hr])) with h1 | h1
  ·rw [h1]
   cases b
   ·exact .inl rfl
   ·rcases set_sec s q.1 k q.2 with h2 | ⟨h2, h3⟩
    ·left; rw [if_pos rfl, h2]
    ·right; rw [if_pos rfl, h3, ← h2]; exact h q (by simp)
  ·exact .inr h1
section
variable {P : Nat → List UInt8 → Prop} {d : DM}
theorem From.crash (h : ∀ p ∈ d.pend, P p.1 p.2) (sv : List Bool) : From P d (d.crash sv) := by
 unfold DM.crash
 split
 ·exact From.refl h
 ·exact ⟨fun k => layS_sec k d.pend d.secs sv h, fun p hp => by cases hp⟩
theorem From.powered (h : ∀ p ∈ d.pend, P p.1 p.2) : From P d d.powered.1 := by
 unfold DM.powered
 split
 ·exact From.refl h
 ·split
  ·exact From.crash h _
  ·exact ⟨fun _ => .inl rfl, h⟩
theorem From.write (h : ∀ p ∈ d.pend, P p.1 p.2) {n : Int} {b : List UInt8} (hb : d.inB n = true → P n.toNat b) : From P d (d.write n b).1 := by
 unfold DM.write
 split
 ·rename_i hin
  split
  ·split
   ·have hp := From.powered h
    refine ⟨hp.sec, fun p hq => ?_⟩
    rcases List.mem_append.1 hq with hq | hq
    ·exact hp.pnd p hq
    ·rw [List.mem_singleton] at hq; subst hq; exact hb hin
   ·exact From.powered h
  ·exact From.refl h
 ·exact From.refl h
theorem From.flush (h : ∀ p ∈ d.pend, P p.1 p.2) : From P d d.flush.1 := by
 unfold DM.flush
 split
 ·have hp := From.powered h
  refine hp.trans ⟨fun k => layAll_sec k _ _ hp.pnd, fun p hp => by cases hp⟩
 ·exact From.powered h
theorem From.pwrite {f c a : Nat} {b : List UInt8} (h : ∀ p ∈ d.pend, P p.1 p.2) (hb : P (f + a) b) : From P d (pwrite d ((f : Int), (c : Int)) (a : Int) b).1 := by
 unfold Go.Proofs.YtgilmcpdpggikaaGreatDoor.pwrite
 dsimp only
 split
 ·rename_i hz
  refine From.write h (fun _ => ?_)
  have e : (placeM (f : Int) (c : Int) (a : Int)).1 = ((f + a : Nat) : Int) := by
   unfold placeM at hz ⊢
   split at hz
   ·exact absurd hz (by simp)
   ·rename_i h1
    rw [if_neg h1]
    split at hz
    ·exact absurd hz (by simp)
    ·rename_i h2
     rw [if_neg h2]
     dsimp only
     omega
  rw [e, Int.toNat_natCast]
  exact hb
 ·exact From.refl h
theorem From.run {f c : Nat} : ∀ (l : List St) (d : DM), (∀ p ∈ d.pend, P p.1 p.2) → (∀ a b, St.w a b ∈ l → P (f + a) b) → From P d (run ((f : Int), (c : Int)) l d).1
 | [], d, h, _ => From.refl h
 | .w a b :: r, d, h, hl => by
  have h1 := From.pwrite (c := c) h (hl a b (by simp))
  rw [Go.Proofs.YtgilmcpdpggikaaGreatDoor.run]
  split
  ·exact h1.trans (From.run r _ h1.pnd (fun a' b' hm => hl a' b' (by simp [hm])))
  ·exact h1
 | .f :: r, d, h, hl => by
  have h1 := From.flush h
  rw [Go.Proofs.YtgilmcpdpggikaaGreatDoor.run]
  split
  ·exact h1.trans (From.run r _ h1.pnd (fun a' b' hm => hl a' b' (by simp [hm])))
  ·exact h1
end
theorem mem_wS {q : List (Nat × List UInt8)} {a : Nat} {b : List UInt8} (h : St.w a b ∈ wS q) : (a, b) ∈ q := by
 obtain ⟨p, hp, e⟩ := List.mem_map.1 h
 cases e
 exact hp
def MayW (f : Nat) (m : WL) (k : Nat) (b : List UInt8) : Prop := f ≤ k ∧ k < f + 52 ∧ (k < f + 2 → k = f + (m.epoch + 1) % 2 ∧ b = headB (m.epoch + 1) (1 - m.home))
theorem home_may {f : Nat} {m : WL} (hm : m.home ≤ 1) {a : Nat} {b : List UInt8} (h : St.w a b ∈ homeSteps (m.epoch + 1) (1 - m.home) m.pages) : MayW f m (f + a) b := by
 unfold homeSteps at h
 rw [homeFrom_eq] at h
 rcases List.mem_append.1 h with h | h
 ·obtain ⟨j, _, hj, e⟩ := hW_mem (mem_wS h)
  cases e
  exact ⟨by omega, by omega, fun h2 => absurd h2 (by omega)⟩
 ·rcases List.mem_cons.1 h with h | h
  ·cases h
  rcases List.mem_append.1 h with h | h
  ·have := mem_wS h
   rw [List.mem_singleton] at this
   cases this
   exact ⟨by omega, by omega, fun _ => ⟨rfl, rfl⟩⟩
  ·rcases List.mem_cons.1 h with h | h
   ·cases h
   ·cases h
theorem recs_may {f e u : Nat} {m : WL} {l : List Ch} (hu : u + l.length + 1 ≤ 18) {a : Nat} {b : List UInt8} (h : St.w a b ∈ recSteps e u l) : MayW f m (f + a) b := by
 rw [recSteps_eq] at h
 rcases List.mem_append.1 h with h | h
 ·obtain ⟨j, hj, e⟩ := rW_mem (mem_wS h)
  cases e
  exact ⟨by omega, by omega, fun h2 => absurd h2 (by omega)⟩
 ·rcases List.mem_cons.1 h with h | h
  ·cases h
  rcases List.mem_append.1 h with h | h
  ·have := mem_wS h
   rw [List.mem_singleton] at this
   cases this
   exact ⟨by omega, by omega, fun h2 => absurd h2 (by omega)⟩
  ·rcases List.mem_cons.1 h with h | h
   ·cases h
   ·cases h
theorem From.recM {f c : Nat} {m m0 : WL} {d : DM} {l : List Ch} (hp : ∀ p ∈ d.pend, MayW f m0 p.1 p.2) (hu : m.used + l.length + 1 ≤ 18) : From (MayW f m0) d (recM d ((f : Int), (c : Int)) m l).1 := by
 have h := From.run (c := c) (recSteps m.epoch m.used l) d hp (fun a b h => recs_may (m := m0) hu h)
 unfold Go.Proofs.YtgilmcpdpggikaaGreatDoor.recM
 split <;> exact h
theorem From.commit {f c : Nat} {m : WL} {d : DM} {l : List Ch} (hp : d.pend = []) (hm : m.home ≤ 1) : From (MayW f m) d (commitM d ((f : Int), (c : Int)) m l).1 := by
 have hp' : ∀ p ∈ d.pend, MayW f m p.1 p.2 := by rw [hp]; intro p h; cases h
 unfold commitM
 split
 ·exact From.refl hp'
 split
 ·exact From.refl hp'
 rename_i hv
 split
 ·exact From.refl hp'
 have hl : l.length ≤ 16 := by
  cases hq : validM l with
  | true => exact (validM_ok hq).1
  | false => exact absurd hq hv
 split
 ·split
  ·exact From.refl hp'
  ·have h := From.run (c := c) (homeSteps (m.epoch + 1) (1 - m.home) m.pages) d hp' (fun a b h => home_may hm h)
   split
   ·exact h.trans (From.recM h.pnd (by dsimp only; omega))
   ·exact h
 ·exact From.recM hp' (by omega)
theorem commit_out {f c : Nat} {m : WL} {d : DM} {l : List Ch} (hp : d.pend = []) (hm : m.home ≤ 1) {k : Nat} (hk : k < f ∨ f + 52 ≤ k) : (commitM d ((f : Int), (c : Int)) m l).1.sec k = d.sec k := by
 rcases (From.commit (f := f) (c := c) (l := l) hp hm).sec k with h | h
 ·exact h
 ·have := h.1; have := h.2.1; omega
theorem commit_ep {f c : Nat} {m m2 : WL} {d : DM} {l : List Ch} (h : LgC (secF f d) m) (hp : d.pend = []) (h2 : LgC (secF f (commitM d ((f : Int), (c : Int)) m l).1) m2) : m2.epoch ≤ m.epoch + 1 := by
 have hF := From.commit (f := f) (c := c) (l := l) hp h.home
 have hi : m2.epoch % 2 < 2 := Nat.mod_lt _ (by decide)
 have hh := h2.head
 have hc2 := cand_head h2.ep h2.home
 have hsec : ∀ k, secF f (commitM d ((f : Int), (c : Int)) m l).1 k = (commitM d ((f : Int), (c : Int)) m l).1.sec (f + k) := fun _ => rfl
 rcases hF.sec (f + m2.epoch % 2) with e | ⟨_, _, e⟩
 ·rw [hsec, e] at hh
  have hh' : secF f d (m2.epoch % 2) = headB m2.epoch m2.home := hh
  by_cases hm : m2.epoch % 2 = m.epoch % 2
  ·have hc1 := cand_head h.ep h.home
   rw [← h.head, ← hm, hh', hc2] at hc1
   have := (Prod.mk.inj (Option.some.inj hc1)).1
   omega
  ·have hm' : m2.epoch % 2 = 1 - m.epoch % 2 := by omega
   have := h.oth m2.epoch m2.home (by rw [← hm', hh', hc2])
   omega
 ·obtain ⟨e1, e2⟩ := e (by omega)
  rw [hsec, e2] at hh
  by_cases hb : m.epoch + 1 < 2 ^ 32
  ·have hc1 := cand_head hb (show 1 - m.home ≤ 1 by omega)
   rw [hh, show (m.epoch + 1) % 2 = m2.epoch % 2 by omega, hc2] at hc1
   have := (Prod.mk.inj (Option.some.inj hc1)).1
   omega
  ·have := h2.ep
   omega
theorem place_c {f c a : Nat} (ha : a < 52) (hc : 52 ≤ c) : placeM (f : Int) (c : Int) (a : Int) = placeM (f : Int) 52 (a : Int) := by
 unfold placeM
 have h1 : ¬ ((a : Int) < 0 ∨ (c : Int) ≤ a) := by omega
 have h2 : ¬ ((a : Int) < 0 ∨ (52 : Int) ≤ a) := by omega
 rw [if_neg h1, if_neg h2]
theorem pread_c {d : DM} {f c a : Nat} (ha : a < 52) (hc : 52 ≤ c) : pread d ((f : Int), (c : Int)) (a : Int) = pread d ((f : Int), 52) (a : Int) := by
 unfold pread
 dsimp only
 rw [place_c ha hc]
theorem pwrite_c {d : DM} {f c a : Nat} {b : List UInt8} (ha : a < 52) (hc : 52 ≤ c) : pwrite d ((f : Int), (c : Int)) (a : Int) b = pwrite d ((f : Int), 52) (a : Int) b := by
 unfold pwrite
 dsimp only
 rw [place_c ha hc]
theorem run_c {f c : Nat} (hc : 52 ≤ c) : ∀ (l : List St) (d : DM), (∀ a b, St.w a b ∈ l → a < 52) → run ((f : Int), (c : Int)) l d = run ((f : Int), 52) l d
 | [], d, _ => rfl
 | .w a b :: r, d, h => by
  rw [run, run, pwrite_c (h a b (by simp)) hc]
  split
  ·exact run_c hc r _ (fun a' b' hm => h a' b' (by simp [hm]))
  ·rfl
 | .f :: r, d, h => by
  rw [run, run]
  split
  ·exact run_c hc r _ (fun a' b' hm => h a' b' (by simp [hm]))
  ·rfl
theorem commit_c {f c : Nat} (hc : 52 ≤ c) {m : WL} {d : DM} {l : List Ch} (hm : m.home ≤ 1) : commitM d ((f : Int), (c : Int)) m l = commitM d ((f : Int), 52) m l := by
 have hr : ∀ (m : WL) (d : DM), m.used + l.length + 1 ≤ 18 → recM d ((f : Int), (c : Int)) m l = recM d ((f : Int), 52) m l := fun m d hu => by
  unfold recM
  rw [run_c hc _ _ (fun a b h => by have := (recs_may (f := 0) (m := m) hu h).2.1; omega)]
 unfold commitM
 split
 ·rfl
 split
 ·rfl
 rename_i hv
 split
 ·rfl
 have hl : l.length ≤ 16 := by
  cases hq : validM l with
  | true => exact (validM_ok hq).1
  | false => exact absurd hq hv
 split
 ·split
  ·rfl
  ·rw [run_c hc _ _ (fun a b h => by have := (home_may (f := 0) hm h).2.1; omega)]
   split
   ·exact hr _ _ (by dsimp only; omega)
   ·rfl
 ·exact hr _ _ (by omega)
theorem WInv.opens_c {N f c : Nat} {d : DM} {m : WL} (h : WInv N f d m) (hf : f + 52 ≤ N) (hN : N ≤ 1000) (hc : 52 ≤ c) : openM d ((f : Int), (c : Int)) = (some m, 0) ∧ ∀ k : Nat, k < 52 → (pread d ((f : Int), (c : Int)) (k : Int)).2 = 0 := by
 obtain ⟨h1, h2⟩ := h.opens hf hN
 refine ⟨?_, fun k hk => by rw [pread_c hk hc]; exact h2 k hk⟩
 refine h.log.opens (fun k hk => ?_)
 unfold sec
 rw [pread_c hk hc]
 have hr : pread d ((f : Int), 52) (k : Int) = (d.cur (f + k), 0) := by
  have e : placeM (f : Int) 52 (k : Int) = (((f + k : Nat) : Int), 0) := place_inN (c := 52) hk (by omega)
  have hib : d.inB ((f + k : Nat) : Int) = true := by simp only [DM.inB, decide_eq_true_eq]; rw [h.len]; omega
  unfold pread
  simp only
  rw [e]
  simp only [if_true]
  unfold DM.read
  rw [if_pos hib, if_neg (by rw [h.off]; decide), Int.toNat_natCast]
 rw [hr, cur_nil h.pend]
 rfl
def pgsOf (ps : List UInt8) : List (List UInt8) := (List.range 16).map (getP ps)
theorem pgsOf_len (ps : List UInt8) : (pgsOf ps).length = 16 := by simp [pgsOf]
theorem pgsOf_get {ps : List UInt8} {i : Nat} (h : i < 16) : (pgsOf ps)[i]?.getD [] = getP ps i := by
 unfold pgsOf
 rw [List.getElem?_map, List.getElem?_range h]; rfl
theorem getP_setP {ps b : List UInt8} {p i : Nat} (hl : ps.length = 640) (hb : b.length = 40) (hp : p < 16) (hi : i < 16) : getP (setP ps p b) i = if i = p then b else getP ps i := by
 unfold getP setP
 have ht : (ps.take (p * 40)).length = p * 40 := by rw [List.length_take]; omega
 by_cases h : i = p
 ·subst h
  rw [if_pos rfl, List.drop_left' ht]
  exact List.take_left' hb
 ·rw [if_neg h]
  by_cases h2 : i < p
  ·rw [List.drop_append_of_le_length (by omega), List.take_append_of_le_length (by rw [List.length_drop]; omega), List.drop_take, List.take_take, Nat.min_eq_left (by omega)]
  ·rw [List.drop_append, List.drop_eq_nil_of_le (by omega), List.nil_append, ht, List.drop_append, List.drop_eq_nil_of_le (by omega), List.nil_append, hb, List.drop_drop]
   congr 2
   omega
def fmtQ : List (Nat × List UInt8) := (List.range' 0 18).map (fun i => (34 + i, z64)) ++ hW 1 0 z640 16 0
theorem formatSteps_eq : formatSteps = wS fmtQ ++ .f :: (wS [(1, headB 1 0)] ++ .f :: []) := by
 have h1 : formatSteps = wS ((List.range' 0 18).map (fun i => (34 + i, z64))) ++ homeSteps 1 0 z640 := rfl
 rw [h1, homeSteps, homeFrom_eq, ← List.append_assoc]
 have h2 : ∀ a b, wS (a ++ b) = wS a ++ wS b := fun a b => List.map_append
 rw [fmtQ, h2]
theorem fmtQ_mem {p : Nat × List UInt8} (hp : p ∈ fmtQ) : (∃ i, i < 18 ∧ p = (34 + i, z64)) ∨ ∃ i, i < 16 ∧ p = (2 + i, pageB 1 i z640) := by
 rcases List.mem_append.1 hp with h | h
 ·obtain ⟨i, hi, rfl⟩ := List.mem_map.1 h
  have := List.mem_range'_1.1 hi
  exact .inl ⟨i, by omega, rfl⟩
 ·obtain ⟨i, _, hi, rfl⟩ := hW_mem h
  exact .inr ⟨i, by omega, by simp⟩
theorem rec_z64 (e k : Nat) : recStep z64 e k = none := by
 have h1 : decW 82 42 z64 = none := by decide +kernel
 have h2 : decW 67 1 z64 = none := by decide +kernel
 unfold recStep
 rw [h1, h2]
theorem cand_z64 : candW z64 0 = none := by decide +kernel
theorem fmt_inv {f : Nat} (hf : f ≤ 8) : WInv 60 f (fmtD f) awM := by
 have hfree := (fmt_free (f := f) (by omega)).1
 have hD : fmtD f = (run ((f : Int), 52) formatSteps (DM.new 60)).1 := rfl
 rw [formatSteps_eq] at hfree hD
 have hnl : (DM.new 60).secs.length = 60 := by simp [DM.new]
 have hok : ∀ p ∈ fmtQ, p.1 < 52 ∧ p.2.length = 64 := fun p hp => by
  rcases fmtQ_mem hp with ⟨i, hi, rfl⟩ | ⟨i, hi, rfl⟩
  ·exact ⟨by dsimp only; omega, rfl⟩
  ·exact ⟨by dsimp only; omega, secW_len (by rw [List.length_append, getP_len (ps := z640) List.length_replicate (by omega)]; simp)⟩
 have hok2 : ∀ p ∈ [(1, headB 1 0)], p.1 < 52 ∧ p.2.length = 64 := fun p hp => by
  rw [List.mem_singleton] at hp
  subst hp
  exact ⟨by decide, secW_len (by simp)⟩
 rcases run_phase (N := 60) (f := f) (by omega) (by decide) (wS [(1, headB 1 0)] ++ .f :: []) fmtQ (DM.new 60) rfl hnl hok with ⟨d1, a1, a2, a3, a4⟩ | ⟨d1, _, a4⟩
 rotate_left
 ·rw [a4] at hfree; exact absurd hfree (by dsimp only; decide)
 rw [a4] at hfree hD
 have a3' : d1.secs = layAll (DM.new 60).secs ([] ++ wP f fmtQ) := a3
 have hl1 : d1.secs.length = 60 := by rw [a3', layAll_len]; exact hnl
 rcases run_phase (N := 60) (f := f) (by omega) (by decide) [] [(1, headB 1 0)] d1 a1 hl1 hok2 with ⟨d2, b1, b2, b3, b4⟩ | ⟨d2, _, b4⟩
 rotate_left
 ·rw [b4] at hfree; exact absurd hfree (by dsimp only; decide)
 rw [b4] at hD
 rw [a2] at b3
 have hl2 : d2.secs.length = 60 := by rw [b3, layAll_len]; exact hl1
 have hD2 : fmtD f = d2 := hD
 rw [hD2]
 have h34 : ∀ j, j < 18 → secF f d2 (34 + j) = z64 := fun j hj => by
  refine lay_in b3 hl1 (by omega) (fun p hp e => ?_) (.inr ?_)
  ·rw [List.mem_singleton] at hp; subst hp; dsimp only at e; omega
  refine lay_in a3' hnl (by omega) (fun p hp e => ?_) (.inl ⟨(34 + j, z64), List.mem_append_left _ (List.mem_map.2 ⟨j, List.mem_range'_1.2 ⟨Nat.zero_le _, by omega⟩, rfl⟩), rfl⟩)
  rcases fmtQ_mem hp with ⟨i, hi, rfl⟩ | ⟨i, hi, rfl⟩
  ·rfl
  ·dsimp only at e; omega
 have hpg : ∀ i, i < 16 → secF f d2 (2 + i) = pageB 1 i z640 := fun i hi => by
  refine lay_in b3 hl1 (by omega) (fun p hp e => ?_) (.inr ?_)
  ·rw [List.mem_singleton] at hp; subst hp; dsimp only at e; omega
  refine lay_in a3' hnl (by omega) (fun p hp e => ?_) (.inl ⟨(2 + 16 * 0 + i, pageB 1 i z640), List.mem_append_right _ (hW_has (Nat.zero_le _) (by omega)), by simp⟩)
  rcases fmtQ_mem hp with ⟨j, hj, rfl⟩ | ⟨j, hj, rfl⟩
  ·dsimp only at e; omega
  ·dsimp only at e
   have : j = i := by omega
   subst this; rfl
 have h0 : secF f d2 0 = z64 := by
  refine lay_in b3 hl1 (by omega) (fun p hp e => ?_) (.inr ?_)
  ·rw [List.mem_singleton] at hp; subst hp; dsimp only at e; omega
  refine lay_in a3' hnl (by omega) (fun p hp e => ?_) (.inr ?_)
  ·rcases fmtQ_mem hp with ⟨j, hj, rfl⟩ | ⟨j, hj, rfl⟩ <;> (dsimp only at e; omega)
  ·unfold secF DM.new
   simp only [List.getElem?_replicate]
   rw [if_pos (by omega)]; rfl
 refine ⟨b1, b2, hl2, ⟨by decide, by decide, by decide, List.length_replicate, rfl, ?_, fun e' h' hc => ?_, ⟨z640, List.length_replicate, fun i hi => ?_, ?_⟩, fun k e' hk _ => ?_, fun k _ hk => ?_⟩⟩
 ·exact lay_in b3 hl1 (by show f + 1 < 60; omega) (fun p hp e => by rw [List.mem_singleton] at hp; subst hp; rfl) (.inl ⟨_, List.mem_singleton.2 rfl, rfl⟩)
 ·have hc' : candW (secF f d2 0) 0 = some (e', h') := hc
  rw [h0, cand_z64] at hc'
  cases hc'
 ·exact hpg i hi
 ·exact recsC_end 18 0 z640 0 [] (fun j _ hj => by rw [h34 j (by omega), rec_z64]; simp)
 ·rw [h34 k hk, rec_z64]; simp
 ·rw [h34 k hk, rec_z64]; simp
theorem arm_off {d : DM} (n : Int) (sv : List Bool) : (d.arm n sv).off = d.off ∧ (d.arm n sv).secs = d.secs ∧ (d.arm n sv).pend = d.pend := by
 unfold DM.arm DM.disarm
 split
 ·exact ⟨rfl, rfl, rfl⟩
 ·split <;> exact ⟨rfl, rfl, rfl⟩
theorem secF_congr {f : Nat} {d d' : DM} (h : d'.secs = d.secs) : secF f d' = secF f d := by funext k; unfold secF; rw [h]
theorem WInv.arm {N f : Nat} {d : DM} {m : WL} (h : WInv N f d m) (n : Int) (sv : List Bool) : WInv N f (d.arm n sv) m := by
 obtain ⟨h1, h2, h3⟩ := arm_off (d := d) n sv
 exact ⟨h1.trans h.off, h3.trans h.pend, by rw [h2]; exact h.len, by rw [secF_congr h2]; exact h.log⟩
theorem WInv.powered {N f : Nat} {d : DM} {m : WL} (h : LgC (secF f d) m) (hl : d.secs.length = N) : WInv N f d.power m := ⟨rfl, rfl, hl, h⟩
section
variable {s : Ro} {w : World} {R : List Asn}
end
end Go.Proofs.YtgilmcpdpggikaaGreatDoor
namespace Go.Own
open Go Go.RowKit
section
variable {P : Program} {n : Nat} {ops : Array Oper} {Q : Post} {rest : List Oper} {e : Env} {w w' : World} {s : Ro} {rs : List Asn} {tt : Nat} {pp : String} {af : Array Edge} {g : Option (Nat × Bool)} {d : Nat}
end
end Go.Own
namespace Go.Proofs.YtgilmcpdpggikaaGreatDoor
open Go Go.RowKit Go.Own
section
variable {s : Ro} {w : World} {R : List Asn}
theorem calm_inv {N f : Nat} {d : DM} {m : WL} (h : LgC (secF f d) m) (hl : d.secs.length = N) : WInv N f (d.arm (-1) []).power m := by
 obtain ⟨c1, c2, c3, c4⟩ := calm_facts d
 exact ⟨c1, c3, by rw [show (d.arm (-1) []).power = calmD d from rfl, c4]; exact hl, by rw [secF_congr (d := d) (d' := (d.arm (-1) []).power) c4]; exact h⟩
end
def blankL (l : List Str) : Bool := l.all fun p => p.all fun c => decide (c = 0)
def treeOf (ps : List UInt8) : TR × Int := if blankL (pgsOf ps) = true then (TR.new, 0) else parseM (pgsOf ps)
def pgT (t : TR) (i : Nat) : Str := (pagesM t)[i]?.getD []
def chgTo (ps : List UInt8) (t : TR) (k : Nat) : List Ch := ((List.range k).filter fun i => decide (getP ps i ≠ pgT t i)).map fun (i : Nat) => (⟨(i : Int), pgT t i⟩ : Ch)
def chgM (ps : List UInt8) (t : TR) : List Ch := chgTo ps t 16
def flatT (t : TR) : List UInt8 := (pagesM t).flatten
theorem chgTo_succ (ps : List UInt8) (t : TR) (k : Nat) : chgTo ps t (k + 1) = if getP ps k = pgT t k then chgTo ps t k else chgTo ps t k ++ [⟨(k : Int), pgT t k⟩] := by
 unfold chgTo
 rw [List.range_succ, List.filter_append, List.map_append]
 by_cases h : getP ps k = pgT t k
 ·rw [if_pos h]; simp [h]
 ·rw [if_neg h]; simp [h]
theorem chgTo_le (ps : List UInt8) (t : TR) (k : Nat) : (chgTo ps t k).length ≤ k := by
 unfold chgTo
 rw [List.length_map]
 have := List.length_filter_le (fun i => decide (getP ps i ≠ pgT t i)) (List.range k)
 rw [List.length_range] at this
 exact this
theorem pgT_len {t : TR} (ht : t.Ok) (hc : checkM t = true) {i : Nat} (hi : i < 16) : (pgT t i).length = 40 := by
 have h16 := pages_len ht hc
 unfold pgT
 rw [List.getElem?_eq_getElem (by rw [h16]; exact hi)]
 exact pages_40 ht hc _ (List.getElem_mem _)
theorem chgTo_ok {t : TR} (ht : t.Ok) (hc : checkM t = true) (ps : List UInt8) {k : Nat} (hk : k ≤ 16) : ∀ c ∈ chgTo ps t k, c.Ok := by
 intro c hm
 unfold chgTo at hm
 obtain ⟨i, hi, rfl⟩ := List.mem_map.1 hm
 have hi2 := List.mem_range.1 (List.mem_filter.1 hi).1
 refine ⟨?_, ?_, ?_⟩
 ·dsimp only; omega
 ·dsimp only; omega
 ·exact pgT_len ht hc (by omega)
theorem chg_valid {t : TR} (ht : t.Ok) (hc : checkM t = true) (ps : List UInt8) : validM (chgM ps t) = true := by
 unfold validM
 rw [Bool.and_eq_true, decide_eq_true_eq, List.all_eq_true]
 refine ⟨chgTo_le _ _ _, fun c hm => decide_eq_true ?_⟩
 exact chgTo_ok ht hc ps (Nat.le_refl _) c hm
theorem getP_get {ps : List UInt8} {n : Nat} : ps[n]? = (getP ps (n / 40))[n % 40]? := by
 unfold getP
 rw [List.getElem?_take, if_pos (Nat.mod_lt _ (by decide)), List.getElem?_drop]
 congr 1
 omega
theorem getP_ext {p q : List UInt8} (hp : p.length = 640) (hq : q.length = 640) (h : ∀ i, i < 16 → getP p i = getP q i) : p = q := by
 refine List.ext_getElem? (fun n => ?_)
 by_cases hn : n < 640
 ·rw [getP_get, h _ (by omega), ← getP_get]
 ·rw [List.getElem?_eq_none (by omega), List.getElem?_eq_none (by omega)]
theorem getP_flat : ∀ {l : List Str} {i : Nat}, (∀ p ∈ l, p.length = 40) → i < l.length → getP l.flatten i = l[i]?.getD []
 | [], i, _, h => absurd h (Nat.not_lt_zero _)
 | p :: l, 0, hl, h => by
  unfold getP
  rw [List.flatten_cons, Nat.zero_mul, List.drop_zero, List.take_left' (hl p (by simp))]
  rfl
 | p :: l, i + 1, hl, h => by
  have h40 := hl p (by simp)
  have := getP_flat (l := l) (i := i) (fun q hq => hl q (by simp [hq])) (by simpa using h)
  rw [List.getElem?_cons_succ, ← this]
  unfold getP
  rw [List.flatten_cons, List.drop_append, List.drop_eq_nil_of_le (by omega), List.nil_append, h40, show (i + 1) * 40 - 40 = i * 40 by omega]
theorem flat_len : ∀ {l : List Str}, (∀ p ∈ l, p.length = 40) → l.flatten.length = 40 * l.length
 | [], _ => rfl
 | p :: l, hl => by
  rw [List.flatten_cons, List.length_append, flat_len (fun q hq => hl q (by simp [hq])), hl p (by simp), List.length_cons]
  omega
section
variable {t : TR} {ps : List UInt8}
theorem flatT_len (ht : t.Ok) (hc : checkM t = true) : (flatT t).length = 640 := by
 unfold flatT
 rw [flat_len (pages_40 ht hc), pages_len ht hc]
theorem getP_flatT (ht : t.Ok) (hc : checkM t = true) {i : Nat} (hi : i < 16) : getP (flatT t) i = pgT t i := getP_flat (pages_40 ht hc) (by rw [pages_len ht hc]; exact hi)
theorem applyL_snoc (ps : List UInt8) (l : List Ch) (c : Ch) : applyL ps (l ++ [c]) = setP (applyL ps l) c.page.toNat c.data := by
 unfold applyL
 rw [List.foldl_append]; rfl
theorem apply_to (ht : t.Ok) (hc : checkM t = true) (hl : ps.length = 640) : ∀ k, k ≤ 16 → ∀ i, i < 16 → getP (applyL ps (chgTo ps t k)) i = if i < k then pgT t i else getP ps i
 | 0, _, i, _ => by rw [if_neg (Nat.not_lt_zero _)]; rfl
 | k + 1, hk, i, hi => by
  have ih := apply_to ht hc hl k (by omega) i hi
  have hlen := applyL_len (chgTo_ok ht hc ps (show k ≤ 16 by omega)) hl
  rw [chgTo_succ]
  by_cases h : getP ps k = pgT t k
  ·rw [if_pos h, ih]
   by_cases hik : i = k
   ·subst hik; rw [if_neg (Nat.lt_irrefl _), if_pos (by omega), h]
   ·by_cases h2 : i < k
    ·rw [if_pos h2, if_pos (by omega)]
    ·rw [if_neg h2, if_neg (by omega)]
  ·rw [if_neg h, applyL_snoc]
   dsimp only
   rw [Int.toNat_natCast, getP_setP hlen (pgT_len ht hc (by omega)) (by omega) hi, ih]
   by_cases hik : i = k
   ·subst hik; rw [if_pos rfl, if_pos (by omega)]
   ·rw [if_neg hik]
    by_cases h2 : i < k
    ·rw [if_pos h2, if_pos (by omega)]
    ·rw [if_neg h2, if_neg (by omega)]
theorem apply_chg (ht : t.Ok) (hc : checkM t = true) (hl : ps.length = 640) : applyL ps (chgM ps t) = flatT t := by
 refine getP_ext (applyL_len (chgTo_ok ht hc ps (Nat.le_refl _)) hl) (flatT_len ht hc) (fun i hi => ?_)
 have := apply_to ht hc hl 16 (Nat.le_refl _) i hi
 rw [if_pos hi] at this
 exact this.trans (getP_flatT ht hc hi).symm
theorem next_chg (ht : t.Ok) (hc : checkM t = true) (hl : ps.length = 640) : nextL ps (chgM ps t) = flatT t := by
 unfold nextL
 rw [if_pos (chg_valid ht hc ps), apply_chg ht hc hl]
theorem chg_nil (ht : t.Ok) (hc : checkM t = true) (hl : ps.length = 640) (h : (chgM ps t).length = 0) : ps = flatT t := by
 have := apply_chg ht hc hl
 rw [List.length_eq_zero_iff.1 h] at this
 exact this
theorem pgsOf_flat (ht : t.Ok) (hc : checkM t = true) : pgsOf (flatT t) = pagesM t := by
 refine List.ext_getElem? (fun i => ?_)
 by_cases hi : i < 16
 ·have h1 := getP_flatT ht hc hi
  unfold pgsOf
  rw [List.getElem?_map, List.getElem?_range hi, Option.map_some, h1, pgT, List.getElem?_eq_getElem (by rw [pages_len ht hc]; exact hi)]
  rfl
 ·rw [List.getElem?_eq_none (by rw [pgsOf_len]; omega), List.getElem?_eq_none (by rw [pages_len ht hc]; omega)]
theorem blank_pages (ht : t.Ok) (hc : checkM t = true) : blankL (pagesM t) = false := by
 have h0 := (check_iff.1 hc).1
 have hp : (pagesM t)[0]? = some (pageM (t.n 0)) := by
  rw [pages_eq hc, List.getElem?_append_left (by rw [List.length_map, ht.n8]; decide), List.getElem?_map, TR.n_eq ht (by decide)]; rfl
 have hm : pageM (t.n 0) ∈ pagesM t := List.mem_of_getElem? hp
 unfold blankL
 cases hq : (pagesM t).all (fun p => p.all fun c => decide (c = 0)) with
 | false => rfl
 | true =>
  rw [List.all_eq_true] at hq
  have := hq _ hm
  rw [h0] at this
  exact absurd this (by decide)
theorem tree_flat (ht : t.Ok) (hc : checkM t = true) : treeOf (flatT t) = (t, 0) := by
 unfold treeOf
 rw [pgsOf_flat ht hc, blank_pages ht hc, if_neg (by decide), parse_pages ht hc]
theorem tree_blank : treeOf z640 = (TR.new, 0) := by
 unfold treeOf
 rw [show blankL (pgsOf z640) = true by decide +kernel, if_pos rfl]
def syncM (d : DM) (x : Ext) (m : WL) (t : TR) : DM × WL × Int := if (chgM m.pages t).length = 0 then (d, m, if m.dead = true then 9 else 0) else commitM d x m (chgM m.pages t)
theorem commit_code {N f : Nat} {d : DM} {m : WL} {l : List Ch} (h : WInv N f d m) (hf : f + 52 ≤ N) (hN : N ≤ 1000) (hv : validM l = true) (he : m.epoch ≠ 4294967295) : (commitM d ((f : Int), 52) m l).2.2 = 0 ∨ (commitM d ((f : Int), 52) m l).2.2 = 9 := by
 have hd := h.log.dead
 unfold commitM
 rw [if_neg (by rw [hd]; decide), if_neg (by rw [hv]; decide)]
 obtain ⟨hv16, hok⟩ := validM_ok hv
 by_cases hl : l.length = 0
 ·rw [if_pos hl]; exact .inl rfl
 rw [if_neg hl]
 by_cases hfull : 18 < m.used + l.length + 1
 ·rw [if_pos hfull, if_neg he]
  rcases h.home hf hN he with ⟨h1, h2⟩ | ⟨h1, h2, m2, h3, h4⟩
  ·rw [if_pos h1]
   exact (h2.recM hf hN hv (by dsimp only; omega)).imp (·.1) (·.1)
  ·rw [if_neg (by rw [h1]; decide)]; exact .inr h1
 ·rw [if_neg hfull]
  exact (h.recM hf hN hv (by omega)).imp (·.1) (·.1)
def SEnds (N f : Nat) (m : WL) (t : TR) (r : DM × WL × Int) : Prop :=
 (r.2.2 = 0 ∧ WInv N f r.1 r.2.1 ∧ r.2.1.pages = flatT t ∧ r.2.1.epoch ≤ m.epoch + 1) ∨
 (r.2.2 = 9 ∧ WOff N f r.1 ∧ r.2.1.pages.length = 640 ∧ ∃ m2, (m2.pages = m.pages ∨ m2.pages = flatT t) ∧ LgC (secF f r.1) m2 ∧ m2.epoch ≤ m.epoch + 1)
theorem sync_ends {N f c : Nat} {d : DM} {m : WL} (ht : t.Ok) (hc : checkM t = true) (h : WInv N f d m) (hf : f + 52 ≤ N) (hN : N ≤ 1000) (h52 : 52 ≤ c) (he : m.epoch ≠ 4294967295) : SEnds N f m t (syncM d ((f : Int), (c : Int)) m t) := by
 have hn := next_chg ht hc h.log.plen
 unfold syncM
 by_cases hl : (chgM m.pages t).length = 0
 ·rw [if_pos hl]
  refine .inl ⟨?_, h, chg_nil ht hc h.log.plen hl, by dsimp only; omega⟩
  dsimp only
  rw [if_neg (by rw [h.log.dead]; decide)]
 rw [if_neg hl, commit_c h52 h.log.home]
 have hv := chg_valid ht hc m.pages
 have hcode := commit_code h hf hN hv he
 rcases h.commit (chgM m.pages t) hf hN with ⟨h1, h2, h3⟩ | ⟨h1, _, _⟩ | ⟨h1, h2, h3, h4, m2, h5, h6⟩
 ·exact .inl ⟨h1, h2, h3.trans hn, commit_ep h.log h.pend h2.log⟩
 ·rcases hcode with h | h <;> rcases h1 with k | k <;> rw [h] at k <;> cases k
 ·exact .inr ⟨h1, h2, h4, m2, by rw [← hn]; exact h5, h6, commit_ep h.log h.pend h6⟩
end
abbrev logM (bL bp : Nat) (m : WL) : Asn := logW bL bp m.epoch m.home m.used m.pages m.dead
theorem build_fs (bL : Nat) (q : Int) (w : World) : (Instr.build 102 [(0, .pointer (some ⟨bL, 0, none⟩)), (2, .int .i64 q)].toArray).run Tryz.prog w = .ok (.agg (fsC bL TR.zero q (List.replicate 4 Hd.zero)).toArray) w := by kernel_rfl
theorem pgs_get {s : Ro} {vl : List Value} {l : List Str} {a : Option Addr} {n c : Nat} (h : SlS s (.slice a n c) 1 n vl) (hv : PgsV s vl l) (hn : n = l.length) : ∀ (i : Nat) (hi : i < l.length), ∃ (gb o : Nat) (ai : Option Addr) (ci : Nat), a = some ⟨gb, o, none⟩ ∧ Pin s gb (o + i * 1) (.slice ai (l[i]).length ci) ∧ SlS s (.slice ai (l[i]).length ci) 1 (l[i]).length (u8s l[i]) := by
 intro i hi
 subst hn
 obtain ⟨gb, o, c', hv', _, _, hpn⟩ := posS h (by omega) (by decide)
 cases hv'
 obtain ⟨ai, ci, h1, h2⟩ := hv.2 i l[i] (List.getElem?_eq_getElem hi)
 exact ⟨gb, o, ai, ci, rfl, by rw [Nat.mul_one]; exact hpn i _ h1, h2⟩
section
variable {w : World} {s : Ro} {R : List Asn} {bF bL bp : Nat} {t : TR} {q : Int} {hs : List Hd}
theorem stored_f {e h u : Nat} {ps : List UInt8} {dd : Bool} (H : Holds s w (fsV bF bL t q hs :: logW bL bp e h u ps dd :: R)) (hl : ps.length = 640) : Calls Tryz.prog 54 #[.pointer (some ⟨bF, 0, none⟩)] w fun y w' => ∃ (s' : Ro) (g : Nat) (vl : List Value), y = .returned (.slice (some ⟨g, 0, none⟩) 16 16) ∧ s.Le s' ∧ PgsV s' vl (pgsOf ps) ∧ Holds s' w' (row 30 1 (.slice (some ⟨g, 0, none⟩) 16 16) 16 vl :: fsV bF bL t q hs :: logW bL bp e h u ps dd :: R) := by
 refine enter Tryz.func54 rfl Tryz.ntmps54 rfl ?_
 refine Gq7 H ?_
 refine K.make (k := 16) (m := 16) H rfl rfl rfl rfl rfl (by decide) (by decide) (by decide) ?_
 clear H
 intro g1 w H
 rw [rep_flat] at H
 refine Gq7 H ?_
 have H' : Holds s w (row 30 1 (.slice (some ⟨g1, 0, none⟩) 16 16) 16 ([] ++ List.replicate (16 - 0) (.slice none 0 0)) :: fsV bF bL t q hs :: logW bL bp e h u ps dd :: R) := H
 clear H
 refine C.loopS [4, 8, 9, 10, 11, 12, 13, 14, 15, 16, 17, 18, 19, 20, 21, 22, 23] [8] rfl (fun k vs w => ∃ (i : Nat) (s' : Ro) (vl : List Value), k = 16 - i ∧ i ≤ 16 ∧ vs = [.int .i64 (i : Int)] ∧ s.Le s' ∧ PgsV s' vl ((List.range i).map (getP ps)) ∧ Holds s' w (row 30 1 (.slice (some ⟨g1, 0, none⟩) 16 16) 16 (vl ++ List.replicate (16 - i) (.slice none 0 0)) :: fsV bF bL t q hs :: logW bL bp e h u ps dd :: R)) 16 ⟨0, s, [], rfl, Nat.zero_le _, rfl, Ro.Le.refl _, PgsV.nil, H'⟩ ?_
 clear H'
 rintro k vs hv w ⟨i, s1, vl, rfl, hi, rfl, hs1, hpg, H⟩
 have hvl : vl.length = i := by rw [hpg.1, List.length_map, List.length_range]
 by_cases hlt : i < 16
 ·have hrl : (vl ++ List.replicate (16 - i) (Value.slice none 0 0)).length = 16 := by rw [List.length_append, hvl, List.length_replicate]; omega
  refine Gq7 H ?_
  replace H := H.arr (rs' := logW bL bp e h u ps dd :: row 30 1 (.slice (some ⟨g1, 0, none⟩) 16 16) 16 (vl ++ List.replicate (16 - i) (.slice none 0 0)) :: fsV bF bL t q hs :: R)
  (refine X.call (Page_l (n := i) H hl hlt) ?_; (try clear H); rintro _ w ⟨g2, rfl, H⟩; refine ⟨_, rfl, ?_⟩)
  obtain ⟨s2, hs2, H', hS⟩ := H.fixRow
  clear H
  have H := H'
  clear H'
  have hl0 : 0 + i * 1 < (vl ++ List.replicate (16 - i) (Value.slice none 0 0)).length := by omega
  have hst := setMid (l := vl) (z := Value.slice none 0 0) (x := .slice (some ⟨g2, 0, none⟩) (getP ps i).length 40) (k := 16 - i) hvl (by omega)
  have hpg2 : PgsV s2 (vl ++ [.slice (some ⟨g2, 0, none⟩) (getP ps i).length 40]) ((List.range (i + 1)).map (getP ps)) := by
   rw [List.range_succ, List.map_append]
   exact (hpg.mono hs2).snoc hS
  generalize getP ps i = pg at *
  repeat' (first | (refine X.rst H ?_ (hl := hl0); clear H; (try clear w); intro w H) | refine Go7 H ?_ | (refine Gs7 H ?_; clear H; (try clear w); intro w H) | (refine Gn H ?_; clear H; (try clear w); intro _ w H))
  rw [show 0 + i * 1 = i by omega, hst] at H
  have H' := H.arr (rs' := row 30 1 (.slice (some ⟨g1, 0, none⟩) 16 16) 16 (vl ++ [.slice (some ⟨g2, 0, none⟩) pg.length 40] ++ List.replicate (16 - (i + 1)) (.slice none 0 0)) :: fsV bF bL t q hs :: logW bL bp e h u ps dd :: R)
  exact ⟨agr, 16 - (i + 1), by omega, i + 1, s2, vl ++ [.slice (some ⟨g2, 0, none⟩) pg.length 40], rfl, by omega, rfl, hs1.trans hs2, hpg2, H'⟩
 ·have hie : i = 16 := by omega
  subst hie
  rw [Nat.sub_self, List.replicate_zero, List.append_nil] at H
  refine Gq7 H ?_
  exact ⟨_, resT rfl, s1, g1, vl, rfl, hs1, hpg, H⟩
theorem blank_f {l : List Str} {vl : List Value} {a : Option Addr} {c : Nat} (H : Holds s w R) (h : SlS s (.slice a l.length c) 1 l.length vl) (hv : PgsV s vl l) (hl : l.length ≤ 1000) (hp : ∀ p ∈ l, p.length ≤ 1000) : Calls Tryz.prog 55 #[.slice a l.length c] w fun y w' => y = .returned (.bool (blankL l)) ∧ Holds s w' R := by
 have hel := pgs_get h hv rfl
 refine enter Tryz.func55 rfl Tryz.ntmps55 rfl ?_
 refine Gq7 H ?_
 refine C.loopH H [2, 4, 6, 9, 10, 11, 12, 13, 14, 15, 16, 17, 18, 19, 20, 21, 22] [9] rfl (fun k vs => ∃ i : Nat, k = l.length - i ∧ i ≤ l.length ∧ vs = [.int .i64 (i : Int)] ∧ blankL (l.take i) = true) l.length ⟨0, rfl, Nat.zero_le _, rfl, rfl⟩ ?_
 clear H
 rintro k vs hv1 w ⟨i, rfl, hi, rfl, hb⟩ H
 by_cases hlt : i < l.length
 ·obtain ⟨gb, o, ai, ci, rfl, pn, hsl⟩ := hel i hlt
  have hpl := hp l[i] (List.getElem_mem hlt)
  have hsu : blankL (l.take (i + 1)) = (l[i]).all fun c => decide (c = 0) := by
   unfold blankL at hb ⊢
   rw [List.take_succ_eq_append_getElem hlt, List.all_append, hb]; simp
  have hbad : ((l[i]).all fun c => decide (c = 0)) = false → blankL l = false := fun hh => by
   unfold blankL
   cases hq : l.all (fun p => p.all fun c => decide (c = 0)) with
   | false => rfl
   | true => rw [List.all_eq_true] at hq; have := hq l[i] (List.getElem_mem hlt); rw [hh] at this; cases this
  generalize l[i] = p at *
  refine Gq7 H ?_
  refine C.loopH H [2, 6, 15, 16, 17, 18, 19, 20, 21] [15] rfl (fun k vs => ∃ j : Nat, k = p.length - j ∧ j ≤ p.length ∧ vs = [.int .i64 (j : Int)] ∧ ((p.take j).all fun c => decide (c = 0)) = true) p.length ⟨0, rfl, Nat.zero_le _, rfl, rfl⟩ ?_
  clear H
  rintro k vs hv2 w ⟨j, rfl, hj, rfl, hb2⟩ H
  by_cases hjl : j < p.length
  ·obtain ⟨g2, o2, c2, hv', _, _, hpn⟩ := posS hsl (by omega) (by decide)
   cases hv'
   have p2 : Pin s g2 (o2 + j * 1) (u8 p[j]) := by
    rw [Nat.mul_one]
    exact hpn j _ (by unfold u8s; rw [List.getElem?_map, List.getElem?_eq_getElem hjl]; rfl)
   have hsu2 : ((p.take (j + 1)).all fun c => decide (c = 0)) = decide (p[j] = 0) := by
    rw [List.take_succ_eq_append_getElem hjl, List.all_append, hb2]; simp
   have hall : p[j] ≠ 0 → (p.all fun c => decide (c = 0)) = false := fun hh => by
    cases hq : p.all (fun c => decide (c = 0)) with
    | false => rfl
    | true => rw [List.all_eq_true] at hq; have := hq p[j] (List.getElem_mem hjl); exact absurd (of_decide_eq_true this) hh
   generalize p[j] = x at *
   have hx0 : x = 0 ↔ (x.toNat : Int) = 0 := by
    constructor
    ·rintro rfl; rfl
    ·intro hh
     have : x.toNat = (0 : UInt8).toNat := by simpa using hh
     exact UInt8.toNat_inj.1 this
   unfold u8 at p2
   by_cases hx : x = 0
   ·have hxn := hx0.1 hx
    refine Gq7 H ?_
    exact ⟨agr, p.length - (j + 1), by omega, ⟨j + 1, rfl, by omega, rfl, by rw [hsu2, decide_eq_true hx]⟩, H⟩
   ·have hxn : ¬ (x.toNat : Int) = 0 := fun hh => hx (hx0.2 hh)
    refine Gq7 H ?_
    exact ⟨_, resT rfl, by rw [hbad (hall hx)]; rfl, H⟩
  ·have hje : j = p.length := by omega
   subst hje
   rw [List.take_length] at hb2
   refine Gq7 H ?_
   exact ⟨agr, l.length - (i + 1), by omega, ⟨i + 1, rfl, by omega, rfl, by rw [hsu]; exact hb2⟩, H⟩
 ·have hie : i = l.length := by omega
  subst hie
  rw [List.take_length] at hb
  refine Gq7 H ?_
  exact ⟨_, resT rfl, by rw [hb]; rfl, H⟩
theorem pgsOf_40 {ps : List UInt8} (hl : ps.length = 640) : ∀ p ∈ pgsOf ps, p.length = 40 := by
 intro p hp
 obtain ⟨i, hi, rfl⟩ := List.mem_map.1 hp
 exact getP_len hl (List.mem_range.1 hi)
theorem Mount_f {b : Nat} {d : DM} {x : Ext} {m : WL} (hN : Nib s) (H : Holds s w (dsk b d :: R)) (hp : PartS s bp b x) (hx : 52 ≤ x.2) (hon : ∀ k : Nat, k < 52 → (pread d x (k : Int)).2 = 0) (hop : openM d x = (some m, 0)) (hl : m.pages.length = 640) (hT : treeOf m.pages = (t, 0)) (ht : t.Ok) (hq : 0 ≤ q ∧ q ≤ 8) : Calls Tryz.prog 23 #[.pointer (some ⟨bp, 0, none⟩), .int .i64 q] w fun y w' => ∃ (s' : Ro) (bF bL : Nat), y = .returned (.tuple #[.pointer (some ⟨bF, 0, none⟩), .int .i64 0]) ∧ s.Le s' ∧ Holds s' w' (fsV bF bL t q (List.replicate 4 Hd.zero) :: logM bL bp m :: dsk b d :: R) := by
 have hz := TR.ok_zero
 have hnew := TR.ok_new
 have h44 : (List.replicate 4 Hd.zero).length = 4 := rfl
 obtain ⟨hq1, hq2⟩ := hq
 refine enter Tryz.func23 rfl Tryz.ntmps23 rfl ?_
 refine Gq7 H ?_
 refine X.call (Open_g hN H hp hx hon) ?_
 clear H
 rintro _ w ⟨s2, hs2, hcase⟩
 obtain ⟨m', bL, ho, rfl, H⟩ := hcase.resolve_right (fun ⟨c, ho, _⟩ => by rw [hop] at ho; cases ho)
 clear hcase
 rw [hop] at ho
 cases ho
 refine ⟨_, rfl, ?_⟩
 repeat' (first | (refine K.build [(0, .pointer (some ⟨bL, 0, none⟩)), (2, .int .i64 q)] _ (build_fs _ _) rfl rfl rfl ?_) | refine Go7 H ?_ | (refine Gs7 H ?_; clear H; (try clear w); intro w H) | (refine Gn H ?_; clear H; (try clear w); (first | ((fail_if_success (have := bl1)); intro bl1 w H) | intro _ w H)))
 have H' : Holds s2 w (fsV bl1 bL TR.zero q (List.replicate 4 Hd.zero) :: logM bL bp m :: dsk b d :: R) := H
 clear H
 have H := H'
 clear H'
 (refine X.call (stored_f H hl) ?_; (try clear H); rintro _ w ⟨s3, g1, vl, rfl, hs3, hv, H⟩; refine ⟨_, rfl, ?_⟩)
 obtain ⟨s4, hs4, H', hS⟩ := H.fixRow
 clear H
 have H := H'
 clear H'
 replace hv := hv.mono hs4
 have h16 := pgsOf_len m.pages
 have h40 := pgsOf_40 hl
 unfold treeOf at hT
 generalize pgsOf m.pages = l at *
 replace hS : SlS s4 (.slice (some ⟨g1, 0, none⟩) l.length 16) 1 l.length vl := by rw [h16]; exact hS
 have hB := blank_f H hS hv (by omega) (fun p hp => by rw [h40 p hp]; decide)
 have hP := parse_t H hS hv (by omega) (fun p hp => by rw [h40 p hp]; decide)
 rw [h16] at hB hP
 refine Gq7 H ?_
 by_cases hbl : blankL l = true
 ·rw [if_pos hbl] at hT
  cases hT
  rw [hbl] at hB
  (refine X.call (hB) ?_; (try clear H); rintro _ w ⟨rfl, H⟩; refine ⟨_, rfl, ?_⟩)
  clear hB hP
  refine Gq7 H ?_
  (refine X.call (NewT_s H) ?_; (try clear H); rintro _ w ⟨rfl, H⟩; refine ⟨_, rfl, ?_⟩)
  (refine Gq7 H ?_; clear H; (try clear w); intro w H)
  exact ⟨_, resTT rfl, s4, bl1, bL, rfl, (hs2.trans hs3).trans hs4, H⟩
 ·rw [if_neg hbl] at hT
  rw [hT] at hP
  rw [show blankL l = false by simpa using hbl] at hB
  (refine X.call (hB) ?_; (try clear H); rintro _ w ⟨rfl, H⟩; refine ⟨_, rfl, ?_⟩)
  clear hB
  replace hP := parse_t H hS hv (by omega) (fun p hp => by rw [h40 p hp]; decide)
  rw [h16, hT] at hP
  refine Gq7 H ?_
  (refine X.call (hP) ?_; (try clear H); rintro _ w ⟨s5, rfl, hs5, H⟩; refine ⟨_, rfl, ?_⟩)
  clear hP
  (refine Gq7 H ?_; clear H; (try clear w); intro _ w H)
  exact ⟨_, resTT rfl, s5, bl1, bL, rfl, ((hs2.trans hs3).trans hs4).trans hs5, H.arr⟩
end
end Go.Proofs.YtgilmcpdpggikaaGreatDoor

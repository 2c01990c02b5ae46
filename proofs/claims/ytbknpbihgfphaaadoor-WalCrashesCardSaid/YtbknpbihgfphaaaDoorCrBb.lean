/- audit: the plain law of power failures. -/
import Derived.Test.YtbknpbihgfphaaaDoorCrAw
set_option linter.unusedSimpArgs false
set_option linter.unusedVariables false
namespace Go.Proofs.YtbknpbihgfphaaaDoor
open Go Go.RowKit Go.Own
theorem layS_get : ∀ (s : List (List UInt8)) (ps : List (Nat × List UInt8)) (sv : List Bool) (k : Nat), (layS s ps sv)[k]?.getD [] = s[k]?.getD [] ∨ ∃ b, (k, b) ∈ ps ∧ (layS s ps sv)[k]?.getD [] = b
  | s, [], sv, k => .inl (by rw [layS])
  | s, p :: ps, [], k => .inl (by rw [layS])
  | s, p :: ps, b :: bs, k => by
    rw [layS]
    rcases layS_get (if b then s.set p.1 p.2 else s) ps bs k with h | ⟨x, hx, h⟩
    · rw [h]
      cases b with
      | false => exact .inl rfl
      | true =>
        simp only [if_true]
        by_cases hk : p.1 = k
        · subst hk
          by_cases hl : p.1 < s.length
          · exact .inr ⟨p.2, by simp, by rw [List.getElem?_set_self hl]; rfl⟩
          · exact .inl (by rw [List.set_eq_of_length_le (by omega)])
        · exact .inl (by rw [List.getElem?_set_ne hk])
    · exact .inr ⟨x, List.mem_cons_of_mem _ hx, h⟩
theorem powered_on {d : DM} (h : d.off = false) : (d.powered.2 = true ∧ d.powered.1.off = false ∧ d.powered.1.secs = d.secs ∧ d.powered.1.pend = d.pend) ∨ (d.powered.2 = false ∧ d.powered.1.off = true ∧ d.powered.1.pend = [] ∧ ∃ sv, d.powered.1.secs = layS d.secs d.pend sv) := by
  unfold DM.powered
  cases ha : d.armed with
  | false => simp [h]
  | true =>
    by_cases hl : d.left = 0
    · right; simp [h, hl, DM.crash]; exact ⟨_, rfl⟩
    · left; simp [h, hl]
theorem cur_nil {d : DM} (h : d.pend = []) (k : Nat) : d.cur k = d.sec k := by simp [DM.cur, h]
/-- a write into a part of a disk that is on -/
theorem pwrite_on {N : Nat} {d : DM} (ho : d.off = false) (hl : d.secs.length = N) {f c n : Nat} {l : List UInt8} (hn : n < c) (hf : f + c ≤ N) (hN : N ≤ 1000) (h64 : l.length = 64) :
    ((pwrite d ((f : Int), (c : Int)) (n : Int) l).2 = 0 ∧ (pwrite d ((f : Int), (c : Int)) (n : Int) l).1.off = false ∧ (pwrite d ((f : Int), (c : Int)) (n : Int) l).1.secs = d.secs ∧ (pwrite d ((f : Int), (c : Int)) (n : Int) l).1.pend = d.pend ++ [(f + n, l)]) ∨
    ((pwrite d ((f : Int), (c : Int)) (n : Int) l).2 = 9 ∧ (pwrite d ((f : Int), (c : Int)) (n : Int) l).1.off = true ∧ (pwrite d ((f : Int), (c : Int)) (n : Int) l).1.pend = [] ∧ ∃ sv, (pwrite d ((f : Int), (c : Int)) (n : Int) l).1.secs = layS d.secs d.pend sv) := by
  have hib : d.inB ((f + n : Nat) : Int) = true := by simp only [DM.inB, decide_eq_true_eq]; rw [hl]; omega
  have e : pwrite d ((f : Int), (c : Int)) (n : Int) l = if d.powered.2 then ({ d.powered.1 with pend := d.powered.1.pend ++ [(f + n, l)] }, 0) else (d.powered.1, 9) := by
    unfold Go.Proofs.YtbknpbihgfphaaaDoor.pwrite
    simp only
    rw [place_inN hn (by omega)]
    simp only [if_true]
    unfold DM.write
    rw [if_pos hib, if_pos h64, Int.toNat_natCast]
  rw [e]
  rcases powered_on ho with ⟨h1, h2, h3, h4⟩ | ⟨h1, h2, h3, h4⟩
  · rw [if_pos h1]; exact .inl ⟨rfl, h2, h3, by simp only [h4]⟩
  · rw [if_neg (by rw [h1]; decide)]; exact .inr ⟨rfl, h2, h3, h4⟩
theorem flush_on {d : DM} (ho : d.off = false) :
    (d.flush.2 = 0 ∧ d.flush.1.off = false ∧ d.flush.1.pend = [] ∧ d.flush.1.secs = layAll d.secs d.pend) ∨
    (d.flush.2 = 9 ∧ d.flush.1.off = true ∧ d.flush.1.pend = [] ∧ ∃ sv, d.flush.1.secs = layS d.secs d.pend sv) := by
  unfold DM.flush
  rcases powered_on ho with ⟨h1, h2, h3, h4⟩ | ⟨h1, h2, h3, h4⟩
  · rw [if_pos h1]; exact .inl ⟨rfl, h2, rfl, by simp only [h3, h4]⟩
  · rw [if_neg (by rw [h1]; decide)]; exact .inr ⟨rfl, h2, h3, h4⟩
/-- as it comes out of a power failure, or goes on -/
def calmD (d : DM) : DM := (d.arm (-1) []).power
theorem calm_on {d : DM} (h : d.off = false) (hp : d.pend = []) : d.arm (-1) [] = (d.arm (-1) []).power := by
  unfold DM.arm DM.power DM.disarm
  simp [h, hp]
theorem calm_facts (d : DM) : (calmD d).off = false ∧ (calmD d).armed = false ∧ (calmD d).pend = [] ∧ (calmD d).secs = d.secs := by
  unfold calmD DM.arm DM.power DM.disarm
  refine ⟨rfl, rfl, rfl, ?_⟩
  split
  · rfl
  · simp
theorem Lg.of {N f c : Nat} {d : DM} {l : List En} (h1 : d.off = false) (h2 : d.armed = false) (h3 : d.pend = []) (h4 : d.secs.length = N) (h5 : l.length ≤ c) (h6 : ∀ i (h : i < l.length), d.sec (f + i) = secE i l[i]) (h7 : ∀ k, k < N → (k < f ∨ f + l.length ≤ k) → d.sec k = List.replicate 64 0) : Lg N f c d ⟨l, false⟩ :=
  ⟨⟨h1, h2, h4⟩, h3, rfl, h5, fun i hi => by rw [cur_nil h3]; exact h6 i hi, fun k hk ho => by rw [cur_nil h3]; exact h7 k hk ho⟩
theorem sec_set (s : List (List UInt8)) (n k : Nat) (l : List UInt8) (hn : n < s.length) : (s.set n l)[k]?.getD [] = if n = k then l else s[k]?.getD [] := by
  by_cases h : n = k
  · subst h; rw [if_pos rfl, List.getElem?_set_self hn]; rfl
  · rw [if_neg h, List.getElem?_set_ne h]
theorem Lg.calm {N f c : Nat} {d d' : DM} {m : AL} (h : Lg N f c d m) (hs : d'.secs = d.secs) : Lg N f c (calmD d') m := by
  obtain ⟨ents, dead⟩ := m
  have hdd := h.dead
  dsimp only at hdd
  subst hdd
  obtain ⟨c1, c2, c3, c4⟩ := calm_facts d'
  refine Lg.of c1 c2 c3 (by rw [c4, hs]; exact h.fr.len) h.len (fun i hi => ?_) (fun k hk ho => ?_)
  · have := h.sec i hi
    rw [cur_nil h.pd] at this
    unfold DM.sec at *
    rw [c4, hs]; exact this
  · have := h.out k hk ho
    rw [cur_nil h.pd] at this
    unfold DM.sec at *
    rw [c4, hs]; exact this
theorem Lg.calm1 {N f c : Nat} {d d' : DM} {l : List En} {e : En} (h : Lg N f c d ⟨l, false⟩) (hf : f + c ≤ N) (hl : l.length < c) (hs : ∀ k : Nat, d'.secs[k]?.getD [] = (d.secs.set (f + l.length) (secE l.length e))[k]?.getD []) (hlen : d'.secs.length = N) : Lg N f c (calmD d') ⟨l ++ [e], false⟩ := by
  obtain ⟨c1, c2, c3, c4⟩ := calm_facts d'
  have hn := h.fr.len
  refine Lg.of c1 c2 c3 (by rw [c4]; exact hlen) (by simp; omega) (fun i hi => ?_) (fun k hk ho => ?_)
  · simp only [List.length_append, List.length_cons, List.length_nil] at hi
    unfold DM.sec
    rw [c4, hs, sec_set _ _ _ _ (by omega)]
    by_cases hie : i = l.length
    · subst hie; rw [if_pos rfl]; simp
    · rw [if_neg (by omega), List.getElem_append_left (by omega)]
      have := h.sec i (by simp only; omega)
      rw [cur_nil h.pd] at this
      exact this
  · simp only [List.length_append, List.length_cons, List.length_nil] at ho
    unfold DM.sec
    rw [c4, hs, sec_set _ _ _ _ (by omega), if_neg (by omega)]
    have := h.out k hk (by simp only; omega)
    rw [cur_nil h.pd] at this
    exact this
theorem layS_one (s : List (List UInt8)) (q : Nat × List UInt8) (sv : List Bool) : layS s [q] sv = s ∨ layS s [q] sv = s.set q.1 q.2 := by
  cases sv with
  | nil => exact .inl rfl
  | cons b bs =>
    rw [layS, layS]
    cases b with
    | false => exact .inl rfl
    | true => exact .inr rfl
/-- whatever fails in an Add, and what is there when it is opened again -/
theorem Lg.keep {N f c : Nat} {d d1 : DM} {m : AL} (h : Lg N f c d m) (hf : f + c ≤ N) (hN : N ≤ 1000) (e : En) (ho : d1.off = false) (hs : d1.secs = d.secs) (hp : d1.pend = []) :
    ((addA d1 ((f : Int), (c : Int)) m e).2.2 = 0 ∧ e.valid = true ∧ (addA d1 ((f : Int), (c : Int)) m e).2.1 = ⟨m.ents ++ [e], false⟩ ∧ (addA d1 ((f : Int), (c : Int)) m e).1.arm (-1) [] = (calmD (addA d1 ((f : Int), (c : Int)) m e).1) ∧ Lg N f c (calmD (addA d1 ((f : Int), (c : Int)) m e).1) ⟨m.ents ++ [e], false⟩) ∨
    (((addA d1 ((f : Int), (c : Int)) m e).2.2 = 1 ∨ (addA d1 ((f : Int), (c : Int)) m e).2.2 = 5 ∨ (addA d1 ((f : Int), (c : Int)) m e).2.2 = 9) ∧ (addA d1 ((f : Int), (c : Int)) m e).2.1.ents = m.ents ∧ Lg N f c (calmD (addA d1 ((f : Int), (c : Int)) m e).1) m) ∨
    ((addA d1 ((f : Int), (c : Int)) m e).2.2 = 9 ∧ e.valid = true ∧ (addA d1 ((f : Int), (c : Int)) m e).2.1.ents = m.ents ∧ Lg N f c (calmD (addA d1 ((f : Int), (c : Int)) m e).1) ⟨m.ents ++ [e], false⟩) := by
  obtain ⟨l, dead⟩ := m
  have hd := h.dead
  dsimp only at hd
  subst hd
  have hlen := h.len
  have hNl := h.fr.len
  dsimp only at hlen
  unfold addA
  dsimp only
  rw [if_neg (by decide)]
  by_cases hv : e.valid = false
  · rw [if_pos hv]; exact .inr (.inl ⟨.inl rfl, rfl, h.calm hs⟩)
  have hv' : e.valid = true := by cases hq : e.valid with | true => rfl | false => exact absurd hq hv
  rw [if_neg hv]
  by_cases hfull : (c : Int) ≤ (l.length : Int)
  · rw [if_pos hfull]; exact .inr (.inl ⟨.inr (.inl rfl), rfl, h.calm hs⟩)
  rw [if_neg hfull]
  have h64 := secE_len l.length e
  rcases pwrite_on (l := secE l.length e) ho (by rw [hs]; exact hNl) (n := l.length) (c := c) (by omega) hf hN h64 with ⟨w1, w2, w3, w4⟩ | ⟨w1, w2, w3, sv, w4⟩
  · rw [if_pos w1]
    rw [hp, List.nil_append] at w4
    rcases flush_on w2 with ⟨f1, f2, f3, f4⟩ | ⟨f1, f2, f3, sv, f4⟩
    · rw [if_pos f1]
      rw [w4, w3, hs] at f4
      refine .inl ⟨rfl, hv', rfl, calm_on f2 f3, h.calm1 hf (by omega) (fun k => by rw [f4]; rfl) (by rw [f4, layAll_len]; exact hNl)⟩
    · rw [if_neg (by rw [f1]; decide)]
      rw [w4, w3, hs] at f4
      rcases layS_one d.secs (f + l.length, secE l.length e) sv with h1 | h1
      · rw [h1] at f4
        exact .inr (.inl ⟨.inr (.inr f1), rfl, h.calm f4⟩)
      · rw [h1] at f4
        exact .inr (.inr ⟨f1, hv', rfl, h.calm1 hf (by omega) (fun k => by rw [f4]) (by rw [f4, List.length_set]; exact hNl)⟩)
  · rw [if_neg (by rw [w1]; decide)]
    rw [hp, hs] at w4
    rw [show layS d.secs [] sv = d.secs by rw [layS]] at w4
    exact .inr (.inl ⟨.inr (.inr w1), rfl, h.calm w4⟩)
end Go.Proofs.YtbknpbihgfphaaaDoor

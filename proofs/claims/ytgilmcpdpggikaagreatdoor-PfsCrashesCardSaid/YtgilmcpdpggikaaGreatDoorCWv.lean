/- Squeezed copy of the texts Wv Pw Wy Ws Ww Kb Wx Pc. -/
import Derived.Test.YtgilmcpdpggikaaGreatDoorCWl
import Derived.Test.YtgilmcpdpggikaaGreatDoorCK9
import Derived.Test.YtgilmcpdpggikaaGreatDoorCUb
import Derived.Test.YtgilmcpdpggikaaGreatDoorCOd
set_option maxRecDepth 100000
set_option maxHeartbeats 1000000
set_option linter.unusedSimpArgs false
set_option linter.unusedVariables false
namespace Go.Proofs.YtgilmcpdpggikaaGreatDoor
open Go Go.RowKit Go.Own
def wS (q : List (Nat × List UInt8)) : List St := q.map fun p => St.w p.1 p.2
def wP (f : Nat) (q : List (Nat × List UInt8)) : List (Nat × List UInt8) := q.map fun p => (f + p.1, p.2)
structure Torn (d d1 : DM) (ps : List (Nat × List UInt8)) : Prop where
 off : d1.off = true
 pend : d1.pend = []
 len : d1.secs.length = d.secs.length
 sec : ∀ k : Nat, d1.secs[k]?.getD [] = d.secs[k]?.getD [] ∨ ∃ b, (k, b) ∈ ps ∧ d1.secs[k]?.getD [] = b
theorem Torn.of {d d1 : DM} {ps qs : List (Nat × List UInt8)} (h1 : d1.off = true) (h2 : d1.pend = []) (h3 : ∃ sv, d1.secs = layS d.secs ps sv) (hq : ∀ p ∈ ps, p ∈ qs) : Torn d d1 qs := by
 obtain ⟨sv, h3⟩ := h3
 refine ⟨h1, h2, by rw [h3, layS_len], fun k => ?_⟩
 rw [h3]
 exact (layS_get d.secs ps sv k).imp id (fun ⟨b, hb, e⟩ => ⟨b, hq _ hb, e⟩)
theorem run_phase {N f : Nat} (hf : f + 52 ≤ N) (hN : N ≤ 1000) (r : List St) : ∀ (q : List (Nat × List UInt8)) (d : DM), d.off = false → d.secs.length = N → (∀ p ∈ q, p.1 < 52 ∧ p.2.length = 64) →
  (∃ d1, d1.off = false ∧ d1.pend = [] ∧ d1.secs = layAll d.secs (d.pend ++ wP f q) ∧ run ((f : Int), 52) (wS q ++ .f :: r) d = run ((f : Int), 52) r d1) ∨ (∃ d1, Torn d d1 (d.pend ++ wP f q) ∧ run ((f : Int), 52) (wS q ++ .f :: r) d = (d1, 9))
 | [], d, ho, hl, _ => by
  change (∃ d1 : DM, _ ∧ _ ∧ d1.secs = layAll d.secs (d.pend ++ []) ∧ run ((f : Int), 52) (.f :: r) d = _) ∨ (∃ d1, Torn d d1 (d.pend ++ []) ∧ run ((f : Int), 52) (.f :: r) d = _)
  rw [List.append_nil]
  rcases flush_on ho with ⟨h1, h2, h3, h4⟩ | ⟨h1, h2, h3, h4⟩
  ·exact .inl ⟨_, h2, h3, h4, run_fok _ h1⟩
  ·exact .inr ⟨_, Torn.of h2 h3 h4 (fun _ h => h), (run_fno _ (by rw [h1]; decide)).trans (Prod.ext rfl h1)⟩
 | (a, b) :: q, d, ho, hl, hq => by
  obtain ⟨ha, hb⟩ := hq (a, b) (by simp)
  dsimp only at ha hb
  have hrun : wS ((a, b) :: q) ++ .f :: r = .w a b :: (wS q ++ .f :: r) := rfl
  have hwp : d.pend ++ wP f ((a, b) :: q) = (d.pend ++ [(f + a, b)]) ++ wP f q := by rw [List.append_assoc]; rfl
  rw [hrun, hwp]
  have hpw := pwrite_on (c := 52) ho hl ha hf hN hb
  rw [show ((52 : Nat) : Int) = 52 from rfl] at hpw
  rcases hpw with ⟨h1, h2, h3, h4⟩ | ⟨h1, h2, h3, h4⟩
  ·rw [run_ok _ h1]
   have ih := run_phase hf hN r q _ h2 (by rw [h3]; exact hl) (fun p hp => hq p (by simp [hp]))
   rw [h3, h4] at ih
   refine ih.imp id (fun ⟨d1, ht, e⟩ => ⟨d1, ⟨ht.off, ht.pend, by rw [ht.len, h3], fun k => ?_⟩, e⟩)
   have := ht.sec k
   rw [h3] at this
   exact this
  ·exact .inr ⟨_, Torn.of h2 h3 h4 (fun p hp => by simp [hp]), (run_no _ (by rw [h1]; decide)).trans (Prod.ext rfl h1)⟩
theorem fold_val {k : Nat} {b : List UInt8} : ∀ (q : List (Nat × List UInt8)) (c : List UInt8), (∀ p ∈ q, p.1 = k → p.2 = b) → ((∃ p ∈ q, p.1 = k) ∨ c = b) → q.foldl (fun c p => if p.1 = k then p.2 else c) c = b
 | [], c, _, h => h.resolve_left (fun ⟨p, hp, _⟩ => by simp at hp)
 | p :: r, c, hq, h => by
  rw [List.foldl_cons]
  refine fold_val r _ (fun p hp => hq p (by simp [hp])) ?_
  by_cases hk : p.1 = k
  ·rw [if_pos hk]; exact .inr (hq p (by simp) hk)
  ·rw [if_neg hk]
   refine h.imp (fun ⟨p', hp, e⟩ => ?_) id
   rcases List.mem_cons.1 hp with rfl | hp
   ·exact absurd e hk
   ·exact ⟨p', hp, e⟩
def secF (f : Nat) (d : DM) (k : Nat) : List UInt8 := d.secs[f + k]?.getD []
theorem lay_in {N f : Nat} {d d1 : DM} {q : List (Nat × List UInt8)} (hs : d1.secs = layAll d.secs ([] ++ wP f q)) (hl : d.secs.length = N) {k : Nat} (hk : f + k < N) {b : List UInt8} (h1 : ∀ p ∈ q, p.1 = k → p.2 = b) (h2 : (∃ p ∈ q, p.1 = k) ∨ secF f d k = b) : secF f d1 k = b := by
 unfold secF
 rw [hs, List.nil_append, lay_cur0 _ _ _ (by rw [hl]; exact hk)]
 refine fold_val _ _ (fun p hp e => ?_) (h2.imp (fun ⟨p, hp, e⟩ => ⟨(f + p.1, p.2), List.mem_map.2 ⟨p, hp, rfl⟩, by dsimp only; omega⟩) id)
 obtain ⟨p', hp', rfl⟩ := List.mem_map.1 hp
 dsimp only at e
 exact h1 p' hp' (by omega)
theorem Torn.at' {f : Nat} {d d1 : DM} {q : List (Nat × List UInt8)} (h : Torn d d1 ([] ++ wP f q)) (k : Nat) : secF f d1 k = secF f d k ∨ ∃ b, (k, b) ∈ q ∧ secF f d1 k = b := by
 refine (h.sec (f + k)).imp id (fun ⟨b, hb, e⟩ => ?_)
 rw [List.nil_append] at hb
 obtain ⟨p, hp, he⟩ := List.mem_map.1 hb
 have h1 := (Prod.mk.inj he).1
 have h2 := (Prod.mk.inj he).2
 have h3 : p.1 = k := by omega
 exact ⟨b, by rw [← h3, ← h2]; exact hp, e⟩
def hW (e h : Nat) (ps : List UInt8) (n i : Nat) : List (Nat × List UInt8) := (List.range' i n).map fun i => (2 + 16 * h + i, pageB e i ps)
theorem homeFrom_eq (e h : Nat) (ps : List UInt8) : ∀ n i, homeFrom e h ps n i = wS (hW e h ps n i) ++ .f :: (wS [(e % 2, headB e h)] ++ .f :: [])
 | 0, i => rfl
 | n + 1, i => by rw [homeFrom, homeFrom_eq e h ps n (i + 1)]; rfl
theorem hW_mem {e h n i : Nat} {ps : List UInt8} {p : Nat × List UInt8} (hp : p ∈ hW e h ps n i) : ∃ j, i ≤ j ∧ j < i + n ∧ p = (2 + 16 * h + j, pageB e j ps) := by
 obtain ⟨j, hj, rfl⟩ := List.mem_map.1 hp
 have := List.mem_range'_1.1 hj
 exact ⟨j, this.1, this.2, rfl⟩
theorem hW_has {e h n i j : Nat} {ps : List UInt8} (h1 : i ≤ j) (h2 : j < i + n) : (2 + 16 * h + j, pageB e j ps) ∈ hW e h ps n i := List.mem_map.2 ⟨j, List.mem_range'_1.2 ⟨h1, h2⟩, rfl⟩
def rW (e : Nat) : Nat → List Ch → List (Nat × List UInt8)
 | _, [] => []
 | k, c :: r => (34 + k, recB e k c) :: rW e (k + 1) r
theorem recSteps_eq (e : Nat) : ∀ (l : List Ch) (k : Nat), recSteps e k l = wS (rW e k l) ++ .f :: (wS [(34 + (k + l.length), markB e (k + l.length))] ++ .f :: [])
 | [], k => rfl
 | c :: r, k => by
  rw [recSteps, recSteps_eq e r (k + 1), List.length_cons, show k + 1 + r.length = k + (r.length + 1) by omega]; rfl
theorem rW_mem {e : Nat} : ∀ {l : List Ch} {k : Nat} {p : Nat × List UInt8}, p ∈ rW e k l → ∃ i, ∃ hi : i < l.length, p = (34 + (k + i), recB e (k + i) l[i])
 | [], k, p, h => by simp [rW] at h
 | c :: r, k, p, h => by
  rcases List.mem_cons.1 h with rfl | h
  ·exact ⟨0, by simp, rfl⟩
  ·obtain ⟨i, hi, rfl⟩ := rW_mem h
   exact ⟨i + 1, by rw [List.length_cons]; omega, by rw [show k + 1 + i = k + (i + 1) by omega]; rfl⟩
theorem rW_has {e : Nat} : ∀ {l : List Ch} {k i : Nat} (hi : i < l.length), (34 + (k + i), recB e (k + i) l[i]) ∈ rW e k l
 | c :: r, k, 0, hi => List.mem_cons_self
 | c :: r, k, i + 1, hi => by
  refine List.mem_cons_of_mem _ ?_
  rw [List.length_cons] at hi
  have := rW_has (e := e) (l := r) (k := k + 1) (i := i) (by omega)
  rw [show k + 1 + i = k + (i + 1) by omega] at this
  exact this
structure WInv (N f : Nat) (d : DM) (m : WL) : Prop where
 off : d.off = false
 pend : d.pend = []
 len : d.secs.length = N
 log : LgC (secF f d) m
structure WOff (N f : Nat) (d : DM) : Prop where
 off : d.off = true
 pend : d.pend = []
 len : d.secs.length = N
theorem WInv.opens {N f : Nat} {d : DM} {m : WL} (h : WInv N f d m) (hf : f + 52 ≤ N) (hN : N ≤ 1000) : openM d ((f : Int), 52) = (some m, 0) ∧ ∀ k : Nat, k < 52 → (pread d ((f : Int), 52) (k : Int)).2 = 0 := by
 have hr : ∀ k : Nat, k < 52 → pread d ((f : Int), 52) (k : Int) = (d.cur (f + k), 0) := fun k hk => by
  have e : placeM (f : Int) 52 (k : Int) = (((f + k : Nat) : Int), 0) := place_inN (c := 52) hk (by omega)
  have hib : d.inB ((f + k : Nat) : Int) = true := by simp only [DM.inB, decide_eq_true_eq]; rw [h.len]; omega
  unfold pread
  simp only
  rw [e]
  simp only [if_true]
  unfold DM.read
  rw [if_pos hib, if_neg (by rw [h.off]; decide), Int.toNat_natCast]
 refine ⟨h.log.opens (fun k hk => ?_), fun k hk => by rw [hr k hk]⟩
 unfold sec
 rw [hr k hk, cur_nil h.pend]
 rfl
theorem WInv.home {N f : Nat} {d : DM} {m : WL} (h : WInv N f d m) (hf : f + 52 ≤ N) (hN : N ≤ 1000) (he : m.epoch ≠ 4294967295) :
  ((run ((f : Int), 52) (homeSteps (m.epoch + 1) (1 - m.home) m.pages) d).2 = 0 ∧ WInv N f (run ((f : Int), 52) (homeSteps (m.epoch + 1) (1 - m.home) m.pages) d).1 ⟨m.epoch + 1, 1 - m.home, 0, m.pages, false⟩) ∨
  ((run ((f : Int), 52) (homeSteps (m.epoch + 1) (1 - m.home) m.pages) d).2 = 9 ∧ WOff N f (run ((f : Int), 52) (homeSteps (m.epoch + 1) (1 - m.home) m.pages) d).1 ∧ ∃ m2, m2.pages = m.pages ∧ LgC (secF f (run ((f : Int), 52) (homeSteps (m.epoch + 1) (1 - m.home) m.pages) d).1) m2) := by
 have hlog := h.log
 have hhm := hlog.home
 unfold homeSteps
 rw [homeFrom_eq]
 have hok : ∀ p ∈ hW (m.epoch + 1) (1 - m.home) m.pages 16 0, p.1 < 52 ∧ p.2.length = 64 := fun p hp => by
  obtain ⟨j, _, hj, rfl⟩ := hW_mem hp
  exact ⟨by dsimp only; omega, secW_len (by rw [List.length_append, getP_len hlog.plen (by omega)]; simp)⟩
 rcases run_phase hf hN (wS [((m.epoch + 1) % 2, headB (m.epoch + 1) (1 - m.home))] ++ .f :: []) _ d h.off h.len hok with ⟨d1, a1, a2, a3, a4⟩ | ⟨d1, t, a4⟩
 ·rw [a4]
  rw [h.pend] at a3
  have hl1 : d1.secs.length = N := by rw [a3, layAll_len]; exact h.len
  have hout : ∀ k, k < 52 → (k < 2 + 16 * (1 - m.home) ∨ 2 + 16 * (1 - m.home) + 16 ≤ k) → secF f d1 k = secF f d k := fun k hk ho => by
   refine lay_in a3 h.len (by omega) (fun p hp e => ?_) (.inr rfl)
   obtain ⟨j, _, hj, rfl⟩ := hW_mem hp
   dsimp only at e
   omega
  have hin : ∀ i, i < 16 → secF f d1 (2 + 16 * (1 - m.home) + i) = pageB (m.epoch + 1) i m.pages := fun i hi => by
   refine lay_in a3 h.len (by omega) (fun p hp e => ?_) (.inl ⟨_, hW_has (Nat.zero_le _) (by omega), rfl⟩)
   obtain ⟨j, _, hj, rfl⟩ := hW_mem hp
   dsimp only at e
   have : j = i := by omega
   subst this; rfl
  have hlog1 : LgC (secF f d1) m := hlog.home_any hout
  have hok2 : ∀ p ∈ [((m.epoch + 1) % 2, headB (m.epoch + 1) (1 - m.home))], p.1 < 52 ∧ p.2.length = 64 := fun p hp => by
   rw [List.mem_singleton] at hp
   subst hp
   exact ⟨by dsimp only; omega, secW_len (by simp)⟩
  have hnext : ∀ d2 : DM, secF f d2 ((m.epoch + 1) % 2) = headB (m.epoch + 1) (1 - m.home) → (∀ k, k < 52 → k ≠ (m.epoch + 1) % 2 → secF f d2 k = secF f d1 k) → LgC (secF f d2) ⟨m.epoch + 1, 1 - m.home, 0, m.pages, false⟩ := fun d2 e1 e2 =>
   hlog1.next he (fun i hi => by rw [e2 _ (by omega) (by omega)]; exact hin i hi) e1 (e2 _ (by omega) (by omega)) (fun j hj => e2 _ (by omega) (by omega))
  rcases run_phase hf hN [] _ d1 a1 hl1 hok2 with ⟨d2, b1, b2, b3, b4⟩ | ⟨d2, t, b4⟩
  ·rw [b4]
   rw [a2] at b3
   refine .inl ⟨rfl, b1, b2, by rw [run, b3, layAll_len]; exact hl1, hnext d2 ?_ (fun k hk hne => ?_)⟩
   ·exact lay_in b3 hl1 (by omega) (fun p hp e => by rw [List.mem_singleton] at hp; subst hp; rfl) (.inl ⟨_, List.mem_singleton.2 rfl, rfl⟩)
   ·exact lay_in b3 hl1 (by omega) (fun p hp e => by rw [List.mem_singleton] at hp; subst hp; exact absurd e.symm hne) (.inr rfl)
  ·rw [b4]
   rw [a2] at t
   refine .inr ⟨rfl, ⟨t.off, t.pend, by rw [t.len]; exact hl1⟩, ?_⟩
   have hoth : ∀ k, k < 52 → k ≠ (m.epoch + 1) % 2 → secF f d2 k = secF f d1 k := fun k hk hne => (t.at' k).resolve_right (fun ⟨b, hb, _⟩ => by rw [List.mem_singleton] at hb; cases hb; exact hne rfl)
   rcases t.at' ((m.epoch + 1) % 2) with e | ⟨b, hb, e⟩
   ·refine ⟨m, rfl, hlog1.home_any (fun k hk _ => ?_)⟩
    by_cases hne : k = (m.epoch + 1) % 2
    ·rw [hne]; exact e
    ·exact hoth k hk hne
   ·rw [List.mem_singleton] at hb
    cases hb
    exact ⟨⟨m.epoch + 1, 1 - m.home, 0, m.pages, false⟩, rfl, hnext d2 e hoth⟩
 ·rw [a4]
  rw [h.pend] at t
  refine .inr ⟨rfl, ⟨t.off, t.pend, by rw [t.len]; exact h.len⟩, m, rfl, hlog.home_any (fun k hk ho => ?_)⟩
  refine (t.at' k).resolve_right (fun ⟨b, hb, _⟩ => ?_)
  obtain ⟨j, _, hj, e⟩ := hW_mem hb
  have := (Prod.mk.inj e).1
  omega
theorem WInv.recs {N f : Nat} {d : DM} {m : WL} {l : List Ch} (h : WInv N f d m) (hf : f + 52 ≤ N) (hN : N ≤ 1000) (hl : ∀ ch ∈ l, ch.Ok) (hu : m.used + l.length + 1 ≤ 18) :
  ((run ((f : Int), 52) (recSteps m.epoch m.used l) d).2 = 0 ∧ WInv N f (run ((f : Int), 52) (recSteps m.epoch m.used l) d).1 ⟨m.epoch, m.home, m.used + l.length + 1, applyL m.pages l, false⟩) ∨
  ((run ((f : Int), 52) (recSteps m.epoch m.used l) d).2 = 9 ∧ WOff N f (run ((f : Int), 52) (recSteps m.epoch m.used l) d).1 ∧ ∃ m2, (m2.pages = m.pages ∨ m2.pages = applyL m.pages l) ∧ LgC (secF f (run ((f : Int), 52) (recSteps m.epoch m.used l) d).1) m2) := by
 have hlog := h.log
 rw [recSteps_eq]
 have hok : ∀ p ∈ rW m.epoch m.used l, p.1 < 52 ∧ p.2.length = 64 := fun p hp => by
  obtain ⟨j, hj, rfl⟩ := rW_mem hp
  exact ⟨by dsimp only; omega, secW_len (by rw [List.length_append, (hl _ (List.getElem_mem hj)).2.2]; simp)⟩
 have hval : ∀ (i : Nat) (hi : i < l.length), ∀ p ∈ rW m.epoch m.used l, p.1 = 34 + (m.used + i) → p.2 = recB m.epoch (m.used + i) l[i] := fun i hi p hp e => by
  obtain ⟨j, hj, rfl⟩ := rW_mem hp
  dsimp only at e
  have : j = i := by omega
  subst this; rfl
 rcases run_phase hf hN (wS [(34 + (m.used + l.length), markB m.epoch (m.used + l.length))] ++ .f :: []) _ d h.off h.len hok with ⟨d1, a1, a2, a3, a4⟩ | ⟨d1, t, a4⟩
 ·rw [a4]
  rw [h.pend] at a3
  have hl1 : d1.secs.length = N := by rw [a3, layAll_len]; exact h.len
  have hin : ∀ i (hi : i < l.length), secF f d1 (34 + (m.used + i)) = recB m.epoch (m.used + i) l[i] := fun i hi => lay_in a3 h.len (by omega) (hval i hi) (.inl ⟨_, rW_has hi, rfl⟩)
  have hlog1 : LgC (secF f d1) m := hlog.recs_any hl hu (fun k hk => by
   by_cases hex : ∃ i, i < l.length ∧ k = 34 + (m.used + i)
   ·obtain ⟨i, hi, rfl⟩ := hex
    exact .inr ⟨i, hi, rfl, hin i hi⟩
   ·refine .inl (lay_in a3 h.len (by omega) (fun p hp e => ?_) (.inr rfl))
    obtain ⟨j, hj, rfl⟩ := rW_mem hp
    exact absurd ⟨j, hj, e.symm⟩ hex)
  have hok2 : ∀ p ∈ [(34 + (m.used + l.length), markB m.epoch (m.used + l.length))], p.1 < 52 ∧ p.2.length = 64 := fun p hp => by
   rw [List.mem_singleton] at hp
   subst hp
   exact ⟨by dsimp only; omega, secW_len (by simp)⟩
  have hnext : ∀ d2 : DM, secF f d2 (34 + (m.used + l.length)) = markB m.epoch (m.used + l.length) → (∀ k, k < 52 → k ≠ 34 + (m.used + l.length) → secF f d2 k = secF f d1 k) → LgC (secF f d2) ⟨m.epoch, m.home, m.used + l.length + 1, applyL m.pages l, false⟩ := fun d2 e1 e2 => hlog1.mark hl hu hin e1 e2
  rcases run_phase hf hN [] _ d1 a1 hl1 hok2 with ⟨d2, b1, b2, b3, b4⟩ | ⟨d2, t, b4⟩
  ·rw [b4]
   rw [a2] at b3
   refine .inl ⟨rfl, b1, b2, by rw [run, b3, layAll_len]; exact hl1, hnext d2 ?_ (fun k hk hne => ?_)⟩
   ·exact lay_in b3 hl1 (by omega) (fun p hp e => by rw [List.mem_singleton] at hp; subst hp; rfl) (.inl ⟨_, List.mem_singleton.2 rfl, rfl⟩)
   ·exact lay_in b3 hl1 (by omega) (fun p hp e => by rw [List.mem_singleton] at hp; subst hp; exact absurd e.symm hne) (.inr rfl)
  ·rw [b4]
   rw [a2] at t
   refine .inr ⟨rfl, ⟨t.off, t.pend, by rw [t.len]; exact hl1⟩, ?_⟩
   have hoth : ∀ k, k < 52 → k ≠ 34 + (m.used + l.length) → secF f d2 k = secF f d1 k := fun k hk hne => (t.at' k).resolve_right (fun ⟨b, hb, _⟩ => by rw [List.mem_singleton] at hb; cases hb; exact hne rfl)
   rcases t.at' (34 + (m.used + l.length)) with e | ⟨b, hb, e⟩
   ·refine ⟨m, .inl rfl, hlog1.home_any (fun k hk _ => ?_)⟩
    by_cases hne : k = 34 + (m.used + l.length)
    ·rw [hne]; exact e
    ·exact hoth k hk hne
   ·rw [List.mem_singleton] at hb
    cases hb
    exact ⟨_, .inr rfl, hnext d2 e hoth⟩
 ·rw [a4]
  rw [h.pend] at t
  refine .inr ⟨rfl, ⟨t.off, t.pend, by rw [t.len]; exact h.len⟩, m, .inl rfl, hlog.recs_any hl hu (fun k hk => ?_)⟩
  refine (t.at' k).imp id (fun ⟨b, hb, e⟩ => ?_)
  obtain ⟨j, hj, e'⟩ := rW_mem hb
  cases e'
  exact ⟨j, hj, rfl, e⟩
def nextL (ps : List UInt8) (l : List Ch) : List UInt8 := if validM l = true then applyL ps l else ps
def Ends (N f : Nat) (d : DM) (m : WL) (l : List Ch) (r : DM × WL × Int) : Prop :=
 (r.2.2 = 0 ∧ WInv N f r.1 r.2.1 ∧ r.2.1.pages = nextL m.pages l) ∨ ((r.2.2 = 1 ∨ r.2.2 = 5) ∧ r.1 = d ∧ r.2.1 = m) ∨
 (r.2.2 = 9 ∧ WOff N f r.1 ∧ r.2.1.pages = m.pages ∧ r.2.1.pages.length = 640 ∧ ∃ m2, (m2.pages = m.pages ∨ m2.pages = nextL m.pages l) ∧ LgC (secF f r.1) m2)
theorem WInv.recM {N f : Nat} {d : DM} {m : WL} {l : List Ch} (h : WInv N f d m) (hf : f + 52 ≤ N) (hN : N ≤ 1000) (hv : validM l = true) (hu : m.used + l.length + 1 ≤ 18) : ((recM d ((f : Int), 52) m l).2.2 = 0 ∧ WInv N f (recM d ((f : Int), 52) m l).1 (recM d ((f : Int), 52) m l).2.1 ∧ (recM d ((f : Int), 52) m l).2.1.pages = nextL m.pages l) ∨ ((recM d ((f : Int), 52) m l).2.2 = 9 ∧ WOff N f (recM d ((f : Int), 52) m l).1 ∧ (recM d ((f : Int), 52) m l).2.1.pages = m.pages ∧ (recM d ((f : Int), 52) m l).2.1.pages.length = 640 ∧ ∃ m2, (m2.pages = m.pages ∨ m2.pages = nextL m.pages l) ∧ LgC (secF f (recM d ((f : Int), 52) m l).1) m2) := by
 have hl := (validM_ok hv).2
 have hn : nextL m.pages l = applyL m.pages l := if_pos hv
 unfold Go.Proofs.YtgilmcpdpggikaaGreatDoor.recM
 rcases h.recs hf hN hl hu with ⟨h1, h2⟩ | ⟨h1, h2, m2, h3, h4⟩
 ·rw [if_pos h1]; exact .inl ⟨rfl, h2, hn.symm⟩
 ·rw [if_neg (by rw [h1]; decide)]; exact .inr ⟨h1, h2, rfl, h.log.plen, m2, by rw [hn]; exact h3, h4⟩
theorem WInv.commit {N f : Nat} {d : DM} {m : WL} (l : List Ch) (h : WInv N f d m) (hf : f + 52 ≤ N) (hN : N ≤ 1000) : Ends N f d m l (commitM d ((f : Int), 52) m l) := by
 have hd := h.log.dead
 unfold commitM
 rw [if_neg (by rw [hd]; decide)]
 by_cases hv : validM l = false
 ·rw [if_pos hv]; exact .inr (.inl ⟨.inl rfl, rfl, rfl⟩)
 rw [if_neg hv]
 have hv1 : validM l = true := by cases hq : validM l with | true => rfl | false => exact absurd hq hv
 have hn : nextL m.pages l = applyL m.pages l := if_pos hv1
 obtain ⟨hv16, hok⟩ := validM_ok hv1
 by_cases hl : l.length = 0
 ·rw [if_pos hl]
  have : l = [] := List.length_eq_zero_iff.1 hl
  subst this
  exact .inl ⟨rfl, h, hn.symm⟩
 rw [if_neg hl]
 by_cases hfull : 18 < m.used + l.length + 1
 ·rw [if_pos hfull]
  by_cases hmax : m.epoch = 4294967295
  ·rw [if_pos hmax]; exact .inr (.inl ⟨.inr rfl, rfl, rfl⟩)
  rw [if_neg hmax]
  rcases h.home hf hN hmax with ⟨h1, h2⟩ | ⟨h1, h2, m2, h3, h4⟩
  ·rw [if_pos h1]
   exact (h2.recM hf hN hv1 (by dsimp only; omega)).imp id .inr
  ·rw [if_neg (by rw [h1]; decide)]; exact .inr (.inr ⟨h1, h2, rfl, h.log.plen, m2, .inl h3, h4⟩)
 ·rw [if_neg hfull]
  exact (h.recM hf hN hv1 (by omega)).imp id .inr
structure From (P : Nat → List UInt8 → Prop) (d d' : DM) : Prop where
 sec : ∀ k, d'.sec k = d.sec k ∨ P k (d'.sec k)
 pnd : ∀ p ∈ d'.pend, P p.1 p.2
theorem From.trans {P : Nat → List UInt8 → Prop} {a b c : DM} (h : From P a b) (k : From P b c) : From P a c := ⟨fun i => by
 rcases k.sec i with e | e
 ·rw [e]; exact h.sec i
 ·exact .inr e, k.pnd⟩
theorem From.refl {P : Nat → List UInt8 → Prop} {d : DM} (h : ∀ p ∈ d.pend, P p.1 p.2) : From P d d := ⟨fun _ => .inl rfl, h⟩
theorem set_sec (s : List (List UInt8)) (n k : Nat) (b : List UInt8) : (s.set n b)[k]?.getD [] = s[k]?.getD [] ∨ (n = k ∧ (s.set n b)[k]?.getD [] = b) := by
 by_cases e : n = k
 ·subst e
  by_cases hl : n < s.length
  ·exact .inr ⟨rfl, by rw [List.getElem?_set_self hl]; rfl⟩
  ·left
   rw [List.set_eq_of_length_le (by omega)]
 ·left; rw [List.getElem?_set_ne e]
theorem layAll_sec {P : Nat → List UInt8 → Prop} (k : Nat) : ∀ (p : List (Nat × List UInt8)) (s : List (List UInt8)), (∀ q ∈ p, P q.1 q.2) → (layAll s p)[k]?.getD [] = s[k]?.getD [] ∨ P k ((layAll s p)[k]?.getD [])
 | [], s, _ => .inl rfl
 | q :: p, s, h => by
  have e : layAll s (q :: p) = layAll (s.set q.1 q.2) p := rfl
  rw [e]
  rcases layAll_sec k p (s.set q.1 q.2) (fun r hr => h r (by simp [hr])) with h1 | h1
  ·rcases set_sec s q.1 k q.2 with h2 | ⟨h2, h3⟩
   ·left; rw [h1, h2]
   ·right; rw [h1, h3, ← h2]; exact h q (by simp)
  ·exact .inr h1
theorem layS_sec {P : Nat → List UInt8 → Prop} (k : Nat) : ∀ (p : List (Nat × List UInt8)) (s : List (List UInt8)) (b : List Bool), (∀ q ∈ p, P q.1 q.2) → (layS s p b)[k]?.getD [] = s[k]?.getD [] ∨ P k ((layS s p b)[k]?.getD [])
 | [], s, b, _ => by simp [layS]
 | _ :: _, s, [], _ => by simp [layS]
 | q :: p, s, b :: bs, h => by
  rw [layS]
  rcases layS_sec k p (if b = true then s.set q.1 q.2 else s) bs (fun r hr => h r (by simp [hr])) with h1 | h1
  ·rw [h1]
   cases b
   ·exact .inl rfl
   ·rcases set_sec s q.1 k q.2 with h2 | ⟨h2, h3⟩
    ·left; rw [if_pos rfl, h2]
    ·right; rw [if_pos rfl, h3, ← h2]; exact h q (by simp)
  ·exact .inr h1
section
variable {P : Nat → List UInt8 → Prop} {d : DM}
theorem From.crash (h : ∀ p ∈ d.pend, P p.1 p.2) (sv : List Bool) : From P d (d.crash sv) := by
 unfold DM.crash
 split
 ·exact From.refl h
 ·exact ⟨fun k => layS_sec k d.pend d.secs sv h, fun p hp => by cases hp⟩
theorem From.powered (h : ∀ p ∈ d.pend, P p.1 p.2) : From P d d.powered.1 := by
 unfold DM.powered
 split
 ·exact From.refl h
 ·split
  ·exact From.crash h _
  ·exact ⟨fun _ => .inl rfl, h⟩
theorem From.write (h : ∀ p ∈ d.pend, P p.1 p.2) {n : Int} {b : List UInt8} (hb : d.inB n = true → P n.toNat b) : From P d (d.write n b).1 := by
 unfold DM.write
 split
 ·rename_i hin
  split
  ·split
   ·have hp := From.powered h
    refine ⟨hp.sec, fun p hq => ?_⟩
    rcases List.mem_append.1 hq with hq | hq
    ·exact hp.pnd p hq
    ·rw [List.mem_singleton] at hq; subst hq; exact hb hin
   ·exact From.powered h
  ·exact From.refl h
 ·exact From.refl h
theorem From.flush (h : ∀ p ∈ d.pend, P p.1 p.2) : From P d d.flush.1 := by
 unfold DM.flush
 split
 ·have hp := From.powered h
  refine hp.trans ⟨fun k => layAll_sec k _ _ hp.pnd, fun p hp => by cases hp⟩
 ·exact From.powered h
theorem From.pwrite {f c a : Nat} {b : List UInt8} (h : ∀ p ∈ d.pend, P p.1 p.2) (hb : P (f + a) b) : From P d (pwrite d ((f : Int), (c : Int)) (a : Int) b).1 := by
 unfold Go.Proofs.YtgilmcpdpggikaaGreatDoor.pwrite
 dsimp only
 split
 ·rename_i hz
  refine From.write h (fun _ => ?_)
  have e : (placeM (f : Int) (c : Int) (a : Int)).1 = ((f + a : Nat) : Int) := by
   unfold placeM at hz ⊢
   split at hz
   ·exact absurd hz (by simp)
   ·rename_i h1
    rw [if_neg h1]
    split at hz
    ·exact absurd hz (by simp)
    ·rename_i h2
     rw [if_neg h2]
     dsimp only
     omega
  rw [e, Int.toNat_natCast]
  exact hb
 ·exact From.refl h
theorem From.run {f c : Nat} : ∀ (l : List St) (d : DM), (∀ p ∈ d.pend, P p.1 p.2) → (∀ a b, St.w a b ∈ l → P (f + a) b) → From P d (run ((f : Int), (c : Int)) l d).1
 | [], d, h, _ => From.refl h
 | .w a b :: r, d, h, hl => by
  have h1 := From.pwrite (c := c) h (hl a b (by simp))
  rw [Go.Proofs.YtgilmcpdpggikaaGreatDoor.run]
  split
  ·exact h1.trans (From.run r _ h1.pnd (fun a' b' hm => hl a' b' (by simp [hm])))
  ·exact h1
 | .f :: r, d, h, hl => by
  have h1 := From.flush h
  rw [Go.Proofs.YtgilmcpdpggikaaGreatDoor.run]
  split
  ·exact h1.trans (From.run r _ h1.pnd (fun a' b' hm => hl a' b' (by simp [hm])))
  ·exact h1
end
theorem mem_wS {q : List (Nat × List UInt8)} {a : Nat} {b : List UInt8} (h : St.w a b ∈ wS q) : (a, b) ∈ q := by
 obtain ⟨p, hp, e⟩ := List.mem_map.1 h
 cases e
 exact hp
def MayW (f : Nat) (m : WL) (k : Nat) (b : List UInt8) : Prop := f ≤ k ∧ k < f + 52 ∧ (k < f + 2 → k = f + (m.epoch + 1) % 2 ∧ b = headB (m.epoch + 1) (1 - m.home))
theorem home_may {f : Nat} {m : WL} (hm : m.home ≤ 1) {a : Nat} {b : List UInt8} (h : St.w a b ∈ homeSteps (m.epoch + 1) (1 - m.home) m.pages) : MayW f m (f + a) b := by
 unfold homeSteps at h
 rw [homeFrom_eq] at h
 rcases List.mem_append.1 h with h | h
 ·obtain ⟨j, _, hj, e⟩ := hW_mem (mem_wS h)
  cases e
  exact ⟨by omega, by omega, fun h2 => absurd h2 (by omega)⟩
 ·rcases List.mem_cons.1 h with h | h
  ·cases h
  rcases List.mem_append.1 h with h | h
  ·have := mem_wS h
   rw [List.mem_singleton] at this
   cases this
   exact ⟨by omega, by omega, fun _ => ⟨rfl, rfl⟩⟩
  ·rcases List.mem_cons.1 h with h | h
   ·cases h
   ·cases h
theorem recs_may {f e u : Nat} {m : WL} {l : List Ch} (hu : u + l.length + 1 ≤ 18) {a : Nat} {b : List UInt8} (h : St.w a b ∈ recSteps e u l) : MayW f m (f + a) b := by
 rw [recSteps_eq] at h
 rcases List.mem_append.1 h with h | h
 ·obtain ⟨j, hj, e⟩ := rW_mem (mem_wS h)
  cases e
  exact ⟨by omega, by omega, fun h2 => absurd h2 (by omega)⟩
 ·rcases List.mem_cons.1 h with h | h
  ·cases h
  rcases List.mem_append.1 h with h | h
  ·have := mem_wS h
   rw [List.mem_singleton] at this
   cases this
   exact ⟨by omega, by omega, fun h2 => absurd h2 (by omega)⟩
  ·rcases List.mem_cons.1 h with h | h
   ·cases h
   ·cases h
theorem From.recM {f c : Nat} {m m0 : WL} {d : DM} {l : List Ch} (hp : ∀ p ∈ d.pend, MayW f m0 p.1 p.2) (hu : m.used + l.length + 1 ≤ 18) : From (MayW f m0) d (recM d ((f : Int), (c : Int)) m l).1 := by
 have h := From.run (c := c) (recSteps m.epoch m.used l) d hp (fun a b h => recs_may (m := m0) hu h)
 unfold Go.Proofs.YtgilmcpdpggikaaGreatDoor.recM
 split <;> exact h
theorem From.commit {f c : Nat} {m : WL} {d : DM} {l : List Ch} (hp : d.pend = []) (hm : m.home ≤ 1) : From (MayW f m) d (commitM d ((f : Int), (c : Int)) m l).1 := by
 have hp' : ∀ p ∈ d.pend, MayW f m p.1 p.2 := by rw [hp]; intro p h; cases h
 unfold commitM
 split
 ·exact From.refl hp'
 split
 ·exact From.refl hp'
 rename_i hv
 split
 ·exact From.refl hp'
 have hl : l.length ≤ 16 := by
  cases hq : validM l with
  | true => exact (validM_ok hq).1
  | false => exact absurd hq hv
 split
 ·split
  ·exact From.refl hp'
  ·have h := From.run (c := c) (homeSteps (m.epoch + 1) (1 - m.home) m.pages) d hp' (fun a b h => home_may hm h)
   split
   ·exact h.trans (From.recM h.pnd (by dsimp only; omega))
   ·exact h
 ·exact From.recM hp' (by omega)
theorem commit_ep {f c : Nat} {m m2 : WL} {d : DM} {l : List Ch} (h : LgC (secF f d) m) (hp : d.pend = []) (h2 : LgC (secF f (commitM d ((f : Int), (c : Int)) m l).1) m2) : m2.epoch ≤ m.epoch + 1 := by
 have hF := From.commit (f := f) (c := c) (l := l) hp h.home
 have hi : m2.epoch % 2 < 2 := Nat.mod_lt _ (by decide)
 have hh := h2.head
 have hc2 := cand_head h2.ep h2.home
 have hsec : ∀ k, secF f (commitM d ((f : Int), (c : Int)) m l).1 k = (commitM d ((f : Int), (c : Int)) m l).1.sec (f + k) := fun _ => rfl
 rcases hF.sec (f + m2.epoch % 2) with e | ⟨_, _, e⟩
 ·rw [hsec, e] at hh
  have hh' : secF f d (m2.epoch % 2) = headB m2.epoch m2.home := hh
  by_cases hm : m2.epoch % 2 = m.epoch % 2
  ·have hc1 := cand_head h.ep h.home
   rw [← h.head, ← hm, hh', hc2] at hc1
   have := (Prod.mk.inj (Option.some.inj hc1)).1
   omega
  ·have hm' : m2.epoch % 2 = 1 - m.epoch % 2 := by omega
   have := h.oth m2.epoch m2.home (by rw [← hm', hh', hc2])
   omega
 ·obtain ⟨e1, e2⟩ := e (by omega)
  rw [hsec, e2] at hh
  by_cases hb : m.epoch + 1 < 2 ^ 32
  ·have hc1 := cand_head hb (show 1 - m.home ≤ 1 by omega)
   rw [hh, show (m.epoch + 1) % 2 = m2.epoch % 2 by omega, hc2] at hc1
   have := (Prod.mk.inj (Option.some.inj hc1)).1
   omega
  ·have := h2.ep
   omega
theorem place_c {f c a : Nat} (ha : a < 52) (hc : 52 ≤ c) : placeM (f : Int) (c : Int) (a : Int) = placeM (f : Int) 52 (a : Int) := by
 unfold placeM
 have h1 : ¬ ((a : Int) < 0 ∨ (c : Int) ≤ a) := by omega
 have h2 : ¬ ((a : Int) < 0 ∨ (52 : Int) ≤ a) := by omega
 rw [if_neg h1, if_neg h2]
theorem pwrite_c {d : DM} {f c a : Nat} {b : List UInt8} (ha : a < 52) (hc : 52 ≤ c) : pwrite d ((f : Int), (c : Int)) (a : Int) b = pwrite d ((f : Int), 52) (a : Int) b := by
 unfold pwrite
 dsimp only
 rw [place_c ha hc]
theorem run_c {f c : Nat} (hc : 52 ≤ c) : ∀ (l : List St) (d : DM), (∀ a b, St.w a b ∈ l → a < 52) → run ((f : Int), (c : Int)) l d = run ((f : Int), 52) l d
 | [], d, _ => rfl
 | .w a b :: r, d, h => by
  rw [run, run, pwrite_c (h a b (by simp)) hc]
  split
  ·exact run_c hc r _ (fun a' b' hm => h a' b' (by simp [hm]))
  ·rfl
 | .f :: r, d, h => by
  rw [run, run]
  split
  ·exact run_c hc r _ (fun a' b' hm => h a' b' (by simp [hm]))
  ·rfl
theorem commit_c {f c : Nat} (hc : 52 ≤ c) {m : WL} {d : DM} {l : List Ch} (hm : m.home ≤ 1) : commitM d ((f : Int), (c : Int)) m l = commitM d ((f : Int), 52) m l := by
 have hr : ∀ (m : WL) (d : DM), m.used + l.length + 1 ≤ 18 → recM d ((f : Int), (c : Int)) m l = recM d ((f : Int), 52) m l := fun m d hu => by
  unfold recM
  rw [run_c hc _ _ (fun a b h => by have := (recs_may (f := 0) (m := m) hu h).2.1; omega)]
 unfold commitM
 split
 ·rfl
 split
 ·rfl
 rename_i hv
 split
 ·rfl
 have hl : l.length ≤ 16 := by
  cases hq : validM l with
  | true => exact (validM_ok hq).1
  | false => exact absurd hq hv
 split
 ·split
  ·rfl
  ·rw [run_c hc _ _ (fun a b h => by have := (home_may (f := 0) hm h).2.1; omega)]
   split
   ·exact hr _ _ (by dsimp only; omega)
   ·rfl
 ·exact hr _ _ (by omega)
def pgsOf (ps : List UInt8) : List (List UInt8) := (List.range 16).map (getP ps)
theorem pgsOf_len (ps : List UInt8) : (pgsOf ps).length = 16 := by simp [pgsOf]
theorem pgsOf_get {ps : List UInt8} {i : Nat} (h : i < 16) : (pgsOf ps)[i]?.getD [] = getP ps i := by
 unfold pgsOf
 rw [List.getElem?_map, List.getElem?_range h]; rfl
theorem getP_setP {ps b : List UInt8} {p i : Nat} (hl : ps.length = 640) (hb : b.length = 40) (hp : p < 16) (hi : i < 16) : getP (setP ps p b) i = if i = p then b else getP ps i := by
 unfold getP setP
 have ht : (ps.take (p * 40)).length = p * 40 := by rw [List.length_take]; omega
 by_cases h : i = p
 ·subst h
  rw [if_pos rfl, List.drop_left' ht]
  exact List.take_left' hb
 ·rw [if_neg h]
  by_cases h2 : i < p
  ·rw [List.drop_append_of_le_length (by omega), List.take_append_of_le_length (by rw [List.length_drop]; omega), List.drop_take, List.take_take, Nat.min_eq_left (by omega)]
  ·rw [List.drop_append, List.drop_eq_nil_of_le (by omega), List.nil_append, ht, List.drop_append, List.drop_eq_nil_of_le (by omega), List.nil_append, hb, List.drop_drop]
   congr 2
   omega
def fmtQ : List (Nat × List UInt8) := (List.range' 0 18).map (fun i => (34 + i, z64)) ++ hW 1 0 z640 16 0
theorem formatSteps_eq : formatSteps = wS fmtQ ++ .f :: (wS [(1, headB 1 0)] ++ .f :: []) := by
 have h1 : formatSteps = wS ((List.range' 0 18).map (fun i => (34 + i, z64))) ++ homeSteps 1 0 z640 := rfl
 rw [h1, homeSteps, homeFrom_eq, ← List.append_assoc]
 have h2 : ∀ a b, wS (a ++ b) = wS a ++ wS b := fun a b => List.map_append
 rw [fmtQ, h2]
theorem fmtQ_mem {p : Nat × List UInt8} (hp : p ∈ fmtQ) : (∃ i, i < 18 ∧ p = (34 + i, z64)) ∨ ∃ i, i < 16 ∧ p = (2 + i, pageB 1 i z640) := by
 rcases List.mem_append.1 hp with h | h
 ·obtain ⟨i, hi, rfl⟩ := List.mem_map.1 h
  have := List.mem_range'_1.1 hi
  exact .inl ⟨i, by omega, rfl⟩
 ·obtain ⟨i, _, hi, rfl⟩ := hW_mem h
  exact .inr ⟨i, by omega, by simp⟩
theorem rec_z64 (e k : Nat) : recStep z64 e k = none := by
 have h1 : decW 82 42 z64 = none := by decide +kernel
 have h2 : decW 67 1 z64 = none := by decide +kernel
 unfold recStep
 rw [h1, h2]
theorem cand_z64 : candW z64 0 = none := by decide +kernel
theorem fmt_inv {f : Nat} (hf : f ≤ 8) : WInv 60 f (fmtD f) awM := by
 have hfree := (fmt_free (f := f) (by omega)).1
 have hD : fmtD f = (run ((f : Int), 52) formatSteps (DM.new 60)).1 := rfl
 rw [formatSteps_eq] at hfree hD
 have hnl : (DM.new 60).secs.length = 60 := by simp [DM.new]
 have hok : ∀ p ∈ fmtQ, p.1 < 52 ∧ p.2.length = 64 := fun p hp => by
  rcases fmtQ_mem hp with ⟨i, hi, rfl⟩ | ⟨i, hi, rfl⟩
  ·exact ⟨by dsimp only; omega, rfl⟩
  ·exact ⟨by dsimp only; omega, secW_len (by rw [List.length_append, getP_len (ps := z640) List.length_replicate (by omega)]; simp)⟩
 have hok2 : ∀ p ∈ [(1, headB 1 0)], p.1 < 52 ∧ p.2.length = 64 := fun p hp => by
  rw [List.mem_singleton] at hp
  subst hp
  exact ⟨by decide, secW_len (by simp)⟩
 rcases run_phase (N := 60) (f := f) (by omega) (by decide) (wS [(1, headB 1 0)] ++ .f :: []) fmtQ (DM.new 60) rfl hnl hok with ⟨d1, a1, a2, a3, a4⟩ | ⟨d1, _, a4⟩
 rotate_left
 ·rw [a4] at hfree; exact absurd hfree (by dsimp only; decide)
 rw [a4] at hfree hD
 have a3' : d1.secs = layAll (DM.new 60).secs ([] ++ wP f fmtQ) := a3
 have hl1 : d1.secs.length = 60 := by rw [a3', layAll_len]; exact hnl
 rcases run_phase (N := 60) (f := f) (by omega) (by decide) [] [(1, headB 1 0)] d1 a1 hl1 hok2 with ⟨d2, b1, b2, b3, b4⟩ | ⟨d2, _, b4⟩
 rotate_left
 ·rw [b4] at hfree; exact absurd hfree (by dsimp only; decide)
 rw [b4] at hD
 rw [a2] at b3
 have hl2 : d2.secs.length = 60 := by rw [b3, layAll_len]; exact hl1
 have hD2 : fmtD f = d2 := hD
 rw [hD2]
 have h34 : ∀ j, j < 18 → secF f d2 (34 + j) = z64 := fun j hj => by
  refine lay_in b3 hl1 (by omega) (fun p hp e => ?_) (.inr ?_)
  ·rw [List.mem_singleton] at hp; subst hp; dsimp only at e; omega
  refine lay_in a3' hnl (by omega) (fun p hp e => ?_) (.inl ⟨(34 + j, z64), List.mem_append_left _ (List.mem_map.2 ⟨j, List.mem_range'_1.2 ⟨Nat.zero_le _, by omega⟩, rfl⟩), rfl⟩)
  rcases fmtQ_mem hp with ⟨i, hi, rfl⟩ | ⟨i, hi, rfl⟩
  ·rfl
  ·dsimp only at e; omega
 have hpg : ∀ i, i < 16 → secF f d2 (2 + i) = pageB 1 i z640 := fun i hi => by
  refine lay_in b3 hl1 (by omega) (fun p hp e => ?_) (.inr ?_)
  ·rw [List.mem_singleton] at hp; subst hp; dsimp only at e; omega
  refine lay_in a3' hnl (by omega) (fun p hp e => ?_) (.inl ⟨(2 + 16 * 0 + i, pageB 1 i z640), List.mem_append_right _ (hW_has (Nat.zero_le _) (by omega)), by simp⟩)
  rcases fmtQ_mem hp with ⟨j, hj, rfl⟩ | ⟨j, hj, rfl⟩
  ·dsimp only at e; omega
  ·dsimp only at e
   have : j = i := by omega
   subst this; rfl
 have h0 : secF f d2 0 = z64 := by
  refine lay_in b3 hl1 (by omega) (fun p hp e => ?_) (.inr ?_)
  ·rw [List.mem_singleton] at hp; subst hp; dsimp only at e; omega
  refine lay_in a3' hnl (by omega) (fun p hp e => ?_) (.inr ?_)
  ·rcases fmtQ_mem hp with ⟨j, hj, rfl⟩ | ⟨j, hj, rfl⟩ <;> (dsimp only at e; omega)
  ·unfold secF DM.new
   simp only [List.getElem?_replicate]
   rw [if_pos (by omega)]; rfl
 refine ⟨b1, b2, hl2, ⟨by decide, by decide, by decide, List.length_replicate, rfl, ?_, fun e' h' hc => ?_, ⟨z640, List.length_replicate, fun i hi => ?_, ?_⟩, fun k e' hk _ => ?_, fun k _ hk => ?_⟩⟩
 ·exact lay_in b3 hl1 (by show f + 1 < 60; omega) (fun p hp e => by rw [List.mem_singleton] at hp; subst hp; rfl) (.inl ⟨_, List.mem_singleton.2 rfl, rfl⟩)
 ·have hc' : candW (secF f d2 0) 0 = some (e', h') := hc
  rw [h0, cand_z64] at hc'
  cases hc'
 ·exact hpg i hi
 ·exact recsC_end 18 0 z640 0 [] (fun j _ hj => by rw [h34 j (by omega), rec_z64]; simp)
 ·rw [h34 k hk, rec_z64]; simp
 ·rw [h34 k hk, rec_z64]; simp
theorem arm_off {d : DM} (n : Int) (sv : List Bool) : (d.arm n sv).off = d.off ∧ (d.arm n sv).secs = d.secs ∧ (d.arm n sv).pend = d.pend := by
 unfold DM.arm DM.disarm
 split
 ·exact ⟨rfl, rfl, rfl⟩
 ·split <;> exact ⟨rfl, rfl, rfl⟩
theorem secF_congr {f : Nat} {d d' : DM} (h : d'.secs = d.secs) : secF f d' = secF f d := by funext k; unfold secF; rw [h]
theorem WInv.arm {N f : Nat} {d : DM} {m : WL} (h : WInv N f d m) (n : Int) (sv : List Bool) : WInv N f (d.arm n sv) m := by
 obtain ⟨h1, h2, h3⟩ := arm_off (d := d) n sv
 exact ⟨h1.trans h.off, h3.trans h.pend, by rw [h2]; exact h.len, by rw [secF_congr h2]; exact h.log⟩
theorem WInv.powered {N f : Nat} {d : DM} {m : WL} (h : LgC (secF f d) m) (hl : d.secs.length = N) : WInv N f d.power m := ⟨rfl, rfl, hl, h⟩
section
variable {s : Ro} {w : World} {R : List Asn}
end
end Go.Proofs.YtgilmcpdpggikaaGreatDoor
namespace Go.Own
open Go Go.RowKit
section
variable {P : Program} {n : Nat} {ops : Array Oper} {Q : Post} {rest : List Oper} {e : Env} {w w' : World} {s : Ro} {rs : List Asn} {tt : Nat} {pp : String} {af : Array Edge} {g : Option (Nat × Bool)} {d : Nat}
end
end Go.Own
namespace Go.Proofs.YtgilmcpdpggikaaGreatDoor
open Go Go.RowKit Go.Own
section
variable {s : Ro} {w : World} {R : List Asn}
theorem calm_inv {N f : Nat} {d : DM} {m : WL} (h : LgC (secF f d) m) (hl : d.secs.length = N) : WInv N f (d.arm (-1) []).power m := by
 obtain ⟨c1, c2, c3, c4⟩ := calm_facts d
 exact ⟨c1, c3, by rw [show (d.arm (-1) []).power = calmD d from rfl, c4]; exact hl, by rw [secF_congr (d := d) (d' := (d.arm (-1) []).power) c4]; exact h⟩
end
def blankL (l : List Str) : Bool := l.all fun p => p.all fun c => decide (c = 0)
def treeOf (ps : List UInt8) : TR × Int := if blankL (pgsOf ps) = true then (TR.new, 0) else parseM (pgsOf ps)
def pgT (t : TR) (i : Nat) : Str := (pagesM t)[i]?.getD []
def chgTo (ps : List UInt8) (t : TR) (k : Nat) : List Ch := ((List.range k).filter fun i => decide (getP ps i ≠ pgT t i)).map fun (i : Nat) => (⟨(i : Int), pgT t i⟩ : Ch)
def chgM (ps : List UInt8) (t : TR) : List Ch := chgTo ps t 16
def flatT (t : TR) : List UInt8 := (pagesM t).flatten
theorem chgTo_succ (ps : List UInt8) (t : TR) (k : Nat) : chgTo ps t (k + 1) = if getP ps k = pgT t k then chgTo ps t k else chgTo ps t k ++ [⟨(k : Int), pgT t k⟩] := by
 unfold chgTo
 rw [List.range_succ, List.filter_append, List.map_append]
 by_cases h : getP ps k = pgT t k
 ·rw [if_pos h]; simp [h]
 ·rw [if_neg h]; simp [h]
theorem chgTo_le (ps : List UInt8) (t : TR) (k : Nat) : (chgTo ps t k).length ≤ k := by
 unfold chgTo
 rw [List.length_map]
 have := List.length_filter_le (fun i => decide (getP ps i ≠ pgT t i)) (List.range k)
 rw [List.length_range] at this
 exact this
theorem pgT_len {t : TR} (ht : t.Ok) (hc : checkM t = true) {i : Nat} (hi : i < 16) : (pgT t i).length = 40 := by
 have h16 := pages_len ht hc
 unfold pgT
 rw [List.getElem?_eq_getElem (by rw [h16]; exact hi)]
 exact pages_40 ht hc _ (List.getElem_mem _)
theorem chgTo_ok {t : TR} (ht : t.Ok) (hc : checkM t = true) (ps : List UInt8) {k : Nat} (hk : k ≤ 16) : ∀ c ∈ chgTo ps t k, c.Ok := by
 intro c hm
 unfold chgTo at hm
 obtain ⟨i, hi, rfl⟩ := List.mem_map.1 hm
 have hi2 := List.mem_range.1 (List.mem_filter.1 hi).1
 refine ⟨?_, ?_, ?_⟩
 ·dsimp only; omega
 ·dsimp only; omega
 ·exact pgT_len ht hc (by omega)
theorem chg_valid {t : TR} (ht : t.Ok) (hc : checkM t = true) (ps : List UInt8) : validM (chgM ps t) = true := by
 unfold validM
 rw [Bool.and_eq_true, decide_eq_true_eq, List.all_eq_true]
 refine ⟨chgTo_le _ _ _, fun c hm => decide_eq_true ?_⟩
 exact chgTo_ok ht hc ps (Nat.le_refl _) c hm
theorem getP_get {ps : List UInt8} {n : Nat} : ps[n]? = (getP ps (n / 40))[n % 40]? := by
 unfold getP
 rw [List.getElem?_take, if_pos (Nat.mod_lt _ (by decide)), List.getElem?_drop]
 congr 1
 omega
theorem getP_ext {p q : List UInt8} (hp : p.length = 640) (hq : q.length = 640) (h : ∀ i, i < 16 → getP p i = getP q i) : p = q := by
 refine List.ext_getElem? (fun n => ?_)
 by_cases hn : n < 640
 ·rw [getP_get, h _ (by omega), ← getP_get]
 ·rw [List.getElem?_eq_none (by omega), List.getElem?_eq_none (by omega)]
theorem getP_flat : ∀ {l : List Str} {i : Nat}, (∀ p ∈ l, p.length = 40) → i < l.length → getP l.flatten i = l[i]?.getD []
 | [], i, _, h => absurd h (Nat.not_lt_zero _)
 | p :: l, 0, hl, h => by
  unfold getP
  rw [List.flatten_cons, Nat.zero_mul, List.drop_zero, List.take_left' (hl p (by simp))]
  rfl
 | p :: l, i + 1, hl, h => by
  have h40 := hl p (by simp)
  have := getP_flat (l := l) (i := i) (fun q hq => hl q (by simp [hq])) (by simpa using h)
  rw [List.getElem?_cons_succ, ← this]
  unfold getP
  rw [List.flatten_cons, List.drop_append, List.drop_eq_nil_of_le (by omega), List.nil_append, h40, show (i + 1) * 40 - 40 = i * 40 by omega]
theorem flat_len : ∀ {l : List Str}, (∀ p ∈ l, p.length = 40) → l.flatten.length = 40 * l.length
 | [], _ => rfl
 | p :: l, hl => by
  rw [List.flatten_cons, List.length_append, flat_len (fun q hq => hl q (by simp [hq])), hl p (by simp), List.length_cons]
  omega
section
variable {t : TR} {ps : List UInt8}
theorem flatT_len (ht : t.Ok) (hc : checkM t = true) : (flatT t).length = 640 := by
 unfold flatT
 rw [flat_len (pages_40 ht hc), pages_len ht hc]
theorem getP_flatT (ht : t.Ok) (hc : checkM t = true) {i : Nat} (hi : i < 16) : getP (flatT t) i = pgT t i := getP_flat (pages_40 ht hc) (by rw [pages_len ht hc]; exact hi)
theorem applyL_snoc (ps : List UInt8) (l : List Ch) (c : Ch) : applyL ps (l ++ [c]) = setP (applyL ps l) c.page.toNat c.data := by
 unfold applyL
 rw [List.foldl_append]; rfl
theorem apply_to (ht : t.Ok) (hc : checkM t = true) (hl : ps.length = 640) : ∀ k, k ≤ 16 → ∀ i, i < 16 → getP (applyL ps (chgTo ps t k)) i = if i < k then pgT t i else getP ps i
 | 0, _, i, _ => by rw [if_neg (Nat.not_lt_zero _)]; rfl
 | k + 1, hk, i, hi => by
  have ih := apply_to ht hc hl k (by omega) i hi
  have hlen := applyL_len (chgTo_ok ht hc ps (show k ≤ 16 by omega)) hl
  rw [chgTo_succ]
  by_cases h : getP ps k = pgT t k
  ·rw [if_pos h, ih]
   by_cases hik : i = k
   ·subst hik; rw [if_neg (Nat.lt_irrefl _), if_pos (by omega), h]
   ·by_cases h2 : i < k
    ·rw [if_pos h2, if_pos (by omega)]
    ·rw [if_neg h2, if_neg (by omega)]
  ·rw [if_neg h, applyL_snoc]
   dsimp only
   rw [Int.toNat_natCast, getP_setP hlen (pgT_len ht hc (by omega)) (by omega) hi, ih]
   by_cases hik : i = k
   ·subst hik; rw [if_pos rfl, if_pos (by omega)]
   ·rw [if_neg hik]
    by_cases h2 : i < k
    ·rw [if_pos h2, if_pos (by omega)]
    ·rw [if_neg h2, if_neg (by omega)]
theorem apply_chg (ht : t.Ok) (hc : checkM t = true) (hl : ps.length = 640) : applyL ps (chgM ps t) = flatT t := by
 refine getP_ext (applyL_len (chgTo_ok ht hc ps (Nat.le_refl _)) hl) (flatT_len ht hc) (fun i hi => ?_)
 have := apply_to ht hc hl 16 (Nat.le_refl _) i hi
 rw [if_pos hi] at this
 exact this.trans (getP_flatT ht hc hi).symm
theorem next_chg (ht : t.Ok) (hc : checkM t = true) (hl : ps.length = 640) : nextL ps (chgM ps t) = flatT t := by
 unfold nextL
 rw [if_pos (chg_valid ht hc ps), apply_chg ht hc hl]
theorem chg_nil (ht : t.Ok) (hc : checkM t = true) (hl : ps.length = 640) (h : (chgM ps t).length = 0) : ps = flatT t := by
 have := apply_chg ht hc hl
 rw [List.length_eq_zero_iff.1 h] at this
 exact this
theorem chg_self (ht : t.Ok) (hc : checkM t = true) : chgM (flatT t) t = [] := by
 unfold chgM chgTo
 rw [List.filter_eq_nil_iff.2 (fun i hi => by
  rw [List.mem_range] at hi
  simp [getP_flatT ht hc hi])]
 rfl
theorem pgsOf_flat (ht : t.Ok) (hc : checkM t = true) : pgsOf (flatT t) = pagesM t := by
 refine List.ext_getElem? (fun i => ?_)
 by_cases hi : i < 16
 ·have h1 := getP_flatT ht hc hi
  unfold pgsOf
  rw [List.getElem?_map, List.getElem?_range hi, Option.map_some, h1, pgT, List.getElem?_eq_getElem (by rw [pages_len ht hc]; exact hi)]
  rfl
 ·rw [List.getElem?_eq_none (by rw [pgsOf_len]; omega), List.getElem?_eq_none (by rw [pages_len ht hc]; omega)]
theorem blank_pages (ht : t.Ok) (hc : checkM t = true) : blankL (pagesM t) = false := by
 have h0 := (check_iff.1 hc).1
 have hp : (pagesM t)[0]? = some (pageM (t.n 0)) := by
  rw [pages_eq hc, List.getElem?_append_left (by rw [List.length_map, ht.n8]; decide), List.getElem?_map, TR.n_eq ht (by decide)]; rfl
 have hm : pageM (t.n 0) ∈ pagesM t := List.mem_of_getElem? hp
 unfold blankL
 cases hq : (pagesM t).all (fun p => p.all fun c => decide (c = 0)) with
 | false => rfl
 | true =>
  rw [List.all_eq_true] at hq
  have := hq _ hm
  rw [h0] at this
  exact absurd this (by decide)
theorem tree_flat (ht : t.Ok) (hc : checkM t = true) : treeOf (flatT t) = (t, 0) := by
 unfold treeOf
 rw [pgsOf_flat ht hc, blank_pages ht hc, if_neg (by decide), parse_pages ht hc]
theorem tree_blank : treeOf z640 = (TR.new, 0) := by
 unfold treeOf
 rw [show blankL (pgsOf z640) = true by decide +kernel, if_pos rfl]
def syncM (d : DM) (x : Ext) (m : WL) (t : TR) : DM × WL × Int := if (chgM m.pages t).length = 0 then (d, m, if m.dead = true then 9 else 0) else commitM d x m (chgM m.pages t)
theorem commit_code {N f : Nat} {d : DM} {m : WL} {l : List Ch} (h : WInv N f d m) (hf : f + 52 ≤ N) (hN : N ≤ 1000) (hv : validM l = true) (he : m.epoch ≠ 4294967295) : (commitM d ((f : Int), 52) m l).2.2 = 0 ∨ (commitM d ((f : Int), 52) m l).2.2 = 9 := by
 have hd := h.log.dead
 unfold commitM
 rw [if_neg (by rw [hd]; decide), if_neg (by rw [hv]; decide)]
 obtain ⟨hv16, hok⟩ := validM_ok hv
 by_cases hl : l.length = 0
 ·rw [if_pos hl]; exact .inl rfl
 rw [if_neg hl]
 by_cases hfull : 18 < m.used + l.length + 1
 ·rw [if_pos hfull, if_neg he]
  rcases h.home hf hN he with ⟨h1, h2⟩ | ⟨h1, h2, m2, h3, h4⟩
  ·rw [if_pos h1]
   exact (h2.recM hf hN hv (by dsimp only; omega)).imp (·.1) (·.1)
  ·rw [if_neg (by rw [h1]; decide)]; exact .inr h1
 ·rw [if_neg hfull]
  exact (h.recM hf hN hv (by omega)).imp (·.1) (·.1)
def SEnds (N f : Nat) (m : WL) (t : TR) (r : DM × WL × Int) : Prop :=
 (r.2.2 = 0 ∧ WInv N f r.1 r.2.1 ∧ r.2.1.pages = flatT t ∧ r.2.1.epoch ≤ m.epoch + 1) ∨
 (r.2.2 = 9 ∧ WOff N f r.1 ∧ r.2.1.pages.length = 640 ∧ ∃ m2, (m2.pages = m.pages ∨ m2.pages = flatT t) ∧ LgC (secF f r.1) m2 ∧ m2.epoch ≤ m.epoch + 1)
theorem sync_ends {N f c : Nat} {d : DM} {m : WL} (ht : t.Ok) (hc : checkM t = true) (h : WInv N f d m) (hf : f + 52 ≤ N) (hN : N ≤ 1000) (h52 : 52 ≤ c) (he : m.epoch ≠ 4294967295) : SEnds N f m t (syncM d ((f : Int), (c : Int)) m t) := by
 have hn := next_chg ht hc h.log.plen
 unfold syncM
 by_cases hl : (chgM m.pages t).length = 0
 ·rw [if_pos hl]
  refine .inl ⟨?_, h, chg_nil ht hc h.log.plen hl, by dsimp only; omega⟩
  dsimp only
  rw [if_neg (by rw [h.log.dead]; decide)]
 rw [if_neg hl, commit_c h52 h.log.home]
 have hv := chg_valid ht hc m.pages
 have hcode := commit_code h hf hN hv he
 rcases h.commit (chgM m.pages t) hf hN with ⟨h1, h2, h3⟩ | ⟨h1, _, _⟩ | ⟨h1, h2, h3, h4, m2, h5, h6⟩
 ·exact .inl ⟨h1, h2, h3.trans hn, commit_ep h.log h.pend h2.log⟩
 ·rcases hcode with h | h <;> rcases h1 with k | k <;> rw [h] at k <;> cases k
 ·exact .inr ⟨h1, h2, h4, m2, by rw [← hn]; exact h5, h6, commit_ep h.log h.pend h6⟩
theorem commit_free {f : Nat} {d : DM} {m : WL} {l : List Ch} (h : WInv 60 f d m) (hf : f + 52 ≤ 60) (ha : d.armed = false) (hv : validM l = true) (he : m.epoch ≠ 4294967295) : (commitM d ((f : Int), 52) m l).2.2 = 0 ∧ (commitM d ((f : Int), 52) m l).1.armed = false := by
 have hfr : Fr0 60 d := ⟨h.off, ha, h.len⟩
 have hd := h.log.dead
 have hh := h.log.home
 have hpl := h.log.plen
 unfold commitM
 rw [if_neg (by rw [hd]; decide), if_neg (by rw [hv]; decide)]
 obtain ⟨hv16, hok⟩ := validM_ok hv
 by_cases hl : l.length = 0
 ·rw [if_pos hl]; exact ⟨rfl, ha⟩
 rw [if_neg hl]
 have hrec : ∀ (d : DM) (m : WL), Fr0 60 d → m.used + l.length + 1 ≤ 18 → (recM d ((f : Int), 52) m l).2.2 = 0 ∧ (recM d ((f : Int), 52) m l).1.armed = false := fun d m h hu => by
  obtain ⟨h1, h2, _⟩ := run_free hf _ h (rec_ok (e := m.epoch) l m.used hu hok)
  unfold recM
  rw [if_pos h1]
  exact ⟨rfl, h2.arm⟩
 by_cases hfull : 18 < m.used + l.length + 1
 ·rw [if_pos hfull, if_neg he]
  obtain ⟨h1, h2, _⟩ := run_free hf _ hfr (show (homeSteps (m.epoch + 1) (1 - m.home) m.pages).all okS = true from home_ok (by omega) hpl 16 0 (by decide))
  rw [if_pos h1]
  exact hrec _ _ h2 (by dsimp only; omega)
 ·rw [if_neg hfull]
  exact hrec _ _ hfr (by omega)
theorem sync_free {f : Nat} {d : DM} {m : WL} (ht : t.Ok) (hc : checkM t = true) (h : WInv 60 f d m) (hf : f + 52 ≤ 60) (ha : d.armed = false) (he : m.epoch ≠ 4294967295) : (syncM d ((f : Int), 52) m t).2.2 = 0 ∧ (syncM d ((f : Int), 52) m t).1.armed = false := by
 unfold syncM
 by_cases hl : (chgM m.pages t).length = 0
 ·rw [if_pos hl]
  refine ⟨?_, ha⟩
  dsimp only
  rw [if_neg (by rw [h.log.dead]; decide)]
 rw [if_neg hl]
 exact commit_free h hf ha (chg_valid ht hc _) he
end
end Go.Proofs.YtgilmcpdpggikaaGreatDoor

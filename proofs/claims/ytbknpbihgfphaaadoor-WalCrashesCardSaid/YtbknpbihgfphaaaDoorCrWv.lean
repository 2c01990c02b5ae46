/- wal: a commit in which the power may fail, plain. -/
import Derived.Test.YtbknpbihgfphaaaDoorCrWu
set_option linter.unusedSimpArgs false
set_option linter.unusedVariables false
namespace Go.Proofs.YtbknpbihgfphaaaDoor
open Go Go.RowKit Go.Own
def wS (q : List (Nat × List UInt8)) : List St := q.map fun p => St.w p.1 p.2
def wP (f : Nat) (q : List (Nat × List UInt8)) : List (Nat × List UInt8) := q.map fun p => (f + p.1, p.2)
/-- behind a failure each sector is as it was or one of those writes -/
structure Torn (d d1 : DM) (ps : List (Nat × List UInt8)) : Prop where
  off : d1.off = true
  pend : d1.pend = []
  len : d1.secs.length = d.secs.length
  sec : ∀ k : Nat, d1.secs[k]?.getD [] = d.secs[k]?.getD [] ∨ ∃ b, (k, b) ∈ ps ∧ d1.secs[k]?.getD [] = b
theorem Torn.of {d d1 : DM} {ps qs : List (Nat × List UInt8)} (h1 : d1.off = true) (h2 : d1.pend = []) (h3 : ∃ sv, d1.secs = layS d.secs ps sv) (hq : ∀ p ∈ ps, p ∈ qs) : Torn d d1 qs := by
  obtain ⟨sv, h3⟩ := h3
  refine ⟨h1, h2, by rw [h3, layS_len], fun k => ?_⟩
  rw [h3]
  exact (layS_get d.secs ps sv k).imp id (fun ⟨b, hb, e⟩ => ⟨b, hq _ hb, e⟩)
theorem run_phase {N f : Nat} (hf : f + 52 ≤ N) (hN : N ≤ 1000) (r : List St) : ∀ (q : List (Nat × List UInt8)) (d : DM), d.off = false → d.secs.length = N → (∀ p ∈ q, p.1 < 52 ∧ p.2.length = 64) →
    (∃ d1, d1.off = false ∧ d1.pend = [] ∧ d1.secs = layAll d.secs (d.pend ++ wP f q) ∧ run ((f : Int), 52) (wS q ++ .f :: r) d = run ((f : Int), 52) r d1) ∨ (∃ d1, Torn d d1 (d.pend ++ wP f q) ∧ run ((f : Int), 52) (wS q ++ .f :: r) d = (d1, 9))
  | [], d, ho, hl, _ => by
    change (∃ d1 : DM, _ ∧ _ ∧ d1.secs = layAll d.secs (d.pend ++ []) ∧ run ((f : Int), 52) (.f :: r) d = _) ∨ (∃ d1, Torn d d1 (d.pend ++ []) ∧ run ((f : Int), 52) (.f :: r) d = _)
    rw [List.append_nil]
    rcases flush_on ho with ⟨h1, h2, h3, h4⟩ | ⟨h1, h2, h3, h4⟩
    · exact .inl ⟨_, h2, h3, h4, run_fok _ h1⟩
    · exact .inr ⟨_, Torn.of h2 h3 h4 (fun _ h => h), (run_fno _ (by rw [h1]; decide)).trans (Prod.ext rfl h1)⟩
  | (a, b) :: q, d, ho, hl, hq => by
    obtain ⟨ha, hb⟩ := hq (a, b) (by simp)
    dsimp only at ha hb
    have hrun : wS ((a, b) :: q) ++ .f :: r = .w a b :: (wS q ++ .f :: r) := rfl
    have hwp : d.pend ++ wP f ((a, b) :: q) = (d.pend ++ [(f + a, b)]) ++ wP f q := by rw [List.append_assoc]; rfl
    rw [hrun, hwp]
    have hpw := pwrite_on (c := 52) ho hl ha hf hN hb
    rw [show ((52 : Nat) : Int) = 52 from rfl] at hpw
    rcases hpw with ⟨h1, h2, h3, h4⟩ | ⟨h1, h2, h3, h4⟩
    · rw [run_ok _ h1]
      have ih := run_phase hf hN r q _ h2 (by rw [h3]; exact hl) (fun p hp => hq p (by simp [hp]))
      rw [h3, h4] at ih
      refine ih.imp id (fun ⟨d1, ht, e⟩ => ⟨d1, ⟨ht.off, ht.pend, by rw [ht.len, h3], fun k => ?_⟩, e⟩)
      have := ht.sec k
      rw [h3] at this
      exact this
    · exact .inr ⟨_, Torn.of h2 h3 h4 (fun p hp => by simp [hp]), (run_no _ (by rw [h1]; decide)).trans (Prod.ext rfl h1)⟩
theorem fold_val {k : Nat} {b : List UInt8} : ∀ (q : List (Nat × List UInt8)) (c : List UInt8), (∀ p ∈ q, p.1 = k → p.2 = b) → ((∃ p ∈ q, p.1 = k) ∨ c = b) → q.foldl (fun c p => if p.1 = k then p.2 else c) c = b
  | [], c, _, h => h.resolve_left (fun ⟨p, hp, _⟩ => by simp at hp)
  | p :: r, c, hq, h => by
    rw [List.foldl_cons]
    refine fold_val r _ (fun p hp => hq p (by simp [hp])) ?_
    by_cases hk : p.1 = k
    · rw [if_pos hk]; exact .inr (hq p (by simp) hk)
    · rw [if_neg hk]
      refine h.imp (fun ⟨p', hp, e⟩ => ?_) id
      rcases List.mem_cons.1 hp with rfl | hp
      · exact absurd e hk
      · exact ⟨p', hp, e⟩
/-- the sectors of a part -/
def secF (f : Nat) (d : DM) (k : Nat) : List UInt8 := d.secs[f + k]?.getD []
theorem lay_in {N f : Nat} {d d1 : DM} {q : List (Nat × List UInt8)} (hs : d1.secs = layAll d.secs ([] ++ wP f q)) (hl : d.secs.length = N) {k : Nat} (hk : f + k < N) {b : List UInt8} (h1 : ∀ p ∈ q, p.1 = k → p.2 = b) (h2 : (∃ p ∈ q, p.1 = k) ∨ secF f d k = b) : secF f d1 k = b := by
  unfold secF
  rw [hs, List.nil_append, lay_cur0 _ _ _ (by rw [hl]; exact hk)]
  refine fold_val _ _ (fun p hp e => ?_) (h2.imp (fun ⟨p, hp, e⟩ => ⟨(f + p.1, p.2), List.mem_map.2 ⟨p, hp, rfl⟩, by dsimp only; omega⟩) id)
  obtain ⟨p', hp', rfl⟩ := List.mem_map.1 hp
  dsimp only at e
  exact h1 p' hp' (by omega)
theorem Torn.at' {f : Nat} {d d1 : DM} {q : List (Nat × List UInt8)} (h : Torn d d1 ([] ++ wP f q)) (k : Nat) : secF f d1 k = secF f d k ∨ ∃ b, (k, b) ∈ q ∧ secF f d1 k = b := by
  refine (h.sec (f + k)).imp id (fun ⟨b, hb, e⟩ => ?_)
  rw [List.nil_append] at hb
  obtain ⟨p, hp, he⟩ := List.mem_map.1 hb
  have h1 := (Prod.mk.inj he).1
  have h2 := (Prod.mk.inj he).2
  have h3 : p.1 = k := by omega
  exact ⟨b, by rw [← h3, ← h2]; exact hp, e⟩
def hW (e h : Nat) (ps : List UInt8) (n i : Nat) : List (Nat × List UInt8) := (List.range' i n).map fun i => (2 + 16 * h + i, pageB e i ps)
theorem homeFrom_eq (e h : Nat) (ps : List UInt8) : ∀ n i, homeFrom e h ps n i = wS (hW e h ps n i) ++ .f :: (wS [(e % 2, headB e h)] ++ .f :: [])
  | 0, i => rfl
  | n + 1, i => by rw [homeFrom, homeFrom_eq e h ps n (i + 1)]; rfl
theorem hW_mem {e h n i : Nat} {ps : List UInt8} {p : Nat × List UInt8} (hp : p ∈ hW e h ps n i) : ∃ j, i ≤ j ∧ j < i + n ∧ p = (2 + 16 * h + j, pageB e j ps) := by
  obtain ⟨j, hj, rfl⟩ := List.mem_map.1 hp
  have := List.mem_range'_1.1 hj
  exact ⟨j, this.1, this.2, rfl⟩
theorem hW_has {e h n i j : Nat} {ps : List UInt8} (h1 : i ≤ j) (h2 : j < i + n) : (2 + 16 * h + j, pageB e j ps) ∈ hW e h ps n i := List.mem_map.2 ⟨j, List.mem_range'_1.2 ⟨h1, h2⟩, rfl⟩
def rW (e : Nat) : Nat → List Ch → List (Nat × List UInt8)
  | _, [] => []
  | k, c :: r => (34 + k, recB e k c) :: rW e (k + 1) r
theorem recSteps_eq (e : Nat) : ∀ (l : List Ch) (k : Nat), recSteps e k l = wS (rW e k l) ++ .f :: (wS [(34 + (k + l.length), markB e (k + l.length))] ++ .f :: [])
  | [], k => rfl
  | c :: r, k => by
    rw [recSteps, recSteps_eq e r (k + 1), List.length_cons, show k + 1 + r.length = k + (r.length + 1) by omega]; rfl
theorem rW_mem {e : Nat} : ∀ {l : List Ch} {k : Nat} {p : Nat × List UInt8}, p ∈ rW e k l → ∃ i, ∃ hi : i < l.length, p = (34 + (k + i), recB e (k + i) l[i])
  | [], k, p, h => by simp [rW] at h
  | c :: r, k, p, h => by
    rcases List.mem_cons.1 h with rfl | h
    · exact ⟨0, by simp, rfl⟩
    · obtain ⟨i, hi, rfl⟩ := rW_mem h
      exact ⟨i + 1, by rw [List.length_cons]; omega, by rw [show k + 1 + i = k + (i + 1) by omega]; rfl⟩
theorem rW_has {e : Nat} : ∀ {l : List Ch} {k i : Nat} (hi : i < l.length), (34 + (k + i), recB e (k + i) l[i]) ∈ rW e k l
  | c :: r, k, 0, hi => List.mem_cons_self
  | c :: r, k, i + 1, hi => by
    refine List.mem_cons_of_mem _ ?_
    rw [List.length_cons] at hi
    have := rW_has (e := e) (l := r) (k := k + 1) (i := i) (by omega)
    rw [show k + 1 + i = k + (i + 1) by omega] at this
    exact this
/-- a log that stands on a disk that is on -/
structure WInv (N f : Nat) (d : DM) (m : WL) : Prop where
  off : d.off = false
  pend : d.pend = []
  len : d.secs.length = N
  log : LgC (secF f d) m
structure WOff (N f : Nat) (d : DM) : Prop where
  off : d.off = true
  pend : d.pend = []
  len : d.secs.length = N
theorem WInv.opens {N f : Nat} {d : DM} {m : WL} (h : WInv N f d m) (hf : f + 52 ≤ N) (hN : N ≤ 1000) : openM d ((f : Int), 52) = (some m, 0) ∧ ∀ k : Nat, k < 52 → (pread d ((f : Int), 52) (k : Int)).2 = 0 := by
  have hr : ∀ k : Nat, k < 52 → pread d ((f : Int), 52) (k : Int) = (d.cur (f + k), 0) := fun k hk => by
    have e : placeM (f : Int) 52 (k : Int) = (((f + k : Nat) : Int), 0) := place_inN (c := 52) hk (by omega)
    have hib : d.inB ((f + k : Nat) : Int) = true := by simp only [DM.inB, decide_eq_true_eq]; rw [h.len]; omega
    unfold pread
    simp only
    rw [e]
    simp only [if_true]
    unfold DM.read
    rw [if_pos hib, if_neg (by rw [h.off]; decide), Int.toNat_natCast]
  refine ⟨h.log.opens (fun k hk => ?_), fun k hk => by rw [hr k hk]⟩
  unfold sec
  rw [hr k hk, cur_nil h.pend]
  rfl
theorem WInv.home {N f : Nat} {d : DM} {m : WL} (h : WInv N f d m) (hf : f + 52 ≤ N) (hN : N ≤ 1000) (he : m.epoch ≠ 4294967295) :
    ((run ((f : Int), 52) (homeSteps (m.epoch + 1) (1 - m.home) m.pages) d).2 = 0 ∧ WInv N f (run ((f : Int), 52) (homeSteps (m.epoch + 1) (1 - m.home) m.pages) d).1 ⟨m.epoch + 1, 1 - m.home, 0, m.pages, false⟩) ∨
    ((run ((f : Int), 52) (homeSteps (m.epoch + 1) (1 - m.home) m.pages) d).2 = 9 ∧ WOff N f (run ((f : Int), 52) (homeSteps (m.epoch + 1) (1 - m.home) m.pages) d).1 ∧ ∃ m2, m2.pages = m.pages ∧ LgC (secF f (run ((f : Int), 52) (homeSteps (m.epoch + 1) (1 - m.home) m.pages) d).1) m2) := by
  have hlog := h.log
  have hhm := hlog.home
  unfold homeSteps
  rw [homeFrom_eq]
  have hok : ∀ p ∈ hW (m.epoch + 1) (1 - m.home) m.pages 16 0, p.1 < 52 ∧ p.2.length = 64 := fun p hp => by
    obtain ⟨j, _, hj, rfl⟩ := hW_mem hp
    exact ⟨by dsimp only; omega, secW_len (by rw [List.length_append, getP_len hlog.plen (by omega)]; simp)⟩
  rcases run_phase hf hN (wS [((m.epoch + 1) % 2, headB (m.epoch + 1) (1 - m.home))] ++ .f :: []) _ d h.off h.len hok with ⟨d1, a1, a2, a3, a4⟩ | ⟨d1, t, a4⟩
  · rw [a4]
    rw [h.pend] at a3
    have hl1 : d1.secs.length = N := by rw [a3, layAll_len]; exact h.len
    have hout : ∀ k, k < 52 → (k < 2 + 16 * (1 - m.home) ∨ 2 + 16 * (1 - m.home) + 16 ≤ k) → secF f d1 k = secF f d k := fun k hk ho => by
      refine lay_in a3 h.len (by omega) (fun p hp e => ?_) (.inr rfl)
      obtain ⟨j, _, hj, rfl⟩ := hW_mem hp
      dsimp only at e
      omega
    have hin : ∀ i, i < 16 → secF f d1 (2 + 16 * (1 - m.home) + i) = pageB (m.epoch + 1) i m.pages := fun i hi => by
      refine lay_in a3 h.len (by omega) (fun p hp e => ?_) (.inl ⟨_, hW_has (Nat.zero_le _) (by omega), rfl⟩)
      obtain ⟨j, _, hj, rfl⟩ := hW_mem hp
      dsimp only at e
      have : j = i := by omega
      subst this; rfl
    have hlog1 : LgC (secF f d1) m := hlog.home_any hout
    have hok2 : ∀ p ∈ [((m.epoch + 1) % 2, headB (m.epoch + 1) (1 - m.home))], p.1 < 52 ∧ p.2.length = 64 := fun p hp => by
      rw [List.mem_singleton] at hp
      subst hp
      exact ⟨by dsimp only; omega, secW_len (by simp)⟩
    have hnext : ∀ d2 : DM, secF f d2 ((m.epoch + 1) % 2) = headB (m.epoch + 1) (1 - m.home) → (∀ k, k < 52 → k ≠ (m.epoch + 1) % 2 → secF f d2 k = secF f d1 k) → LgC (secF f d2) ⟨m.epoch + 1, 1 - m.home, 0, m.pages, false⟩ := fun d2 e1 e2 =>
      hlog1.next he (fun i hi => by rw [e2 _ (by omega) (by omega)]; exact hin i hi) e1 (e2 _ (by omega) (by omega)) (fun j hj => e2 _ (by omega) (by omega))
    rcases run_phase hf hN [] _ d1 a1 hl1 hok2 with ⟨d2, b1, b2, b3, b4⟩ | ⟨d2, t, b4⟩
    · rw [b4]
      rw [a2] at b3
      refine .inl ⟨rfl, b1, b2, by rw [run, b3, layAll_len]; exact hl1, hnext d2 ?_ (fun k hk hne => ?_)⟩
      · exact lay_in b3 hl1 (by omega) (fun p hp e => by rw [List.mem_singleton] at hp; subst hp; rfl) (.inl ⟨_, List.mem_singleton.2 rfl, rfl⟩)
      · exact lay_in b3 hl1 (by omega) (fun p hp e => by rw [List.mem_singleton] at hp; subst hp; exact absurd e.symm hne) (.inr rfl)
    · rw [b4]
      rw [a2] at t
      refine .inr ⟨rfl, ⟨t.off, t.pend, by rw [t.len]; exact hl1⟩, ?_⟩
      have hoth : ∀ k, k < 52 → k ≠ (m.epoch + 1) % 2 → secF f d2 k = secF f d1 k := fun k hk hne => (t.at' k).resolve_right (fun ⟨b, hb, _⟩ => by rw [List.mem_singleton] at hb; cases hb; exact hne rfl)
      rcases t.at' ((m.epoch + 1) % 2) with e | ⟨b, hb, e⟩
      · refine ⟨m, rfl, hlog1.home_any (fun k hk _ => ?_)⟩
        by_cases hne : k = (m.epoch + 1) % 2
        · rw [hne]; exact e
        · exact hoth k hk hne
      · rw [List.mem_singleton] at hb
        cases hb
        exact ⟨⟨m.epoch + 1, 1 - m.home, 0, m.pages, false⟩, rfl, hnext d2 e hoth⟩
  · rw [a4]
    rw [h.pend] at t
    refine .inr ⟨rfl, ⟨t.off, t.pend, by rw [t.len]; exact h.len⟩, m, rfl, hlog.home_any (fun k hk ho => ?_)⟩
    refine (t.at' k).resolve_right (fun ⟨b, hb, _⟩ => ?_)
    obtain ⟨j, _, hj, e⟩ := hW_mem hb
    have := (Prod.mk.inj e).1
    omega
theorem WInv.recs {N f : Nat} {d : DM} {m : WL} {l : List Ch} (h : WInv N f d m) (hf : f + 52 ≤ N) (hN : N ≤ 1000) (hl : ∀ ch ∈ l, ch.Ok) (hu : m.used + l.length + 1 ≤ 18) :
    ((run ((f : Int), 52) (recSteps m.epoch m.used l) d).2 = 0 ∧ WInv N f (run ((f : Int), 52) (recSteps m.epoch m.used l) d).1 ⟨m.epoch, m.home, m.used + l.length + 1, applyL m.pages l, false⟩) ∨
    ((run ((f : Int), 52) (recSteps m.epoch m.used l) d).2 = 9 ∧ WOff N f (run ((f : Int), 52) (recSteps m.epoch m.used l) d).1 ∧ ∃ m2, (m2.pages = m.pages ∨ m2.pages = applyL m.pages l) ∧ LgC (secF f (run ((f : Int), 52) (recSteps m.epoch m.used l) d).1) m2) := by
  have hlog := h.log
  rw [recSteps_eq]
  have hok : ∀ p ∈ rW m.epoch m.used l, p.1 < 52 ∧ p.2.length = 64 := fun p hp => by
    obtain ⟨j, hj, rfl⟩ := rW_mem hp
    exact ⟨by dsimp only; omega, secW_len (by rw [List.length_append, (hl _ (List.getElem_mem hj)).2.2]; simp)⟩
  have hval : ∀ (i : Nat) (hi : i < l.length), ∀ p ∈ rW m.epoch m.used l, p.1 = 34 + (m.used + i) → p.2 = recB m.epoch (m.used + i) l[i] := fun i hi p hp e => by
    obtain ⟨j, hj, rfl⟩ := rW_mem hp
    dsimp only at e
    have : j = i := by omega
    subst this; rfl
  rcases run_phase hf hN (wS [(34 + (m.used + l.length), markB m.epoch (m.used + l.length))] ++ .f :: []) _ d h.off h.len hok with ⟨d1, a1, a2, a3, a4⟩ | ⟨d1, t, a4⟩
  · rw [a4]
    rw [h.pend] at a3
    have hl1 : d1.secs.length = N := by rw [a3, layAll_len]; exact h.len
    have hin : ∀ i (hi : i < l.length), secF f d1 (34 + (m.used + i)) = recB m.epoch (m.used + i) l[i] := fun i hi => lay_in a3 h.len (by omega) (hval i hi) (.inl ⟨_, rW_has hi, rfl⟩)
    have hlog1 : LgC (secF f d1) m := hlog.recs_any hl hu (fun k hk => by
      by_cases hex : ∃ i, i < l.length ∧ k = 34 + (m.used + i)
      · obtain ⟨i, hi, rfl⟩ := hex
        exact .inr ⟨i, hi, rfl, hin i hi⟩
      · refine .inl (lay_in a3 h.len (by omega) (fun p hp e => ?_) (.inr rfl))
        obtain ⟨j, hj, rfl⟩ := rW_mem hp
        exact absurd ⟨j, hj, e.symm⟩ hex)
    have hok2 : ∀ p ∈ [(34 + (m.used + l.length), markB m.epoch (m.used + l.length))], p.1 < 52 ∧ p.2.length = 64 := fun p hp => by
      rw [List.mem_singleton] at hp
      subst hp
      exact ⟨by dsimp only; omega, secW_len (by simp)⟩
    have hnext : ∀ d2 : DM, secF f d2 (34 + (m.used + l.length)) = markB m.epoch (m.used + l.length) → (∀ k, k < 52 → k ≠ 34 + (m.used + l.length) → secF f d2 k = secF f d1 k) → LgC (secF f d2) ⟨m.epoch, m.home, m.used + l.length + 1, applyL m.pages l, false⟩ := fun d2 e1 e2 => hlog1.mark hl hu hin e1 e2
    rcases run_phase hf hN [] _ d1 a1 hl1 hok2 with ⟨d2, b1, b2, b3, b4⟩ | ⟨d2, t, b4⟩
    · rw [b4]
      rw [a2] at b3
      refine .inl ⟨rfl, b1, b2, by rw [run, b3, layAll_len]; exact hl1, hnext d2 ?_ (fun k hk hne => ?_)⟩
      · exact lay_in b3 hl1 (by omega) (fun p hp e => by rw [List.mem_singleton] at hp; subst hp; rfl) (.inl ⟨_, List.mem_singleton.2 rfl, rfl⟩)
      · exact lay_in b3 hl1 (by omega) (fun p hp e => by rw [List.mem_singleton] at hp; subst hp; exact absurd e.symm hne) (.inr rfl)
    · rw [b4]
      rw [a2] at t
      refine .inr ⟨rfl, ⟨t.off, t.pend, by rw [t.len]; exact hl1⟩, ?_⟩
      have hoth : ∀ k, k < 52 → k ≠ 34 + (m.used + l.length) → secF f d2 k = secF f d1 k := fun k hk hne => (t.at' k).resolve_right (fun ⟨b, hb, _⟩ => by rw [List.mem_singleton] at hb; cases hb; exact hne rfl)
      rcases t.at' (34 + (m.used + l.length)) with e | ⟨b, hb, e⟩
      · refine ⟨m, .inl rfl, hlog1.home_any (fun k hk _ => ?_)⟩
        by_cases hne : k = 34 + (m.used + l.length)
        · rw [hne]; exact e
        · exact hoth k hk hne
      · rw [List.mem_singleton] at hb
        cases hb
        exact ⟨_, .inr rfl, hnext d2 e hoth⟩
  · rw [a4]
    rw [h.pend] at t
    refine .inr ⟨rfl, ⟨t.off, t.pend, by rw [t.len]; exact h.len⟩, m, .inl rfl, hlog.recs_any hl hu (fun k hk => ?_)⟩
    refine (t.at' k).imp id (fun ⟨b, hb, e⟩ => ?_)
    obtain ⟨j, hj, e'⟩ := rW_mem hb
    cases e'
    exact ⟨j, hj, rfl, e⟩
/-- what pages come to -/
def nextL (ps : List UInt8) (l : List Ch) : List UInt8 := if validM l = true then applyL ps l else ps
/-- how a commit ends -/
def Ends (N f : Nat) (d : DM) (m : WL) (l : List Ch) (r : DM × WL × Int) : Prop :=
  (r.2.2 = 0 ∧ WInv N f r.1 r.2.1 ∧ r.2.1.pages = nextL m.pages l) ∨ ((r.2.2 = 1 ∨ r.2.2 = 5) ∧ r.1 = d ∧ r.2.1 = m) ∨
  (r.2.2 = 9 ∧ WOff N f r.1 ∧ r.2.1.pages = m.pages ∧ r.2.1.pages.length = 640 ∧ ∃ m2, (m2.pages = m.pages ∨ m2.pages = nextL m.pages l) ∧ LgC (secF f r.1) m2)
theorem WInv.recM {N f : Nat} {d : DM} {m : WL} {l : List Ch} (h : WInv N f d m) (hf : f + 52 ≤ N) (hN : N ≤ 1000) (hv : validM l = true) (hu : m.used + l.length + 1 ≤ 18) : ((recM d ((f : Int), 52) m l).2.2 = 0 ∧ WInv N f (recM d ((f : Int), 52) m l).1 (recM d ((f : Int), 52) m l).2.1 ∧ (recM d ((f : Int), 52) m l).2.1.pages = nextL m.pages l) ∨ ((recM d ((f : Int), 52) m l).2.2 = 9 ∧ WOff N f (recM d ((f : Int), 52) m l).1 ∧ (recM d ((f : Int), 52) m l).2.1.pages = m.pages ∧ (recM d ((f : Int), 52) m l).2.1.pages.length = 640 ∧ ∃ m2, (m2.pages = m.pages ∨ m2.pages = nextL m.pages l) ∧ LgC (secF f (recM d ((f : Int), 52) m l).1) m2) := by
  have hl := (validM_ok hv).2
  have hn : nextL m.pages l = applyL m.pages l := if_pos hv
  unfold Go.Proofs.YtbknpbihgfphaaaDoor.recM
  rcases h.recs hf hN hl hu with ⟨h1, h2⟩ | ⟨h1, h2, m2, h3, h4⟩
  · rw [if_pos h1]; exact .inl ⟨rfl, h2, hn.symm⟩
  · rw [if_neg (by rw [h1]; decide)]; exact .inr ⟨h1, h2, rfl, h.log.plen, m2, by rw [hn]; exact h3, h4⟩
theorem WInv.commit {N f : Nat} {d : DM} {m : WL} (l : List Ch) (h : WInv N f d m) (hf : f + 52 ≤ N) (hN : N ≤ 1000) : Ends N f d m l (commitM d ((f : Int), 52) m l) := by
  have hd := h.log.dead
  unfold commitM
  rw [if_neg (by rw [hd]; decide)]
  by_cases hv : validM l = false
  · rw [if_pos hv]; exact .inr (.inl ⟨.inl rfl, rfl, rfl⟩)
  rw [if_neg hv]
  have hv1 : validM l = true := by cases hq : validM l with | true => rfl | false => exact absurd hq hv
  have hn : nextL m.pages l = applyL m.pages l := if_pos hv1
  obtain ⟨hv16, hok⟩ := validM_ok hv1
  by_cases hl : l.length = 0
  · rw [if_pos hl]
    have : l = [] := List.length_eq_zero_iff.1 hl
    subst this
    exact .inl ⟨rfl, h, hn.symm⟩
  rw [if_neg hl]
  by_cases hfull : 18 < m.used + l.length + 1
  · rw [if_pos hfull]
    by_cases hmax : m.epoch = 4294967295
    · rw [if_pos hmax]; exact .inr (.inl ⟨.inr rfl, rfl, rfl⟩)
    rw [if_neg hmax]
    rcases h.home hf hN hmax with ⟨h1, h2⟩ | ⟨h1, h2, m2, h3, h4⟩
    · rw [if_pos h1]
      exact (h2.recM hf hN hv1 (by dsimp only; omega)).imp id .inr
    · rw [if_neg (by rw [h1]; decide)]; exact .inr (.inr ⟨h1, h2, rfl, h.log.plen, m2, .inl h3, h4⟩)
  · rw [if_neg hfull]
    exact (h.recM hf hN hv1 (by omega)).imp id .inr
end Go.Proofs.YtbknpbihgfphaaaDoor

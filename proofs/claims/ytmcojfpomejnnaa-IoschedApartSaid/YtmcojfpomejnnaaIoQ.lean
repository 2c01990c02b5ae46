/- IoschedApart: the plain law. -/
import Derived.Test.YtmcojfpomejnnaaIoJ
import Derived.Test.YtmcojfpomejnnaaIoM
set_option linter.unusedSimpArgs false
set_option linter.unusedVariables false
namespace Go.Proofs.Ytmcojfpomejnnaa
open Go Go.RowKit Go.Own

/-- unlike extents of a shape share no sector -/
def ApX (x : Shp) : Prop := ∀ (i j : Nat) (e e' : Ext), i ≠ j → x.xs[i]? = some e → x.xs[j]? = some e' → e.2 ≠ 0 → e'.2 ≠ 0 → ∀ k : Int, ¬ ((e.1 ≤ k ∧ k < e.1 + e.2) ∧ (e'.1 ≤ k ∧ k < e'.1 + e'.2))
theorem apX_of {x : Shp} (h : mayM 16 x.xs x.rooms x.slots = 0) : ApX x := by
  have hl := (may0' h).2
  have h3 : apartM (usedX x.xs) = true := by
    unfold mayM at h
    split at h
    · cases h
    · split at h
      · cases h
      · split at h
        · cases h
        · split at h
          · cases h
          · split at h
            · assumption
            · cases h
  simp only [apartM, usedX, decide_eq_true_eq, List.pairwise_filter] at h3
  rw [List.pairwise_iff_getElem] at h3
  have key : ∀ (i j : Nat) (e e' : Ext), i < j → x.xs[i]? = some e → x.xs[j]? = some e' → e.2 ≠ 0 → e'.2 ≠ 0 → ∀ k : Int, ¬ ((e.1 ≤ k ∧ k < e.1 + e.2) ∧ (e'.1 ≤ k ∧ k < e'.1 + e'.2)) := by
    intro i j e e' hij h1 h2 he he' k hk
    obtain ⟨i1, q1⟩ := List.getElem?_eq_some_iff.1 h1
    obtain ⟨j1, q2⟩ := List.getElem?_eq_some_iff.1 h2
    have := h3 i j i1 j1 hij
    rw [q1, q2] at this
    have := this (by simpa using he) (by simpa using he')
    simp only [meetM, decide_eq_false_iff_not] at this
    omega
  intro i j e e' hij h1 h2 he he' k hk
  rcases Nat.lt_or_gt_of_ne hij with h | h
  · exact key i j e e' h h1 h2 he he' k hk
  · exact key j i e' e h h2 h1 he' he k ⟨hk.2, hk.1⟩

/-- a schedule of a shape, on a disk that is on -/
structure In (x : Shp) (m : SM) (d : DM) : Prop where
  ext : ∀ (j : Nat) p e, m.parts[j]? = some p → p.ext = some e → x.xs[j]? = some e ∧ e.2 ≠ 0
  fre : Fre d
theorem In.new (x : Shp) : In x (SM.new x.xs x.rooms x.slots) (DM.new 16) := by
  refine ⟨fun j p e hp he => ?_, ⟨rfl, rfl, by simp [DM.new]⟩⟩
  simp only [SM.new, List.getElem?_zipWith] at hp
  split at hp
  · rename_i e' r h1 h2
    cases hp
    unfold newPM at he
    simp only at he
    split at he
    · cases he
    · rename_i h0; cases he; exact ⟨h1, h0⟩
  · cases hp
theorem In.ask {x : Shp} {m : SM} {d : DM} (h : In x m d) (i k a : Int) (l : List UInt8) : In x (m.ask i k a l).1 d := by
  unfold SM.ask
  split
  · split
    · exact h
    · rename_i p0 hp0
      refine ⟨fun j p e hp he => ?_, h.fre⟩
      simp only [List.getElem?_set] at hp
      split at hp
      · rename_i hj
        split at hp
        · cases hp
          rw [askP_ext] at he
          exact h.ext j p0 e (by rw [← hj]; exact hp0) he
        · cases hp
      · exact h.ext j p e hp he
  · exact h
theorem In.slot {x : Shp} {m : SM} {d : DM} (h : In x m d) : In x (m.slot d).1 (m.slot d).2.1 := by
  unfold SM.slot
  split
  · exact h
  · split
    · exact ⟨h.ext, h.fre⟩
    · split
      · exact ⟨h.ext, h.fre⟩
      · rename_i pt _ _ p0 hp0
        split
        · rename_i r rest e0 hq0 he0
          refine ⟨fun j p e hp he => ?_, (serve_fre h.fre e0 r).1⟩
          simp only [List.getElem?_set] at hp
          split at hp
          · rename_i hjj
            split at hp
            · cases hp
              exact h.ext j p0 e (by rw [← hjj]; exact hp0) he
            · cases hp
          · exact h.ext j p e hp he
        · exact ⟨h.ext, h.fre⟩

def Dn.nope : Dn := ⟨-1, 0, [], 0⟩
/-- what a partition sees of a slot -/
def see (pt : Int) (o : Option Dn) : Dn := match o with
  | some x => if x.part = pt then x else Dn.nope
  | none => Dn.nope
/-- two runs, alike for a partition -/
structure Ap (x : Shp) (pt : Int) (m1 : SM) (d1 : DM) (m2 : SM) (d2 : DM) : Prop where
  a : In x m1 d1
  b : In x m2 d2
  sl : m1.slots = m2.slots
  nx : m1.next = m2.next
  own : ∀ j : Nat, (j : Int) = pt → m1.parts[j]? = m2.parts[j]?
  cur : ∀ e, 0 ≤ pt → x.xs[pt.toNat]? = some e → ∀ k : Nat, k < 16 → e.1 ≤ (k : Int) → (k : Int) < e.1 + e.2 → d1.cur k = d2.cur k
theorem Ap.new (x : Shp) (pt : Int) : Ap x pt (SM.new x.xs x.rooms x.slots) (DM.new 16) (SM.new x.xs x.rooms x.slots) (DM.new 16) := ⟨In.new x, In.new x, rfl, rfl, fun _ _ => rfl, fun _ _ _ _ _ _ _ => rfl⟩
theorem Ap.symm {x : Shp} {pt : Int} {m1 m2 : SM} {d1 d2 : DM} (h : Ap x pt m1 d1 m2 d2) : Ap x pt m2 d2 m1 d1 := ⟨h.b, h.a, h.sl.symm, h.nx.symm, fun j hj => (h.own j hj).symm, fun e h0 he k h1 h2 h3 => (h.cur e h0 he k h1 h2 h3).symm⟩
theorem ask_rest (m : SM) (i k a : Int) (l : List UInt8) : (m.ask i k a l).1.slots = m.slots ∧ (m.ask i k a l).1.next = m.next ∧ ∀ j : Nat, (j : Int) ≠ i → (m.ask i k a l).1.parts[j]? = m.parts[j]? := by
  unfold SM.ask
  split
  · rename_i h0
    split
    · exact ⟨rfl, rfl, fun _ _ => rfl⟩
    · refine ⟨rfl, rfl, fun j hj => ?_⟩
      simp only
      rw [List.getElem?_set_ne (by omega)]
  · exact ⟨rfl, rfl, fun _ _ => rfl⟩
theorem Ap.askL {x : Shp} {pt : Int} {m1 m2 : SM} {d1 d2 : DM} (h : Ap x pt m1 d1 m2 d2) {i : Int} (hi : i ≠ pt) (k a : Int) (l : List UInt8) : Ap x pt (m1.ask i k a l).1 d1 m2 d2 := by
  obtain ⟨h1, h2, h3⟩ := ask_rest m1 i k a l
  exact ⟨h.a.ask i k a l, h.b, h1.trans h.sl, h2.trans h.nx, fun j hj => (h3 j (by omega)).trans (h.own j hj), h.cur⟩
theorem Ap.askO {x : Shp} {pt : Int} {m1 m2 : SM} {d1 d2 : DM} (h : Ap x pt m1 d1 m2 d2) (k a : Int) (l : List UInt8) : Ap x pt (m1.ask pt k a l).1 d1 (m2.ask pt k a l).1 d2 ∧ (m1.ask pt k a l).2 = (m2.ask pt k a l).2 := by
  obtain ⟨h1, h2, h3⟩ := ask_rest m1 pt k a l
  obtain ⟨k1, k2, k3⟩ := ask_rest m2 pt k a l
  have key : (∀ j : Nat, (j : Int) = pt → (m1.ask pt k a l).1.parts[j]? = (m2.ask pt k a l).1.parts[j]?) ∧ (m1.ask pt k a l).2 = (m2.ask pt k a l).2 := by
    unfold SM.ask
    by_cases h0 : 0 ≤ pt
    · rw [if_pos h0, if_pos h0]
      have ho := h.own pt.toNat (by omega)
      rw [ho]
      cases hp : m2.parts[pt.toNat]? with
      | none => exact ⟨h.own, rfl⟩
      | some p =>
        refine ⟨fun j hj => ?_, rfl⟩
        have e : j = pt.toNat := by omega
        subst e
        have l1 := (List.getElem?_eq_some_iff.1 (ho.trans hp)).1
        have l2 := (List.getElem?_eq_some_iff.1 hp).1
        simp only
        rw [List.getElem?_set_self l1, List.getElem?_set_self l2]
    · rw [if_neg h0, if_neg h0]; exact ⟨h.own, rfl⟩
  exact ⟨⟨h.a.ask pt k a l, h.b.ask pt k a l, h1.trans (h.sl.trans k1.symm), h2.trans (h.nx.trans k2.symm), key.1, h.cur⟩, key.2⟩
/-- a slot that is not the partition's -/
theorem slot_far {x : Shp} (hA : ApX x) {pt : Int} {m : SM} {d : DM} (h : In x m d) (hs : m.slots[m.next]? ≠ some pt ∨ pt < 0) :
    (∀ j : Nat, (j : Int) = pt → (m.slot d).1.parts[j]? = m.parts[j]?) ∧ see pt (m.slot d).2.2 = Dn.nope ∧ ∀ e, 0 ≤ pt → x.xs[pt.toNat]? = some e → ∀ k : Nat, k < 16 → e.1 ≤ (k : Int) → (k : Int) < e.1 + e.2 → (m.slot d).2.1.cur k = d.cur k := by
  unfold SM.slot
  split
  · exact ⟨fun _ _ => rfl, rfl, fun _ _ _ _ _ _ _ => rfl⟩
  · rename_i v hv
    split
    · exact ⟨fun _ _ => rfl, rfl, fun _ _ _ _ _ _ _ => rfl⟩
    · rename_i hv0
      have hne : v ≠ pt := by
        rintro rfl
        rcases hs with hs | hs
        · exact hs hv
        · omega
      split
      · exact ⟨fun _ _ => rfl, rfl, fun _ _ _ _ _ _ _ => rfl⟩
      · rename_i p0 hp0
        split
        · rename_i r rest e0 hq0 he0
          refine ⟨fun j hj => ?_, ?_, fun e h0 he k hk h1 h2 => ?_⟩
          · simp only
            rw [List.getElem?_set_ne (by omega)]
          · simp only [see]; rw [if_neg hne]
          · obtain ⟨x0, n0⟩ := h.ext v.toNat p0 e0 hp0 he0
            exact (serve_fre h.fre e0 r).2 k hk fun hk' => hA v.toNat pt.toNat e0 e (by omega) x0 he n0 (by omega) (k : Int) ⟨hk', h1, h2⟩
        · exact ⟨fun _ _ => rfl, rfl, fun _ _ _ _ _ _ _ => rfl⟩
theorem slot_rest (m : SM) (d : DM) : (m.slot d).1.slots = m.slots ∧ (m.slot d).1.next = if m.next < m.slots.length then (m.next + 1) % m.slots.length else m.next := by
  unfold SM.slot
  split
  · rename_i h
    rw [List.getElem?_eq_none_iff] at h
    rw [if_neg (by omega)]; exact ⟨rfl, rfl⟩
  · rename_i v hv
    have hl := (List.getElem?_eq_some_iff.1 hv).1
    rw [if_pos hl]
    split
    · exact ⟨rfl, rfl⟩
    · split
      · exact ⟨rfl, rfl⟩
      · split <;> exact ⟨rfl, rfl⟩
/-- what is served of a request hangs on the extent's own sectors -/
theorem serve_eq {d1 d2 : DM} (h1 : Fre d1) (h2 : Fre d2) (x : Ext) (r : Rq) (hc : ∀ k : Nat, k < 16 → x.1 ≤ (k : Int) → (k : Int) < x.1 + x.2 → d1.cur k = d2.cur k) :
    (serveM d1 x r).2 = (serveM d2 x r).2 ∧ ∀ k : Nat, k < 16 → x.1 ≤ (k : Int) → (k : Int) < x.1 + x.2 → (serveM d1 x r).1.cur k = (serveM d2 x r).1.cur k := by
  have hib : ∀ n, d1.inB n = d2.inB n := fun n => by unfold DM.inB; rw [h1.len, h2.len]
  unfold serveM
  split
  · refine ⟨?_, hc⟩
    simp only [pread]
    split
    · rename_i hp
      unfold DM.read
      rw [hib]
      split
      · rename_i hb
        rw [h1.off, h2.off]
        simp only [Bool.false_eq_true, if_false]
        rw [show d2.inB _ = decide _ from rfl, decide_eq_true_eq, h2.len] at hb
        unfold placeM at hp hb ⊢
        split at hp
        · cases hp
        · split at hp
          · cases hp
          · rename_i q1 q2
            rw [if_neg q1, if_neg q2] at hb ⊢
            simp only at hb ⊢
            rw [hc _ (by omega) (by omega) (by omega)]
      · rfl
    · rfl
  · split
    · simp only [pwrite]
      split
      · rename_i hp
        have hw : ∀ (d : DM) (h : Fre d) n (l : List UInt8), d.write n l = if d.inB n then (if l.length = 64 then ({ d with pend := d.pend ++ [(n.toNat, l)] }, 0) else (d, 1)) else (d, 4) := by
          intro d h n l
          unfold DM.write
          rw [powered_free h.off h.arm]
          simp
        rw [hw d1 h1, hw d2 h2, hib]
        split
        · split
          · refine ⟨rfl, fun k hk e1 e2 => ?_⟩
            rw [show ({ d1 with pend := d1.pend ++ [((placeM x.1 x.2 r.at_).1.toNat, r.data)] } : DM).cur k = _ from cur_wr1 d1 _ k r.data, show ({ d2 with pend := d2.pend ++ [((placeM x.1 x.2 r.at_).1.toNat, r.data)] } : DM).cur k = _ from cur_wr1 d2 _ k r.data, hc k hk e1 e2]
          · exact ⟨rfl, hc⟩
        · exact ⟨rfl, hc⟩
      · exact ⟨rfl, hc⟩
    · have hf : ∀ (d : DM) (h : Fre d), d.flush.2 = 0 := by
        intro d h
        simp [DM.flush, powered_free h.off h.arm]
      refine ⟨by simp only [hf d1 h1, hf d2 h2], fun k hk e1 e2 => ?_⟩
      simp only
      rw [(flush_fre h1).2 k hk, (flush_fre h2).2 k hk, hc k hk e1 e2]
theorem Ap.slot {x : Shp} (hA : ApX x) {pt : Int} {m1 m2 : SM} {d1 d2 : DM} (h : Ap x pt m1 d1 m2 d2) :
    Ap x pt (m1.slot d1).1 (m1.slot d1).2.1 (m2.slot d2).1 (m2.slot d2).2.1 ∧ see pt (m1.slot d1).2.2 = see pt (m2.slot d2).2.2 := by
  obtain ⟨r1, r2⟩ := slot_rest m1 d1
  obtain ⟨t1, t2⟩ := slot_rest m2 d2
  have esl := r1.trans (h.sl.trans t1.symm)
  have enx : (m1.slot d1).1.next = (m2.slot d2).1.next := by rw [r2, t2, h.sl, h.nx]
  by_cases hs : m1.slots[m1.next]? ≠ some pt ∨ pt < 0
  · obtain ⟨a1, a2, a3⟩ := slot_far hA h.a hs
    obtain ⟨b1, b2, b3⟩ := slot_far hA h.b (by rw [← h.sl, ← h.nx]; exact hs)
    exact ⟨⟨h.a.slot, h.b.slot, esl, enx, fun j hj => (a1 j hj).trans ((h.own j hj).trans (b1 j hj).symm), fun e h0 he k hk e1 e2 => (a3 e h0 he k hk e1 e2).trans ((h.cur e h0 he k hk e1 e2).trans (b3 e h0 he k hk e1 e2).symm)⟩, a2.trans b2.symm⟩
  · have hs1 : m1.slots[m1.next]? = some pt := by
      by_cases h1 : m1.slots[m1.next]? = some pt
      · exact h1
      · exact absurd (Or.inl h1) hs
    have h0 : ¬ pt < 0 := fun h1 => hs (.inr h1)
    have hs2 : m2.slots[m2.next]? = some pt := by rw [← h.sl, ← h.nx]; exact hs1
    have ho := h.own pt.toNat (by omega)
    have key : (∀ j : Nat, (j : Int) = pt → (m1.slot d1).1.parts[j]? = (m2.slot d2).1.parts[j]?) ∧ (∀ e, 0 ≤ pt → x.xs[pt.toNat]? = some e → ∀ k : Nat, k < 16 → e.1 ≤ (k : Int) → (k : Int) < e.1 + e.2 → (m1.slot d1).2.1.cur k = (m2.slot d2).2.1.cur k) ∧ (m1.slot d1).2.2 = (m2.slot d2).2.2 := by
      unfold SM.slot
      rw [hs1, hs2]
      simp only
      rw [if_neg h0, if_neg h0, ho]
      cases hp : m2.parts[pt.toNat]? with
      | none => exact ⟨h.own, h.cur, rfl⟩
      | some p =>
        simp only
        cases hq : p.q with
        | nil => exact ⟨h.own, h.cur, rfl⟩
        | cons r rest =>
          cases he : p.ext with
          | none => exact ⟨h.own, h.cur, rfl⟩
          | some e0 =>
            simp only
            obtain ⟨x0, n0⟩ := h.b.ext pt.toNat p e0 hp he
            obtain ⟨s1, s2⟩ := serve_eq h.a.fre h.b.fre e0 r (fun k hk => h.cur e0 (by omega) x0 k hk)
            refine ⟨fun j hj => ?_, fun e _ he' k hk e1 e2 => ?_, by rw [s1]⟩
            · have e : j = pt.toNat := by omega
              subst e
              rw [List.getElem?_set_self (List.getElem?_eq_some_iff.1 (ho.trans hp)).1, List.getElem?_set_self (List.getElem?_eq_some_iff.1 hp).1]
            · rw [x0] at he'
              cases he'
              exact s2 k hk e1 e2
    exact ⟨⟨h.a.slot, h.b.slot, esl, enx, key.1, key.2.1⟩, by rw [key.2.2]⟩

/-- one turn of a run: what others ask, what is asked, a slot -/
def askOth (pt : Int) (others : List Act15) (i : Nat) (m : SM) : SM := match others[i]? with
  | some a => if a.part = pt then m else (m.ask a.part a.kind a.at_ a.req).1
  | none => m
def askOwn (pt : Int) (own : List Act15) (i : Nat) (m : SM) (o : List Dn) : SM × List Dn := match own[i]? with
  | some a => ((m.ask pt a.kind a.at_ a.req).1, o ++ [Dn.mk 0 (m.ask pt a.kind a.at_ a.req).2.1 [] (m.ask pt a.kind a.at_ a.req).2.2])
  | none => (m, o)
def turnA (pt : Int) (own others : List Act15) (i : Nat) (p : SM × DM × List Dn) : SM × DM × List Dn :=
  (((askOwn pt own i (askOth pt others i p.1) p.2.2).1.slot p.2.1).1, ((askOwn pt own i (askOth pt others i p.1) p.2.2).1.slot p.2.1).2.1, (askOwn pt own i (askOth pt others i p.1) p.2.2).2 ++ [see pt ((askOwn pt own i (askOth pt others i p.1) p.2.2).1.slot p.2.1).2.2])
def runA (x : Shp) (pt : Int) (own others : List Act15) : Nat → SM × DM × List Dn
  | 0 => (SM.new x.xs x.rooms x.slots, DM.new 16, [])
  | i + 1 => turnA pt own others i (runA x pt own others i)
theorem Ap.oth {x : Shp} {pt : Int} {m1 m2 : SM} {d1 d2 : DM} (h : Ap x pt m1 d1 m2 d2) (l : List Act15) (i : Nat) : Ap x pt (askOth pt l i m1) d1 m2 d2 := by
  unfold askOth
  split
  · split
    · exact h
    · rename_i hne; exact h.askL hne _ _ _
  · exact h
theorem run_ap {x : Shp} (hA : ApX x) (pt : Int) (own one two : List Act15) (n : Nat) : Ap x pt (runA x pt own one n).1 (runA x pt own one n).2.1 (runA x pt own two n).1 (runA x pt own two n).2.1 ∧ (runA x pt own one n).2.2 = (runA x pt own two n).2.2 := by
  induction n with
  | zero => exact ⟨Ap.new x pt, rfl⟩
  | succ i ih =>
    obtain ⟨h, ho⟩ := ih
    simp only [runA]
    generalize runA x pt own one i = p at *
    generalize runA x pt own two i = q at *
    obtain ⟨m1, d1, o1⟩ := p
    obtain ⟨m2, d2, o2⟩ := q
    simp only at h ho
    subst ho
    have h' := ((h.oth one i).symm.oth two i).symm
    simp only [turnA]
    generalize askOth pt one i m1 = m1' at *
    generalize askOth pt two i m2 = m2' at *
    unfold askOwn
    cases own[i]? with
    | none =>
      simp only
      obtain ⟨k1, k2⟩ := h'.slot hA
      exact ⟨k1, by rw [k2]⟩
    | some a =>
      simp only
      obtain ⟨k0, k0'⟩ := h'.askO a.kind a.at_ a.req
      obtain ⟨k1, k2⟩ := k0.slot hA
      exact ⟨k1, by rw [k2, k0']⟩
theorem run_len (x : Shp) (pt : Int) (own others : List Act15) (n : Nat) : n ≤ (runA x pt own others n).2.2.length ∧ (runA x pt own others n).2.2.length ≤ 2 * n := by
  induction n with
  | zero => simp [runA]
  | succ i ih =>
    simp only [runA, turnA, askOwn]
    cases own[i]? <;> simp only [List.length_append, List.length_cons, List.length_nil] <;> omega
theorem oth_bd {n : Nat} {pt : Int} {others : List Act15} {i : Nat} {m : SM} {d : DM} (h : Bd n m d) : Bd (n + 1) (askOth pt others i m) d := by
  unfold askOth
  split
  · split
    · exact h.le (by omega)
    · exact h.ask _ _ _ _
  · exact h.le (by omega)
theorem own_bd {n : Nat} {pt : Int} {own : List Act15} {i : Nat} {m : SM} {d : DM} {o : List Dn} (h : Bd n m d) : Bd (n + 1) (askOwn pt own i m o).1 d := by
  unfold askOwn
  split
  · exact h.ask _ _ _ _
  · exact h.le (by omega)
theorem run_bd (x : Shp) (pt : Int) (own others : List Act15) (n : Nat) : Bd (3 * n) (runA x pt own others n).1 (runA x pt own others n).2.1 := by
  induction n with
  | zero => exact Bd.new _ _ _
  | succ i ih => exact (own_bd (oth_bd ih)).slot.le (by omega)
end Go.Proofs.Ytmcojfpomejnnaa

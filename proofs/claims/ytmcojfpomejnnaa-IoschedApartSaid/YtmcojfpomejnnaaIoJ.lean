/- IoschedConfined: the plain law. -/
import Derived.Test.YtmcojfpomejnnaaIoI
set_option linter.unusedSimpArgs false
set_option linter.unusedVariables false
namespace Go.Proofs.Ytmcojfpomejnnaa
open Go Go.RowKit Go.Own

theorem lay_cur (p : List (Nat × List UInt8)) : ∀ (s : List (List UInt8)) (k : Nat), k < s.length → (layAll s p)[k]?.getD [] = p.foldl (fun c q => if q.1 = k then q.2 else c) (s[k]?.getD []) := by
  induction p with
  | nil => intro s k _; rfl
  | cons q p ih =>
    intro s k hk
    have e : layAll s (q :: p) = layAll (s.set q.1 q.2) p := rfl
    rw [e, ih _ k (by simpa using hk), List.foldl_cons]
    congr 1
    by_cases h : q.1 = k
    · subst h; rw [if_pos rfl, List.getElem?_set_self hk]; rfl
    · rw [if_neg h, List.getElem?_set_ne h]
structure Fre (d : DM) : Prop where
  off : d.off = false
  arm : d.armed = false
  len : d.secs.length = 16
theorem flush_fre {d : DM} (h : Fre d) : Fre d.flush.1 ∧ ∀ k, k < 16 → d.flush.1.cur k = d.cur k := by
  have e : d.flush = ({ d with secs := layAll d.secs d.pend, pend := [] }, 0) := by simp [DM.flush, powered_free h.off h.arm]
  rw [e]
  refine ⟨⟨h.off, h.arm, by simp only [layAll_len]; exact h.len⟩, fun k hk => ?_⟩
  simp only [DM.cur, DM.sec, List.foldl_nil]
  exact lay_cur d.pend d.secs k (by rw [h.len]; exact hk)
theorem write_fre {d : DM} (h : Fre d) (n : Int) (l : List UInt8) : Fre (d.write n l).1 ∧ ∀ k : Nat, (k : Int) ≠ n → (d.write n l).1.cur k = d.cur k := by
  unfold DM.write
  split
  · rename_i hi
    split
    · rw [powered_free h.off h.arm]
      simp only [if_true]
      refine ⟨⟨h.off, h.arm, h.len⟩, fun k hk => ?_⟩
      have hc := cur_wr1 d n.toNat k l
      have : ¬ n.toNat = k := by
        simp only [DM.inB, decide_eq_true_eq] at hi
        omega
      rw [if_neg this] at hc
      exact hc
    · exact ⟨h, fun _ _ => rfl⟩
  · exact ⟨h, fun _ _ => rfl⟩
theorem serve_fre {d : DM} (h : Fre d) (x : Ext) (r : Rq) : Fre (serveM d x r).1 ∧ ∀ k : Nat, k < 16 → ¬ (x.1 ≤ (k : Int) ∧ (k : Int) < x.1 + x.2) → (serveM d x r).1.cur k = d.cur k := by
  unfold serveM
  split
  · exact ⟨h, fun _ _ _ => rfl⟩
  · split
    · simp only
      unfold pwrite
      split
      · rename_i hp
        refine ⟨(write_fre h _ _).1, fun k _ hk => (write_fre h _ _).2 k ?_⟩
        unfold placeM at hp ⊢
        split
        · rename_i h0; rw [if_pos h0] at hp; cases hp
        · rename_i h0
          rw [if_neg h0] at hp
          split
          · rename_i h1; rw [if_pos h1] at hp; cases hp
          · simp only; omega
      · exact ⟨h, fun _ _ _ => rfl⟩
    · exact ⟨(flush_fre h).1, fun k hk _ => (flush_fre h).2 k hk⟩

/-- one partition alone asks -/
structure Cf (x : Shp) (part : Int) (m : SM) (d : DM) : Prop where
  ext : ∀ (j : Nat) p e, m.parts[j]? = some p → p.ext = some e → x.xs[j]? = some e
  q : ∀ (j : Nat) p, m.parts[j]? = some p → p.q ≠ [] → (j : Int) = part
  fre : Fre d
  out : ∀ k : Nat, k < 16 → (∀ e, 0 ≤ part → x.xs[part.toNat]? = some e → ¬ (e.1 ≤ (k : Int) ∧ (k : Int) < e.1 + e.2)) → d.cur k = List.replicate 64 0
theorem Cf.new (x : Shp) (part : Int) : Cf x part (SM.new x.xs x.rooms x.slots) (DM.new 16) := by
  have hz : ∀ (j : Nat) p, (SM.new x.xs x.rooms x.slots).parts[j]? = some p → ∃ e r, x.xs[j]? = some e ∧ p = newPM e r := by
    intro j p hp
    simp only [SM.new, List.getElem?_zipWith] at hp
    split at hp
    · rename_i e r h1 h2
      cases hp
      exact ⟨e, r, h1, rfl⟩
    · cases hp
  refine ⟨fun j p e hp he => ?_, fun j p hp hq => ?_, ⟨rfl, rfl, by simp [DM.new]⟩, fun k hk _ => new_cur hk⟩
  · obtain ⟨e', r, h1, rfl⟩ := hz j p hp
    unfold newPM at he
    split at he
    · cases he
    · cases he; exact h1
  · obtain ⟨e', r, h1, rfl⟩ := hz j p hp
    exact absurd rfl hq
theorem askP_ext (p : PM) (k a : Int) (l : List UInt8) : (askP p k a l).1.ext = p.ext := by
  unfold askP
  split
  · rfl
  · split
    · rfl
    · split
      · rfl
      · split <;> rfl
theorem Cf.ask {x : Shp} {part : Int} {m : SM} {d : DM} (h : Cf x part m d) (k a : Int) (l : List UInt8) : Cf x part (m.ask part k a l).1 d := by
  unfold SM.ask
  split
  · rename_i h0
    split
    · exact h
    · rename_i p0 hp0
      refine ⟨fun j p e hp he => ?_, fun j p hp hq => ?_, h.fre, h.out⟩
      · simp only [List.getElem?_set] at hp
        split at hp
        · rename_i hj
          split at hp
          · cases hp
            rw [askP_ext] at he
            exact h.ext j p0 e (by rw [← hj]; exact hp0) he
          · cases hp
        · exact h.ext j p e hp he
      · simp only [List.getElem?_set] at hp
        split at hp
        · omega
        · exact h.q j p hp hq
  · exact h
theorem Cf.step {x : Shp} {part : Int} {m : SM} {d : DM} (h : Cf x part m d) : Cf x part m.step d := ⟨h.ext, h.q, h.fre, h.out⟩
theorem Cf.slot {x : Shp} {part : Int} {m : SM} {d : DM} (h : Cf x part m d) : Cf x part (m.slot d).1 (m.slot d).2.1 := by
  unfold SM.slot
  split
  · exact h
  · split
    · exact h.step
    · split
      · exact h.step
      · rename_i pt _ _ p0 hp0
        split
        · rename_i r rest e0 hq0 he0
          have hj := h.q _ p0 hp0 (by rw [hq0]; simp)
          have hx := h.ext _ p0 e0 hp0 he0
          obtain ⟨f1, f2⟩ := serve_fre h.fre e0 r
          refine ⟨fun j p e hp he => ?_, fun j p hp hq => ?_, f1, fun k hk ho => ?_⟩
          · simp only [List.getElem?_set] at hp
            split at hp
            · rename_i hjj
              split at hp
              · cases hp
                exact h.ext j p0 e (by rw [← hjj]; exact hp0) he
              · cases hp
            · exact h.ext j p e hp he
          · simp only [List.getElem?_set] at hp
            split at hp
            · rename_i hjj; omega
            · exact h.q j p hp hq
          · rw [f2 k hk (ho e0 (by omega) (by rw [← hj, Int.toNat_natCast]; exact hx))]
            exact h.out k hk ho
        · exact h.step
end Go.Proofs.Ytmcojfpomejnnaa

/- audit: the plain laws of sectors and of a free disk. -/
import Derived.Test.YtbknpbihgfphaaaDoorCrAv
set_option linter.unusedSimpArgs false
set_option linter.unusedVariables false
namespace Go.Proofs.YtbknpbihgfphaaaDoor
open Go Go.RowKit Go.Own
theorem numI_put (v size : Nat) : ∀ i, i ≤ size → numI (putN v size) i = v % 2 ^ (8 * i)
  | 0, _ => by simp [numI, Nat.mod_one]
  | i + 1, h => by
    have hg : (putN v size)[i]?.getD 0 = byteAt v i := by simp [putN, show i < size by omega]
    have hb : (byteAt v i).toNat = v / 2 ^ (8 * i) % 2 ^ 8 := by simp [byteAt, Nat.shiftRight_eq_div_pow]
    rw [numI, hg, numI_put v size i (by omega), hb, Nat.or_comm, ← Nat.shiftLeft_add_eq_or_of_lt (Nat.mod_lt _ (Nat.two_pow_pos _)), Nat.shiftLeft_eq, Nat.mul_add, Nat.pow_add, Nat.mul_one, Nat.mod_mul, Nat.add_comm, Nat.mul_comm (v / 2 ^ (8 * i) % 2 ^ 8)]
theorem numN_put (v size : Nat) : numN (putN v size) = v % 2 ^ (8 * size) := by
  unfold numN; rw [putN_len]; exact numI_put v size size (Nat.le_refl _)
theorem open_seal (c : List UInt8) : openL (sealL c) = (c, 0) := by
  have hl : (sealL c).length = c.length + 4 := by simp [sealL, putN_len]
  have ht : (sealL c).take ((sealL c).length - 4) = c := by rw [hl, Nat.add_sub_cancel, sealL, List.take_left]
  have hd : (sealL c).drop ((sealL c).length - 4) = putN (crcOn 0 c) 4 := by rw [hl, Nat.add_sub_cancel, sealL, List.drop_left]
  unfold openL
  rw [ht, hd, if_neg (by omega), if_pos (by rw [numN_put]; exact Nat.mod_eq_of_lt (on_lt (by decide) c))]
theorem secE_len (n : Nat) (x : En) : (secE n x).length = 64 := secN_len _ _ _ _ _
/-- a disk that is on, and not armed -/
structure Fr0 (N : Nat) (d : DM) : Prop where
  off : d.off = false
  arm : d.armed = false
  len : d.secs.length = N
theorem lay_cur0 (p : List (Nat × List UInt8)) : ∀ (s : List (List UInt8)) (k : Nat), k < s.length → (layAll s p)[k]?.getD [] = p.foldl (fun c q => if q.1 = k then q.2 else c) (s[k]?.getD []) := by
  induction p with
  | nil => intro s k _; rfl
  | cons q p ih =>
    intro s k hk
    have e : layAll s (q :: p) = layAll (s.set q.1 q.2) p := rfl
    rw [e, ih _ k (by simpa using hk), List.foldl_cons]
    congr 1
    by_cases h : q.1 = k
    · subst h; rw [if_pos rfl, List.getElem?_set_self hk]; rfl
    · rw [if_neg h, List.getElem?_set_ne h]
theorem Fr0.flush {N : Nat} {d : DM} (h : Fr0 N d) : d.flush.2 = 0 ∧ Fr0 N d.flush.1 ∧ d.flush.1.pend = [] ∧ ∀ k, k < N → d.flush.1.cur k = d.cur k := by
  have e : d.flush = ({ d with secs := layAll d.secs d.pend, pend := [] }, 0) := by simp [DM.flush, powered_free h.off h.arm]
  rw [e]
  refine ⟨rfl, ⟨h.off, h.arm, by simp only [layAll_len]; exact h.len⟩, rfl, fun k hk => ?_⟩
  simp only [DM.cur, DM.sec, List.foldl_nil]
  exact lay_cur0 d.pend d.secs k (by rw [h.len]; exact hk)
theorem place_inN {f c n : Nat} (hn : n < c) (h : f + c ≤ 1000) : placeM (f : Int) (c : Int) (n : Int) = (((f + n : Nat) : Int), 0) := by
  unfold placeM
  rw [if_neg (by omega), if_neg (by omega)]
  simp
theorem Fr0.pwrite {N : Nat} {d : DM} (h : Fr0 N d) {f c n : Nat} {l : List UInt8} (hn : n < c) (hf : f + c ≤ N) (hN : N ≤ 1000) (hl : l.length = 64) : pwrite d ((f : Int), (c : Int)) (n : Int) l = (wr1 d (f + n) l, 0) := by
  unfold Go.Proofs.YtbknpbihgfphaaaDoor.pwrite
  simp only
  rw [place_inN hn (by omega)]
  simp only [if_true]
  have hib : d.inB ((f + n : Nat) : Int) = true := by simp only [DM.inB, decide_eq_true_eq]; rw [h.len]; omega
  unfold DM.write
  rw [if_pos hib, if_pos hl, powered_free h.off h.arm, if_pos rfl, Int.toNat_natCast]
  rfl
theorem Fr0.wr1 {N : Nat} {d : DM} (h : Fr0 N d) (k : Nat) (l : List UInt8) : Fr0 N (Go.Proofs.YtbknpbihgfphaaaDoor.wr1 d k l) := ⟨h.off, h.arm, h.len⟩
theorem Fr0.pread {N : Nat} {d : DM} (h : Fr0 N d) {f c n : Nat} (hn : n < c) (hf : f + c ≤ N) (hN : N ≤ 1000) : pread d ((f : Int), (c : Int)) (n : Int) = (d.cur (f + n), 0) := by
  unfold Go.Proofs.YtbknpbihgfphaaaDoor.pread
  simp only
  rw [place_inN hn (by omega)]
  simp only [if_true]
  exact read_free h.off (by rw [h.len]; omega)
theorem Fr0.new {N : Nat} : Fr0 N (DM.new N) := ⟨rfl, rfl, by simp [DM.new]⟩
/-- a log without a failure, on a free disk -/
structure Lg (N f c : Nat) (d : DM) (m : AL) : Prop where
  fr : Fr0 N d
  pd : d.pend = []
  dead : m.dead = false
  len : m.ents.length ≤ c
  sec : ∀ i (h : i < m.ents.length), d.cur (f + i) = secE i m.ents[i]
  out : ∀ k, k < N → (k < f ∨ f + m.ents.length ≤ k) → d.cur k = List.replicate 64 0
theorem Lg.new {N f c : Nat} : Lg N f c (DM.new N) ⟨[], false⟩ := ⟨Fr0.new, rfl, rfl, Nat.zero_le _, fun i h => by simp at h, fun k hk _ => new_cur hk⟩
theorem Lg.add {N f c : Nat} {d : DM} {m : AL} (h : Lg N f c d m) (hf : f + c ≤ N) (hN : N ≤ 1000) (e : En) :
    Lg N f c (addA d ((f : Int), (c : Int)) m e).1 (addA d ((f : Int), (c : Int)) m e).2.1 ∧
    ((addA d ((f : Int), (c : Int)) m e).2.2 = 1 ∧ e.valid = false ∧ (addA d ((f : Int), (c : Int)) m e).2.1 = m ∨
     (addA d ((f : Int), (c : Int)) m e).2.2 = 5 ∧ e.valid = true ∧ m.ents.length = c ∧ (addA d ((f : Int), (c : Int)) m e).2.1 = m ∨
     (addA d ((f : Int), (c : Int)) m e).2.2 = 0 ∧ e.valid = true ∧ m.ents.length < c ∧ (addA d ((f : Int), (c : Int)) m e).2.1 = ⟨m.ents ++ [e], false⟩) := by
  have hd := h.dead
  unfold addA
  rw [if_neg (by rw [hd]; decide)]
  by_cases hv : e.valid = false
  · rw [if_pos hv]; exact ⟨h, .inl ⟨rfl, hv, rfl⟩⟩
  have hv' : e.valid = true := by cases hq : e.valid with | true => rfl | false => exact absurd hq hv
  rw [if_neg hv]
  have hlen := h.len
  by_cases hfull : (c : Int) ≤ (m.ents.length : Int)
  · rw [if_pos hfull]; exact ⟨h, .inr (.inl ⟨rfl, hv', by omega, rfl⟩)⟩
  rw [if_neg hfull]
  have hw := h.fr.pwrite (n := m.ents.length) (l := secE m.ents.length e) (by omega) hf hN (secE_len _ _)
  rw [hw]
  obtain ⟨f1, f2, f3, f4⟩ := (h.fr.wr1 (f + m.ents.length) (secE m.ents.length e)).flush
  simp only [if_true]
  rw [f1, if_pos rfl]
  refine ⟨⟨f2, f3, rfl, by simp; omega, fun i hi => ?_, fun k hk ho => ?_⟩, .inr (.inr ⟨rfl, hv', by omega, rfl⟩)⟩
  · simp only [List.length_append, List.length_cons, List.length_nil] at hi
    rw [f4 _ (by omega), cur_wr1]
    by_cases hie : i = m.ents.length
    · subst hie; rw [if_pos rfl]; simp
    · rw [if_neg (by omega), h.sec i (by omega)]
      simp only
      rw [List.getElem_append_left]
  · simp only [List.length_append, List.length_cons, List.length_nil] at ho
    rw [f4 _ hk, cur_wr1, if_neg (by omega)]
    exact h.out k hk (by omega)
end Go.Proofs.YtbknpbihgfphaaaDoor

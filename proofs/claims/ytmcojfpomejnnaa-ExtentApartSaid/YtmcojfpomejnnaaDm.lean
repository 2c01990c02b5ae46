/- The disk as plain data: what its calls come to. -/
import Derived.Test.YtmcojfpomejnnaaLawB
set_option linter.unusedSimpArgs false
set_option linter.unusedVariables false
namespace Go.Own

structure DM where
  secs : List (List UInt8)
  pend : List (Nat × List UInt8)
  off : Bool
  armed : Bool
  left : Int
  surv : List Bool

structure DM.Wf (d : DM) : Prop where
  sec : ∀ s ∈ d.secs, s.length = 64
  pnd : ∀ p ∈ d.pend, p.1 < d.secs.length ∧ p.2.length = 64
  lo : 1 ≤ d.secs.length
  hi : d.secs.length ≤ 256
  l0 : 0 ≤ d.left
  l1 : d.left ≤ 9223372036854775807

def layAll (s : List (List UInt8)) (p : List (Nat × List UInt8)) : List (List UInt8) := p.foldl (fun s p => s.set p.1 p.2) s
def layS : List (List UInt8) → List (Nat × List UInt8) → List Bool → List (List UInt8)
  | s, [], _ => s
  | s, _ :: _, [] => s
  | s, p :: ps, b :: bs => layS (if b then s.set p.1 p.2 else s) ps bs

namespace DM
def new (n : Nat) : DM := { secs := List.replicate n (List.replicate 64 0), pend := [], off := false, armed := false, left := 0, surv := [] }
def crash (d : DM) (sv : List Bool) : DM := if d.off then d else { secs := layS d.secs d.pend sv, pend := [], off := true, armed := false, left := 0, surv := [] }
def powered (d : DM) : DM × Bool :=
  if d.off || !d.armed then (d, !d.off) else if d.left = 0 then (d.crash d.surv, false) else ({ d with left := d.left - 1 }, true)
def inB (d : DM) (n : Int) : Bool := decide (0 ≤ n ∧ n < d.secs.length)
def write (d : DM) (n : Int) (b : List UInt8) : DM × Int :=
  if d.inB n then (if b.length = 64 then (if d.powered.2 then ({ d.powered.1 with pend := d.powered.1.pend ++ [(n.toNat, b)] }, 0) else (d.powered.1, 9)) else (d, 1)) else (d, 4)
def flush (d : DM) : DM × Int :=
  if d.powered.2 then ({ d.powered.1 with secs := layAll d.powered.1.secs d.powered.1.pend, pend := [] }, 0) else (d.powered.1, 9)
def sec (d : DM) (n : Nat) : List UInt8 := d.secs[n]?.getD []
def cur (d : DM) (n : Nat) : List UInt8 := d.pend.foldl (fun c p => if p.1 = n then p.2 else c) (d.sec n)
def read (d : DM) (n : Int) : List UInt8 × Int := if d.inB n then (if d.off then ([], 9) else (d.cur n.toNat, 0)) else ([], 4)
def has (d : DM) (n : Int) : List UInt8 × Int := if d.inB n then (d.sec n.toNat, 0) else ([], 4)
def disarm (d : DM) : DM := { d with armed := false, left := 0, surv := [] }
def arm (d : DM) (n : Int) (sv : List Bool) : DM := if d.off then d else if n < 0 then d.disarm else { d with armed := true, left := n, surv := sv }
def power (d : DM) : DM := { d with pend := [], off := false, armed := false, left := 0, surv := [] }
def image (d : DM) : List UInt8 := d.secs.flatten
end DM

theorem layAll_len (p : List (Nat × List UInt8)) : ∀ s, (layAll s p).length = s.length := by
  induction p with
  | nil => intro s; rfl
  | cons x p ih => intro s; show (layAll (s.set x.1 x.2) p).length = _; rw [ih]; simp
theorem layS_len : ∀ (s : List (List UInt8)) (p : List (Nat × List UInt8)) (b : List Bool), (layS s p b).length = s.length
  | s, [], _ => by simp [layS]
  | s, _ :: _, [] => by simp [layS]
  | s, p :: ps, b :: bs => by
    simp only [layS]; rw [layS_len]; split <;> simp
theorem mem_set64 {s : List (List UInt8)} (hs : ∀ x ∈ s, x.length = 64) {n : Nat} {y : List UInt8} (hy : y.length = 64) : ∀ x ∈ s.set n y, x.length = 64 := by
  intro x hx
  rcases List.mem_or_eq_of_mem_set hx with h | h
  · exact hs x h
  · rw [h]; exact hy
theorem layAll_64 (p : List (Nat × List UInt8)) : ∀ s, (∀ x ∈ s, x.length = 64) → (∀ q ∈ p, q.2.length = 64) → ∀ x ∈ layAll s p, x.length = 64 := by
  induction p with
  | nil => intro s hs _; exact hs
  | cons q p ih =>
    intro s hs hp
    show ∀ x ∈ layAll (s.set q.1 q.2) p, _
    exact ih _ (mem_set64 hs (hp q (by simp))) (fun r hr => hp r (by simp [hr]))
theorem layS_64 : ∀ (s : List (List UInt8)) (p : List (Nat × List UInt8)) (b : List Bool), (∀ x ∈ s, x.length = 64) → (∀ q ∈ p, q.2.length = 64) → ∀ x ∈ layS s p b, x.length = 64
  | s, [], _, hs, _ => by simpa [layS] using hs
  | s, _ :: _, [], hs, _ => by simpa [layS] using hs
  | s, p :: ps, b :: bs, hs, hp => by
    simp only [layS]
    refine layS_64 _ ps bs ?_ (fun r hr => hp r (by simp [hr]))
    split
    · exact mem_set64 hs (hp p (by simp))
    · exact hs
theorem DM.Wf.crash {d : DM} (h : d.Wf) (sv : List Bool) : (d.crash sv).Wf := by
  unfold DM.crash
  split
  · exact h
  · exact ⟨layS_64 _ _ _ h.sec (fun q hq => (h.pnd q hq).2), fun p hp => by simp at hp, by simp [layS_len]; exact h.lo, by simp [layS_len]; exact h.hi, Int.le_refl _, by simp⟩
theorem DM.Wf.powered {d : DM} (h : d.Wf) : d.powered.1.Wf := by
  unfold DM.powered
  split
  · exact h
  · split
    · exact h.crash _
    · exact ⟨h.sec, h.pnd, h.lo, h.hi, by have := h.l0; simp only; omega, by have := h.l1; simp only; omega⟩
theorem DM.Wf.flush {d : DM} (h : d.Wf) : d.flush.1.Wf := by
  unfold DM.flush
  split
  · have hp := h.powered
    exact ⟨layAll_64 _ _ hp.sec (fun q hq => (hp.pnd q hq).2), fun p hp => by simp at hp, by simp [layAll_len]; exact hp.lo, by simp [layAll_len]; exact hp.hi, hp.l0, hp.l1⟩
  · exact h.powered
theorem DM.crash_len (d : DM) (sv : List Bool) : (d.crash sv).secs.length = d.secs.length := by
  unfold DM.crash; split <;> simp [layS_len]
theorem DM.powered_len (d : DM) : d.powered.1.secs.length = d.secs.length := by
  unfold DM.powered
  split
  · rfl
  · split
    · exact d.crash_len _
    · rfl
theorem DM.Wf.write {d : DM} (h : d.Wf) (n : Int) (b : List UInt8) : (d.write n b).1.Wf := by
  unfold DM.write
  split
  · rename_i hin
    split
    · rename_i hb
      have hp := h.powered
      split
      · refine ⟨hp.sec, fun p hq => ?_, hp.lo, hp.hi, hp.l0, hp.l1⟩
        simp only [List.mem_append, List.mem_singleton] at hq
        rcases hq with hq | rfl
        · exact hp.pnd p hq
        · simp only [DM.inB, decide_eq_true_eq] at hin
          refine ⟨?_, hb⟩
          simp only [d.powered_len]; omega
      · exact hp
    · exact h
  · exact h
theorem DM.Wf.disarm {d : DM} (h : d.Wf) : d.disarm.Wf := ⟨h.sec, h.pnd, h.lo, h.hi, Int.le_refl _, by simp [DM.disarm]⟩
theorem DM.Wf.arm {d : DM} (h : d.Wf) (n : Int) (sv : List Bool) (hn : n ≤ 9223372036854775807) : (d.arm n sv).Wf := by
  unfold DM.arm
  split
  · exact h
  · split
    · exact h.disarm
    · exact ⟨h.sec, h.pnd, h.lo, h.hi, by simp only; omega, hn⟩
theorem DM.Wf.power {d : DM} (h : d.Wf) : d.power.Wf := ⟨h.sec, fun p hp => by simp [DM.power] at hp, h.lo, h.hi, Int.le_refl _, by simp [DM.power]⟩
theorem DM.Wf.new {n : Nat} (h1 : 1 ≤ n) (h2 : n ≤ 256) : (DM.new n).Wf :=
  ⟨fun s hs => by simp only [DM.new, List.mem_replicate] at hs; rw [hs.2]; simp, fun p hp => by simp [DM.new] at hp, by simpa [DM.new] using h1, by simpa [DM.new] using h2, Int.le_refl _, by simp [DM.new]⟩

theorem layS_snoc : ∀ (s : List (List UInt8)) (ps : List (Nat × List UInt8)) (q : Nat × List UInt8) (sv : List Bool),
    layS s (ps ++ [q]) sv = if sv[ps.length]?.getD false then (layS s ps sv).set q.1 q.2 else layS s ps sv
  | s, [], q, [] => by simp [layS]
  | s, [], q, b :: bs => by cases b <;> simp [layS]
  | s, p :: ps, q, [] => by simp [layS]
  | s, p :: ps, q, b :: bs => by
    simp only [List.cons_append, layS, List.length_cons, List.getElem?_cons_succ]
    exact layS_snoc _ ps q bs
theorem layAll_snoc (s : List (List UInt8)) (ps : List (Nat × List UInt8)) (q : Nat × List UInt8) : layAll s (ps ++ [q]) = (layAll s ps).set q.1 q.2 := by simp [layAll]
theorem take_snoc' {α : Type} (l : List α) {k : Nat} (h : k < l.length) : l.take (k + 1) = l.take k ++ [l[k]] := by
  rw [List.take_succ_eq_append_getElem h]

/-! ### flattened sectors -/
theorem flat_len {s : List (List UInt8)} (h : ∀ x ∈ s, x.length = 64) : s.flatten.length = s.length * 64 := by
  induction s with
  | nil => rfl
  | cons x s ih =>
    simp only [List.flatten_cons, List.length_append, List.length_cons]
    rw [ih (fun y hy => h y (by simp [hy])), h x (by simp)]; omega
theorem flat_take {s : List (List UInt8)} (h : ∀ x ∈ s, x.length = 64) (n : Nat) : s.flatten.take (n * 64) = (s.take n).flatten := by
  induction s generalizing n with
  | nil => simp
  | cons x s ih =>
    cases n with
    | zero => simp
    | succ n =>
      have hx := h x (by simp)
      simp only [List.flatten_cons, List.take_succ_cons]
      rw [List.take_append, hx, List.take_of_length_le (by omega), ← ih (fun y hy => h y (by simp [hy]))]
      congr 2; omega
theorem flat_drop {s : List (List UInt8)} (h : ∀ x ∈ s, x.length = 64) (n : Nat) : s.flatten.drop (n * 64) = (s.drop n).flatten := by
  induction s generalizing n with
  | nil => simp
  | cons x s ih =>
    cases n with
    | zero => simp
    | succ n =>
      have hx := h x (by simp)
      simp only [List.flatten_cons, List.drop_succ_cons]
      rw [List.drop_append, hx, List.drop_of_length_le (by omega), ← ih (fun y hy => h y (by simp [hy]))]
      simp; congr 1; omega
theorem flat_at {s : List (List UInt8)} (h : ∀ x ∈ s, x.length = 64) {n : Nat} (hn : n < s.length) : (s.flatten.drop (n * 64)).take 64 = s[n] := by
  rw [flat_drop h, List.drop_eq_getElem_cons hn, List.flatten_cons]
  have := h s[n] (List.getElem_mem hn)
  rw [List.take_append_of_le_length (by omega), List.take_of_length_le (by omega)]
theorem flat_set {s : List (List UInt8)} (h : ∀ x ∈ s, x.length = 64) {n : Nat} (hn : n < s.length) (y : List UInt8) (hy : y.length = 64) :
    s.flatten.take (n * 64) ++ y ++ s.flatten.drop (n * 64 + 64) = (s.set n y).flatten := by
  have e : n * 64 + 64 = (n + 1) * 64 := by omega
  rw [e, flat_take h, flat_drop h, List.set_eq_take_append_cons_drop]
  simp [hn]

/-! ### pending writes as cells -/
def wcell (p : Nat × List UInt8) : List Value := .int .i64 (p.1 : Int) :: u8s p.2
def pcells (l : List (Nat × List UInt8)) : List Value := l.flatMap wcell
theorem wcell_len {p : Nat × List UInt8} (h : p.2.length = 64) : (wcell p).length = 65 := by simp [wcell, u8s_len, h]
theorem wcell_one (p : Nat × List UInt8) : ∀ v ∈ wcell p, v.oneCell' = true := by
  intro v hv
  simp only [wcell, List.mem_cons] at hv
  rcases hv with rfl | hv
  · rfl
  · exact u8s_one _ v hv
theorem pcells_app (l m : List (Nat × List UInt8)) : pcells (l ++ m) = pcells l ++ pcells m := by simp [pcells]
theorem pcells_len {l : List (Nat × List UInt8)} (h : ∀ p ∈ l, p.2.length = 64) : (pcells l).length = l.length * 65 := by
  induction l with
  | nil => rfl
  | cons x l ih =>
    simp only [pcells, List.flatMap_cons, List.length_append, List.length_cons]
    rw [wcell_len (h x (by simp))]
    have := ih (fun y hy => h y (by simp [hy]))
    simp only [pcells] at this
    omega
theorem pcells_drop {l : List (Nat × List UInt8)} (h : ∀ p ∈ l, p.2.length = 64) (n : Nat) : (pcells l).drop (n * 65) = pcells (l.drop n) := by
  induction l generalizing n with
  | nil => simp [pcells]
  | cons x l ih =>
    cases n with
    | zero => simp
    | succ n =>
      have hx := wcell_len (h x (by simp))
      have ih' := ih (fun y hy => h y (by simp [hy])) n
      simp only [pcells, List.flatMap_cons, List.drop_succ_cons] at ih' ⊢
      rw [List.drop_append, hx, List.drop_of_length_le (by omega), ← ih']
      simp; congr 1; omega
theorem pcells_at {l : List (Nat × List UInt8)} (h : ∀ p ∈ l, p.2.length = 64) {n : Nat} (hn : n < l.length) : ((pcells l).drop (n * 65)).take 65 = wcell l[n] := by
  rw [pcells_drop h, List.drop_eq_getElem_cons hn]
  have := wcell_len (h l[n] (List.getElem_mem hn))
  simp only [pcells, List.flatMap_cons]
  rw [List.take_append_of_le_length (by omega), List.take_of_length_le (by omega)]
end Go.Own

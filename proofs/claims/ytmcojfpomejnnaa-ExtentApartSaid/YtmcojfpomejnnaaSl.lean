/- Memory in pieces: what is read alone (Ro), what is owned (Asn); a world holds them apart. Over any program. -/
import Derived.Test.YtmcojfpomejnnaaLawB
set_option linter.unusedSimpArgs false
set_option linter.unusedVariables false
namespace Go.Own
open Go Go.RowKit

/-- memory that is only read, and what never turns -/
structure Ro where
  mem : Nat → Option Obj
  cst : World
structure Ro.Le (s s' : Ro) : Prop where
  mem : ∀ k o, s.mem k = some o → s'.mem k = some o
  cst : s'.cst = s.cst
theorem Ro.Le.refl (s : Ro) : s.Le s := ⟨fun _ _ h => h, rfl⟩
theorem Ro.Le.trans {a b c : Ro} (h : a.Le b) (k : b.Le c) : a.Le c := ⟨fun i o x => k.mem i o (h.mem i o x), k.cst.trans h.cst⟩
structure Fits (s : Ro) (w : World) : Prop where
  mem : ∀ k o, s.mem k = some o → w.heap[k]? = some o
  os : w.os = s.cst.os
  tape : w.tape = s.cst.tape
  output : w.output = s.cst.output

/-- a piece of memory: what holds of it, its blocks -/
structure Asn where
  p : World → List Nat → Prop
  loc : ∀ {w w' : World} {F : List Nat}, p w F → (∀ k ∈ F, w'.heap[k]? = w.heap[k]?) → p w' F
  lt : ∀ {w : World} {F : List Nat}, p w F → ∀ k ∈ F, k < w.heap.size

def Sep (w : World) : List Asn → List Nat → Prop
  | [], F => F = []
  | A :: rs, F => ∃ F1 F2, F = F1 ++ F2 ∧ A.p w F1 ∧ Sep w rs F2 ∧ ∀ k ∈ F1, k ∉ F2

theorem Sep.loc {w w' : World} : ∀ {rs : List Asn} {F : List Nat}, Sep w rs F → (∀ k ∈ F, w'.heap[k]? = w.heap[k]?) → Sep w' rs F
  | [], _, h, _ => h
  | A :: rs, F, h, hk => by
    obtain ⟨F1, F2, rfl, h1, h2, h3⟩ := h
    exact ⟨F1, F2, rfl, A.loc h1 fun k hk1 => hk k (by simp [hk1]), Sep.loc h2 fun k hk2 => hk k (by simp [hk2]), h3⟩
theorem Sep.lt {w : World} : ∀ {rs : List Asn} {F : List Nat}, Sep w rs F → ∀ k ∈ F, k < w.heap.size
  | [], _, h, k, hk => by rw [show _ = [] from h] at hk; simp at hk
  | A :: rs, F, h, k, hk => by
    obtain ⟨F1, F2, rfl, h1, h2, h3⟩ := h
    rcases List.mem_append.1 hk with hk | hk
    · exact A.lt h1 k hk
    · exact Sep.lt h2 k hk

theorem Sep.upd {w : World} : ∀ {rs : List Asn} {F : List Nat} {i : Nat} {A : Asn}, Sep w rs F → rs[i]? = some A →
    ∃ F1, A.p w F1 ∧ (∀ k ∈ F1, k ∈ F) ∧ (∀ j B, j ≠ i → rs[j]? = some B → ∃ G, B.p w G ∧ (∀ k ∈ G, k ∈ F) ∧ ∀ k ∈ G, k ∉ F1) ∧ ∀ (A' : Asn) (w' : World) (F1' : List Nat), A'.p w' F1' → (∀ k ∈ F, k ∉ F1 → w'.heap[k]? = w.heap[k]?) → (∀ k ∈ F1', k ∈ F1 ∨ k ∉ F) →
      ∃ F', Sep w' (rs.set i A') F' ∧ ∀ k ∈ F', k ∈ F ∨ k ∈ F1'
  | [], _, _, _, _, hi => by simp at hi
  | B :: rs, F, 0, A, h, hi => by
    simp at hi
    subst hi
    obtain ⟨F1, F2, rfl, h1, h2, h3⟩ := h
    refine ⟨F1, h1, fun k hk => by simp [hk], ?_, fun A' w' F1' h1' ho hf => ?_⟩
    · intro j B hj hB
      cases j with
      | zero => exact absurd rfl hj
      | succ j =>
        simp at hB
        have aux : ∀ {rs : List Asn} {F : List Nat} {j : Nat}, Sep w rs F → rs[j]? = some B → ∃ G, B.p w G ∧ ∀ k ∈ G, k ∈ F := by
          intro rs
          induction rs with
          | nil => intro F j _ h; simp at h
          | cons C rs ih =>
            intro F j h hj
            obtain ⟨G1, G2, rfl, g1, g2, g3⟩ := h
            cases j with
            | zero => simp at hj; subst hj; exact ⟨G1, g1, fun k hk => by simp [hk]⟩
            | succ j => simp at hj; obtain ⟨G, a1, a2⟩ := ih g2 hj; exact ⟨G, a1, fun k hk => by simp [a2 k hk]⟩
        obtain ⟨G, a1, a2⟩ := aux h2 hB
        exact ⟨G, a1, fun k hk => by simp [a2 k hk], fun k hk h' => h3 k h' (a2 k hk)⟩
    · refine ⟨F1' ++ F2, ⟨F1', F2, rfl, h1', h2.loc fun k hk => ho k (by simp [hk]) (fun h' => h3 k h' hk), fun k hk hk2 => ?_⟩, fun k hk => ?_⟩
      · rcases hf k hk with h' | h'
        · exact h3 k h' hk2
        · exact h' (by simp [hk2])
      · rcases List.mem_append.1 hk with hk | hk
        · exact .inr hk
        · exact .inl (by simp [hk])
  | B :: rs, F, i + 1, A, h, hi => by
    simp at hi
    obtain ⟨F1, F2, rfl, h1, h2, h3⟩ := h
    obtain ⟨G, g1, g2, gg, g3⟩ := Sep.upd h2 hi
    refine ⟨G, g1, fun k hk => by simp [g2 k hk], ?_, fun A' w' F1' h1' ho hf => ?_⟩
    · intro j C hj hC
      cases j with
      | zero => simp at hC; subst hC; exact ⟨F1, h1, fun k hk => by simp [hk], fun k hk h' => h3 k hk (g2 k h')⟩
      | succ j =>
        simp at hC
        obtain ⟨K, k1, k2, k3⟩ := gg j C (by omega) hC
        exact ⟨K, k1, fun k hk => by simp [k2 k hk], k3⟩
    · obtain ⟨F', f1, f2⟩ := g3 A' w' F1' h1' (fun k hk hn => ho k (by simp [hk]) hn) (fun k hk => (hf k hk).imp id fun h' h'' => h' (by simp [h'']))
      refine ⟨F1 ++ F', ⟨F1, F', rfl, B.loc h1 fun k hk => ho k (by simp [hk]) (fun h' => h3 k hk (g2 k h')), f1, fun k hk hk2 => ?_⟩, fun k hk => ?_⟩
      · rcases f2 k hk2 with h' | h'
        · exact h3 k hk h'
        · rcases hf k h' with h'' | h''
          · exact h3 k hk (g2 k h'')
          · exact h'' (by simp [hk])
      · rcases List.mem_append.1 hk with hk | hk
        · exact .inl (by simp [hk])
        · exact (f2 k hk).imp (fun h' => by simp [h']) id

theorem Sep.up {w : World} : ∀ {rs : List Asn} {F : List Nat} {i : Nat} {A : Asn}, Sep w rs F → rs[i]? = some A → ∃ F', Sep w (A :: rs.eraseIdx i) F' ∧ ∀ k, k ∈ F' → k ∈ F
  | [], _, _, _, _, hi => by simp at hi
  | B :: rs, F, 0, A, h, hi => by
    simp at hi; subst hi; exact ⟨F, h, fun _ hk => hk⟩
  | B :: rs, F, i + 1, A, h, hi => by
    simp at hi
    obtain ⟨F1, F2, rfl, h1, h2, h3⟩ := h
    obtain ⟨F', ⟨G1, G2, rfl, g1, g2, g3⟩, g4⟩ := Sep.up h2 hi
    refine ⟨G1 ++ (F1 ++ G2), ⟨G1, F1 ++ G2, rfl, g1, ⟨F1, G2, rfl, h1, g2, fun k hk hk2 => h3 k hk (g4 k (by simp [hk2]))⟩, fun k hk hk2 => ?_⟩, fun k hk => ?_⟩
    · rcases List.mem_append.1 hk2 with h' | h'
      · exact h3 k h' (g4 k (by simp [hk]))
      · exact g3 k hk h'
    · rcases List.mem_append.1 hk with h' | h'
      · simp [g4 k (by simp [h'])]
      · rcases List.mem_append.1 h' with h' | h'
        · simp [h']
        · simp [g4 k (by simp [h'])]

structure Holds (s : Ro) (w : World) (rs : List Asn) : Prop where
  fits : Fits s w
  sep : ∃ F, Sep w rs F ∧ ∀ k ∈ F, s.mem k = none

theorem Fits.lt {s : Ro} {w : World} (h : Fits s w) {k : Nat} (hk : w.heap.size ≤ k) : s.mem k = none := by
  cases he : s.mem k with
  | none => rfl
  | some o => have := lt_of_heap (h.mem k o he); omega
theorem Fits.only {s : Ro} {w w' : World} {S : List Nat} (h : Fits s w) (ho : Only S w w') (hs : ∀ k ∈ S, s.mem k = none) : Fits s w' :=
  ⟨fun k o hk => (ho.heap (h.mem k o hk) fun hS => by rw [hs k hS] at hk; cases hk), ho.os.trans h.os, ho.tape.trans h.tape, ho.output.trans h.output⟩

section
variable {s : Ro} {w w' : World} {rs : List Asn}
theorem Holds.upd (H : Holds s w rs) {i : Nat} {A : Asn} (hi : rs[i]? = some A) : ∃ F1, A.p w F1 ∧ (∀ k ∈ F1, s.mem k = none) ∧ (∀ j B, j ≠ i → rs[j]? = some B → ∃ G, B.p w G ∧ ∀ k ∈ G, k ∉ F1) ∧
    ∀ (A' : Asn) (w' : World) (F1' : List Nat), A'.p w' F1' → Only F1 w w' → (∀ k ∈ F1', k ∈ F1 ∨ w.heap.size ≤ k) → Holds s w' (rs.set i A') := by
  obtain ⟨hf, F, hF, hn⟩ := H
  obtain ⟨F1, h1, h2, hB, h3⟩ := hF.upd hi
  refine ⟨F1, h1, fun k hk => hn k (h2 k hk), fun j B hj hb => by obtain ⟨G, g1, _, g3⟩ := hB j B hj hb; exact ⟨G, g1, g3⟩, fun A' w' F1' h1' ho hfr => ?_⟩
  obtain ⟨F', f1, f2⟩ := h3 A' w' F1' h1' (fun k hk hk1 => ho.block k (hF.lt k hk) hk1) (fun k hk => (hfr k hk).imp id fun h' h'' => by have := hF.lt k h''; omega)
  refine ⟨hf.only ho fun k hk => hn k (h2 k hk), F', f1, fun k hk => ?_⟩
  rcases f2 k hk with h' | h'
  · exact hn k h'
  · rcases hfr k h' with h'' | h''
    · exact hn k (h2 k h'')
    · exact hf.lt h''
theorem Holds.get (H : Holds s w rs) {i : Nat} {A : Asn} (hi : rs[i]? = some A) : ∃ F1, A.p w F1 := by
  obtain ⟨F, h, _⟩ := H.upd hi; exact ⟨F, h⟩
theorem Holds.only0 (H : Holds s w rs) (ho : Only [] w w') : Holds s w' rs := by
  obtain ⟨hf, F, hF, hn⟩ := H
  exact ⟨hf.only ho (by simp), F, hF.loc fun k hk => ho.block k (hF.lt k hk) (by simp), hn⟩
theorem Holds.drew (H : Holds s w rs) : Holds s w.drew rs := H.only0 (only_drew _ _)
theorem Holds.add (H : Holds s w rs) {A : Asn} {F1 : List Nat} (h1 : A.p w' F1) (ho : Only [] w w') (hn1 : ∀ k ∈ F1, w.heap.size ≤ k) : Holds s w' (A :: rs) := by
  have H' := H.only0 ho
  obtain ⟨hf, F, hF, hn⟩ := H
  refine ⟨H'.fits, F1 ++ F, ⟨F1, F, rfl, h1, hF.loc fun k hk => ho.block k (hF.lt k hk) (by simp), fun k hk hk2 => by have := hF.lt k hk2; have := hn1 k hk; omega⟩, fun k hk => ?_⟩
  rcases List.mem_append.1 hk with hk | hk
  · exact hf.lt (hn1 k hk)
  · exact hn k hk
theorem Holds.tail {A : Asn} (H : Holds s w (A :: rs)) : Holds s w rs := by
  obtain ⟨hf, F, ⟨F1, F2, rfl, h1, h2, h3⟩, hn⟩ := H
  exact ⟨hf, F2, h2, fun k hk => hn k (by simp [hk])⟩
theorem Holds.up (H : Holds s w rs) (i : Nat) {A : Asn} (hi : rs[i]? = some A) : Holds s w (A :: rs.eraseIdx i) := by
  obtain ⟨hf, F, hF, hn⟩ := H
  obtain ⟨F', h1, h2⟩ := hF.up hi
  exact ⟨hf, F', h1, fun k hk => hn k (h2 k hk)⟩
/-- an owned piece becomes read-only -/
theorem Holds.fix {A : Asn} (H : Holds s w (A :: rs)) : ∃ F s', A.p w F ∧ s.Le s' ∧ Holds s' w rs ∧ ∀ k ∈ F, s'.mem k = w.heap[k]? := by
  obtain ⟨hf, F, ⟨F1, F2, rfl, h1, h2, h3⟩, hn⟩ := H
  refine ⟨F1, ⟨fun k => if k ∈ F1 then w.heap[k]? else s.mem k, s.cst⟩, h1, ⟨fun k o hk => ?_, rfl⟩, ⟨⟨fun k o hk => ?_, hf.os, hf.tape, hf.output⟩, F2, h2, fun k hk => ?_⟩, fun k hk => ?_⟩
  · have : k ∉ F1 := fun h' => by rw [hn k (by simp [h'])] at hk; cases hk
    simp [this, hk]
  · simp only at hk
    split at hk
    · exact hk
    · exact hf.mem k o hk
  · have : k ∉ F1 := fun h' => h3 k h' hk
    simp [this]; exact hn k (by simp [hk])
  · simp [hk]
def startRo (w : World) : Ro := ⟨fun k => w.heap[k]?, w⟩
theorem Holds.start (w : World) : Holds (startRo w) w [] := ⟨⟨fun _ _ h => h, rfl, rfl, rfl⟩, [], rfl, by simp⟩
theorem Holds.fin {w0 : World} {s' : Ro} (h : (startRo w0).Le s') (H : Holds s' w' rs) : Only [] w0 w' := by
  have hb : ∀ k, k < w0.heap.size → w'.heap[k]? = w0.heap[k]? := fun k hk => by
    have : w0.heap[k]? = some w0.heap[k] := by simp [hk]
    rw [this]
    exact H.fits.mem k _ (h.mem k _ this)
  refine ⟨by rw [H.fits.os, h.cst]; rfl, by rw [H.fits.tape, h.cst]; rfl, by rw [H.fits.output, h.cst]; rfl, ?_, fun k hk _ => hb k hk⟩
  cases hz : w0.heap.size with
  | zero => omega
  | succ n =>
    have := hb n (by omega)
    have h2 : w0.heap[n]? = some (w0.heap[n]'(by omega)) := by simp [hz]
    rw [h2] at this
    have := lt_of_heap this
    omega
end

/-! ### pieces -/
def var (b : Nat) (t : TypeId) (cs : List Value) : Asn :=
  ⟨fun w F => F = [b] ∧ w.heap[b]? = some (.cells cs.toArray t (0, 0)), fun h hk => ⟨h.1, (hk b (by simp [h.1])).trans h.2⟩, fun h k hk => by rw [h.1] at hk; simp at hk; subst hk; exact lt_of_heap h.2⟩
def row (e : TypeId) (sz : Nat) (v : Value) (n : Nat) (xs : List Value) : Asn :=
  ⟨fun w F => F = v.ownBlock.toList ∧ w.ownsRow 0 e sz v n xs, fun h hk => ⟨h.1, own_kept h.2 fun k hv => hk k (by rw [h.1, hv]; simp)⟩, fun h k hk => by rw [h.1] at hk; exact own_lt h.2 (by simpa using hk)⟩

section
variable {s : Ro} {w w' : World} {rs : List Asn}
theorem Holds.var (H : Holds s w rs) {i b : Nat} {t : TypeId} {cs : List Value} (hi : rs[i]? = some (var b t cs)) : w.heap[b]? = some (.cells cs.toArray t (0, 0)) := by
  obtain ⟨F, _, h⟩ := H.get hi; exact h
theorem Holds.row (H : Holds s w rs) {i n sz : Nat} {e : TypeId} {v : Value} {xs : List Value} (hi : rs[i]? = some (row e sz v n xs)) : w.ownsRow 0 e sz v n xs := by
  obtain ⟨F, _, h⟩ := H.get hi; exact h
theorem Holds.setVar (H : Holds s w rs) {i b : Nat} {t : TypeId} {cs : List Value} (hi : rs[i]? = some (Own.var b t cs)) (cs' : List Value) : Holds s (w.setRow b cs'.toArray) (rs.set i (Own.var b t cs')) := by
  obtain ⟨F, ⟨rfl, h⟩, _, _, h3⟩ := H.upd hi
  exact h3 (Own.var b t cs') _ [b] ⟨rfl, setRow_heap _ _ _ _ _ _ h⟩ (only_setRow _ _ _ (by simp)) (by simp)
theorem Holds.alloc (H : Holds s w rs) (t : TypeId) (cs : List Value) : Holds s (w.alloc (.cells cs.toArray t)) (Own.var w.heap.size t cs :: rs) :=
  H.add (F1 := [w.heap.size]) ⟨rfl, heap_alloc_new _ _⟩ (only_alloc _ _ _) (by simp)
theorem Holds.nilRow (H : Holds s w rs) (e : TypeId) (sz : Nat) : Holds s w (Own.row e sz (.slice none 0 0) 0 [] :: rs) :=
  H.add (F1 := []) ⟨rfl, World.ownsRow_nil _ _ _ _⟩ (Only.refl _ _) (by simp)

/-! ### slices that are only read -/
def Pin (s : Ro) (g j : Nat) (x : Value) : Prop := ∃ cs t f, s.mem g = some (.cells cs t f) ∧ cs[j]? = some x
theorem Pin.mono {s' : Ro} {g j : Nat} {x : Value} (h : Pin s g j x) (hs : s.Le s') : Pin s' g j x := by
  obtain ⟨cs, t, f, h1, h2⟩ := h; exact ⟨cs, t, f, hs.mem _ _ h1, h2⟩
theorem Pin.cell {g j : Nat} {x : Value} (h : Pin s g j x) (hf : Fits s w) : w.cell? ⟨g, j, none⟩ = some x := by
  obtain ⟨cs, t, f, h1, h2⟩ := h
  rw [cell_of_row w g j cs t f (hf.mem _ _ h1)]; exact h2
def SlS (s : Ro) (v : Value) (sz n : Nat) (xs : List Value) : Prop := ∃ a c, v = .slice a n c ∧ xs.length = n * sz ∧ n ≤ c ∧ c ≤ maxLen ∧ (xs = [] ∨ ∃ g o, a = some ⟨g, o, none⟩ ∧ ∀ j x, xs[j]? = some x → Pin s g (o + j) x)
theorem SlS.mono {s' : Ro} {v : Value} {sz n : Nat} {xs : List Value} (h : SlS s v sz n xs) (hs : s.Le s') : SlS s' v sz n xs := by
  obtain ⟨a, c, h1, h2, h3, h4, h5⟩ := h
  exact ⟨a, c, h1, h2, h3, h4, h5.imp id fun ⟨g, o, h6, h7⟩ => ⟨g, o, h6, fun j x hx => (h7 j x hx).mono hs⟩⟩
theorem SlS.nil (s : Ro) (sz : Nat) : SlS s (.slice none 0 0) sz 0 [] := ⟨none, 0, rfl, by simp, Nat.le_refl _, Nat.zero_le _, .inl rfl⟩
theorem SlS.sl {v : Value} {sz n : Nat} {xs : List Value} (h : SlS s v sz n xs) (hf : Fits s w) : Sl w v sz n xs := by
  obtain ⟨a, c, rfl, h2, h3, h4, h5⟩ := h
  refine ⟨a, c, rfl, h2, h3, h4, fun j x hx => ?_⟩
  rcases h5 with rfl | ⟨g, o, rfl, h6⟩
  · simp at hx
  · exact ⟨_, rfl, by rw [Addr.add_mid]; exact (h6 j x hx).cell hf⟩
/-- its block is pinned, where it has a cell -/
theorem SlS.pinned {v : Value} {sz n : Nat} {xs : List Value} (h : SlS s v sz n xs) (hx : xs ≠ []) {k : Nat} (hk : v.ownBlock = some k) : ∃ o, s.mem k = some o := by
  obtain ⟨a, c, rfl, h2, h3, h4, h5⟩ := h
  rcases h5 with rfl | ⟨g, o, rfl, h6⟩
  · exact absurd rfl hx
  · cases hk
    cases xs with
    | nil => exact absurd rfl hx
    | cons x r => obtain ⟨cs, t, f, h7, _⟩ := h6 0 x rfl; exact ⟨_, h7⟩
theorem SlS.start {v : Value} {sz n : Nat} {xs : List Value} (h : Sl w v sz n xs) : SlS (startRo w) v sz n xs := by
  obtain ⟨a, c, rfl, h2, h3, h4, h5⟩ := h
  refine ⟨a, c, rfl, h2, h3, h4, ?_⟩
  cases xs with
  | nil => exact .inl rfl
  | cons x r =>
    right
    obtain ⟨⟨g, o, sp⟩, rfl, hc⟩ := h5 0 x rfl
    have hsp : sp = none := by simpa [Addr.add] using World.cell?_spot hc
    subst hsp
    refine ⟨g, o, rfl, fun j y hy => ?_⟩
    obtain ⟨ad, ha, hcj⟩ := h5 j y hy
    cases ha
    rw [Addr.add_mid] at hcj
    obtain ⟨cs, t, f, hb⟩ := cells_of_cell hcj
    exact ⟨cs, t, f, hb, by rw [cell_of_row _ _ _ _ _ _ hb] at hcj; exact hcj⟩
theorem posS {v : Value} {sz n : Nat} {xs : List Value} (h : SlS s v sz n xs) (hn : 0 < n) (hz : 0 < sz) : ∃ g o c, v = .slice (some ⟨g, o, none⟩) n c ∧ n ≤ c ∧ c ≤ maxLen ∧ ∀ j x, xs[j]? = some x → Pin s g (o + j) x := by
  obtain ⟨a, c, rfl, h2, h3, h4, h5⟩ := h
  rcases h5 with rfl | ⟨g, o, rfl, h6⟩
  · have : 0 < n * sz := Nat.mul_pos hn hz
    simp at h2; omega
  · exact ⟨g, o, c, rfl, h3, h4, h6⟩

/-- a row of our own becomes read-only -/
theorem Holds.fixRow {e : TypeId} {sz n : Nat} {v : Value} {xs : List Value} (H : Holds s w (Own.row e sz v n xs :: rs)) : ∃ s', s.Le s' ∧ Holds s' w rs ∧ SlS s' v sz n xs := by
  obtain ⟨F, s', ⟨rfl, ho⟩, hs, H', hm⟩ := H.fix
  refine ⟨s', hs, H', ?_⟩
  obtain ⟨h1, h2⟩ := ho
  rcases h2 with ⟨rfl, rfl⟩ | ⟨g, cap, cur, rfl, _, hg, h3, h4, h5, h6⟩
  · have : xs = [] := List.eq_nil_of_length_eq_zero (by simpa using h1)
    subst this; exact SlS.nil _ _
  · refine ⟨_, cap, rfl, h1, h3, h4, .inr ⟨g, 0, rfl, fun j x hx => ⟨cur, e, (0, 0), (hm g (by simp [Value.ownBlock])).trans hg, ?_⟩⟩⟩
    rw [Nat.zero_add]
    rw [← h6, List.getElem?_take] at hx
    split at hx
    · simpa using hx
    · cases hx

/-! ### whatever slice may be read -/
structure Src (s : Ro) (rs : List Asn) (v : Value) (sz n : Nat) (xs : List Value) : Prop where
  reads : ∀ w, Holds s w rs → Sl w v sz n xs
  blk : xs ≠ [] → ∀ k, v.ownBlock = some k → (∃ o, s.mem k = some o) ∨ ∃ (i : Nat) (A : Asn), rs[i]? = some A ∧ ∀ w F, A.p w F → k ∈ F
theorem Src.ro {v : Value} {sz n : Nat} {xs : List Value} (h : SlS s v sz n xs) : Src s rs v sz n xs := ⟨fun w H => h.sl H.fits, fun hx k hk => .inl (h.pinned hx hk)⟩
theorem Src.own {v : Value} {sz n : Nat} {xs : List Value} (i : Nat) (e : TypeId) (h : rs[i]? = some (row e sz v n xs)) : Src s rs v sz n xs :=
  ⟨fun w H => own_sl (H.row h), fun _ k hk => .inr ⟨i, _, h, fun w F hp => by rw [hp.1, hk]; simp⟩⟩
theorem Src.arr {v : Value} {sz n : Nat} {xs : List Value} (i b m : Nat) (t : TypeId) (h : rs[i]? = some (var b t xs)) (hv : v = .slice (some ⟨b, 0, none⟩) n m) (h1 : xs.length = n * sz) (h2 : n ≤ m) (h3 : m ≤ maxLen) : Src s rs v sz n xs := by
  refine ⟨fun w H => ⟨_, m, hv, h1, h2, h3, fun j x hx => ⟨_, rfl, ?_⟩⟩, fun _ k hk => .inr ⟨i, _, h, fun w F hp => by subst hv; cases hk; rw [hp.1]; simp⟩⟩
  rw [Addr.add_mid, Nat.zero_add, cell_of_row w b j _ _ _ (H.var h)]
  simpa using hx
theorem Src.sl {v : Value} {sz n : Nat} {xs : List Value} (h : Src s rs v sz n xs) (H : Holds s w rs) : Sl w v sz n xs := h.reads w H
/-- the address of x[l:] -/
def subAddr (a : Option Addr) (c l sz : Nat) : Option Addr := if c = l then a else a.map (·.add (l * sz))
theorem sl_sub {a : Option Addr} {c sz n l m : Nat} {xs : List Value} (h : Sl w (.slice a n c) sz n xs) (hl : l ≤ m) (hm : m ≤ n) : Sl w (.slice (subAddr a c l sz) (m - l) (c - l)) sz (m - l) ((xs.drop (l * sz)).take ((m - l) * sz)) := by
  obtain ⟨a', c', he, h1, h2, h3, h4⟩ := h
  cases he
  refine ⟨_, _, rfl, ?_, by omega, by omega, fun j x hx => ?_⟩
  · have e : (m - l) * sz + l * sz = m * sz := by rw [← Nat.add_mul]; congr 1; omega
    have : m * sz ≤ n * sz := Nat.mul_le_mul_right _ hm
    rw [List.length_take, List.length_drop, h1]; omega
  · have hj : j < (m - l) * sz := by
      have := (List.getElem?_eq_some_iff.1 hx).1
      rw [List.length_take] at this; omega
    rw [List.getElem?_take_of_lt hj, List.getElem?_drop] at hx
    obtain ⟨ad, rfl, hc⟩ := h4 _ x hx
    have hne : ¬ c = l := fun e => by
      have : m - l = 0 := by omega
      rw [this] at hj; omega
    refine ⟨ad.add (l * sz), by simp [subAddr, hne], ?_⟩
    have hadd : (ad.add (l * sz)).add j = ad.add (l * sz + j) := by
      unfold Addr.add
      by_cases h0 : l * sz = 0
      · simp [h0]
      · by_cases h1 : j = 0
        · simp [h1]
        · rw [if_neg h0, if_neg h1, if_neg (by omega)]; simp [Nat.add_assoc]
    rw [hadd]; exact hc
theorem sub_block {a : Option Addr} {c l sz n n' c' : Nat} {k : Nat} (h : (Value.slice (subAddr a c l sz) n c').ownBlock = some k) : (Value.slice a n' c).ownBlock = some k := by
  unfold subAddr at h
  split at h
  · cases a <;> simp_all [Value.ownBlock]
  · cases a with
    | none => simp [Value.ownBlock] at h
    | some ad => simp only [Option.map_some, Value.ownBlock, Option.some.injEq] at h ⊢; rw [← h, Reg.add_block]
theorem Src.sub {a : Option Addr} {c sz n l m : Nat} {xs : List Value} (h : Src s rs (.slice a n c) sz n xs) (hl : l ≤ m) (hm : m ≤ n) : Src s rs (.slice (subAddr a c l sz) (m - l) (c - l)) sz (m - l) ((xs.drop (l * sz)).take ((m - l) * sz)) :=
  ⟨fun w H => sl_sub (h.reads w H) hl hm, fun hx k hk => h.blk (fun e => hx (by simp [e])) k (sub_block hk)⟩
theorem Src.form {v : Value} {sz n : Nat} {xs : List Value} (h : Src s rs v sz n xs) (H : Holds s w rs) : ∃ a c, v = .slice a n c ∧ xs.length = n * sz ∧ n ≤ c ∧ c ≤ maxLen := by
  obtain ⟨a, c, h1, h2, h3, h4, _⟩ := h.reads w H; exact ⟨a, c, h1, h2, h3, h4⟩
/-- a slice beside the piece that is written: it stays readable while that piece turns -/
theorem Holds.beside {A : Asn} (H : Holds s w (A :: rs)) {v : Value} {sz n : Nat} {xs : List Value} (h : Src s rs v sz n xs) : ∃ F, A.p w F ∧ (∀ k ∈ F, s.mem k = none) ∧ Stable w F v sz n xs ∧ (xs ≠ [] → ∀ k, v.ownBlock = some k → k ∉ F) ∧
    ∀ (A' : Asn) (w' : World) (F' : List Nat), A'.p w' F' → Only F w w' → (∀ k ∈ F', k ∈ F ∨ w.heap.size ≤ k) → Holds s w' (A' :: rs) := by
  obtain ⟨F, h1, h2, h3, h4⟩ := H.upd (i := 0) (A := A) rfl
  have hsl := h.sl H.tail
  have hd : xs ≠ [] → ∀ k, v.ownBlock = some k → k ∉ F := by
    intro hx k hk hF
    rcases h.blk hx k hk with ⟨o, ho⟩ | ⟨i, B, hi, hB⟩
    · rw [h2 k hF] at ho; cases ho
    · obtain ⟨G, g1, g2⟩ := h3 (i + 1) B (by omega) (by simpa using hi)
      exact g2 k (hB _ _ g1) hF
  refine ⟨F, h1, h2, ?_, hd, fun A' w' F' a b c => by simpa using h4 A' w' F' a b c⟩
  by_cases hx : xs = []
  · subst hx; exact fun w' _ => sl_nil_any hsl
  · exact stable_of hsl (hd hx)
/-- the piece at the head turns by a call -/
theorem Holds.call {A : Asn} (H : Holds s w (A :: rs)) : ∃ F, A.p w F ∧ ∀ (A' : Asn) (w' : World) (F' : List Nat), A'.p w' F' → Only F w w' → (∀ k ∈ F', k ∈ F ∨ w.heap.size ≤ k) → Holds s w' (A' :: rs) := by
  obtain ⟨F, h1, h2, h3, h4⟩ := H.upd (i := 0) (A := A) rfl
  exact ⟨F, h1, fun A' w' F' a b c => by simpa using h4 A' w' F' a b c⟩
end
end Go.Own

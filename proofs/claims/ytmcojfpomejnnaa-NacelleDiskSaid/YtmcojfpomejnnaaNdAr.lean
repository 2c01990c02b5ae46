/- What the reading of an argument gives: slices, structs, numbers; over any program. An extent among the arguments. Layer 15's arguments, and how acts change the model. Layer 15: a schedule that is made, and acts on it. IoschedConfined: the plain law. law15.slots, and what a round of slots does. IoschedWithin: the plain law. -/
import Derived.Test.YtmcojfpomejnnaaNdK2
import Derived.ProofKit
import Derived.SizedLaws
import Derived.OpenShut
import Derived.Deep.Slices
import Derived.Test.YtmcojfpomejnnaaNdEx
import Derived.Test.YtmcojfpomejnnaaNdIoE
set_option linter.unusedSimpArgs false
set_option linter.unusedVariables false
namespace Go.Own
open Go Go.RowKit
/-- the cells cs read as a value of type t, each slice and string within the form's reach -/
def Rdg (P : Program) (w : World) (t : TypeId) (cs : List Value) : Prop :=
  ∃ (H : Type) (enc : TypeId × Value → H) (fuel : Nat) (x : DataW H × List MemPlace), DataW.trod enc P w 0 (fun _ => true) true fuel t cs = some x ∧ ∀ n ∈ x.1.weights P t, n ≤ reachBytes
section
variable {P : Program} {w : World} {t e : TypeId} {cs : List Value}
theorem rdg_int {k : IntKind} (hu : P.underlying t = some (.int k)) (h : Rdg P w t cs) : ∃ n, cs = [.int k n] ∧ (Lit.int k n).wf = true := by
  obtain ⟨H, enc, fuel, x, h, _⟩ := h
  cases fuel with
  | zero => simp [DataW.trod] at h
  | succ f =>
    unfold DataW.trod at h
    rw [hu] at h
    split at h <;> simp_all
theorem rdg_bool (hu : P.underlying t = some .bool) (h : Rdg P w t cs) : ∃ b, cs = [.bool b] := by
  obtain ⟨H, enc, fuel, x, h, _⟩ := h
  cases fuel with
  | zero => simp [DataW.trod] at h
  | succ f =>
    unfold DataW.trod at h
    rw [hu] at h
    split at h <;> simp_all
theorem add_add (a : Addr) (m j : Nat) : (a.add m).add j = a.add (m + j) := by
  unfold Addr.add
  by_cases hm : m = 0
  · simp [hm]
  · by_cases hj : j = 0
    · simp [hj]
    · rw [if_neg hm, if_neg hj, if_neg (by omega)]
      simp [Nat.add_assoc]
theorem weights_all {H : Type} {l : List (DataW H)} {d : DataW H} (h : d ∈ l) {n : Nat} (hn : n ∈ d.weights P e) : n ∈ DataW.weightsAll P e l := by
  induction l with
  | nil => cases h
  | cons x r ih =>
    simp only [DataW.weightsAll, List.mem_append]
    rcases List.mem_cons.1 h with rfl | h
    · exact .inl hn
    · exact .inr (ih h)
theorem rdg_slice (hu : P.underlying t = some (.slice e)) (h : Rdg P w t cs) : cs = [.slice none 0 0] ∨
    ∃ a len cap, cs = [.slice (some a) len cap] ∧ len ≤ cap ∧ cap ≤ maxLen ∧ cap * P.bytesOf e ≤ reachBytes ∧
      ∀ i, i < len → ∃ cs', cs'.length = P.cellsOf e ∧ (∀ j, j < P.cellsOf e → w.cell? (a.add (i * P.cellsOf e + j)) = cs'[j]?) ∧ Rdg P w e cs' := by
  obtain ⟨H, enc, fuel, x, h, hw⟩ := h
  rcases Deep.open_slice hu h with ⟨h0, _⟩ | ⟨a, len, cap, m, n, D, Pl, rfl, _, hl, hm, hmm, rfl, hx⟩
  · exact .inl h0
  · right
    simp only [if_true] at hmm
    subst hmm
    simp only [DataW.weights, hu] at hw
    refine ⟨a, len, m, rfl, hl, hm, ?_, fun i hi => ?_⟩
    · have := hw _ (by simp; exact Or.inl rfl)
      rw [show len + (m - len) = m by omega] at this
      exact this
    · obtain ⟨cs', h1, h2⟩ := hx i (by omega)
      obtain ⟨_, hlen, hc⟩ := World.cells?_some h1
      refine ⟨cs', hlen, fun j hj => by rw [← add_add]; exact hc j hj, H, enc, n, (D i, Pl i), h2, fun q hq => hw q ?_⟩
      simp only [List.mem_cons, List.mem_append]
      refine .inr (.inl (weights_all (d := D i) ?_ hq))
      exact List.mem_map.2 ⟨i, List.mem_range.2 hi, rfl⟩
theorem rdg_struct {fs : Array Field} (hu : P.underlying t = some (.struct fs)) (h : Rdg P w t cs) : cs.length = P.cellsOf t ∧
    ∀ (j : Nat) f, fs[j]? = some f → Rdg P w f.type ((cs.drop f.offset).take (P.cellsOf f.type)) := by
  obtain ⟨H, enc, fuel, x, h, hw⟩ := h
  cases fuel with
  | zero => simp [DataW.trod] at h
  | succ n =>
    unfold DataW.trod at h
    rw [hu] at h
    simp only [] at h
    split at h
    · rename_i hl
      rw [Option.map_eq_some_iff] at h
      obtain ⟨xs, hxs, rfl⟩ := h
      refine ⟨hl, fun j f hf => ?_⟩
      have hj := mapM_some_get hxs j f (by simpa using hf)
      have hlen := mapM_some_length hxs
      have hjl : j < xs.length := by
        have : j < fs.size := (Array.getElem?_eq_some_iff.1 hf).1
        simp at hlen; omega
      rw [List.getElem?_eq_getElem hjl] at hj
      refine ⟨H, enc, n, xs[j], hj, fun q hq => hw q ?_⟩
      simp only [DataW.weights, hu]
      refine DataW.weights_mem_each (j := j) (t := f.type) (d := xs[j].1) ?_ ?_ q hq
      · simp [hf]
      · simp [hjl]
    · cases h
theorem exists_list {α : Type} {p : Nat → α → Prop} : ∀ (n : Nat), (∀ i, i < n → ∃ x, p i x) → ∃ l : List α, l.length = n ∧ ∀ i (h : i < l.length), p i l[i]
  | 0, _ => ⟨[], rfl, fun i h => absurd h (by simp)⟩
  | n + 1, h => by
    obtain ⟨l, hl, hp⟩ := exists_list n (fun i hi => h i (by omega))
    obtain ⟨x, hx⟩ := h n (by omega)
    refine ⟨l ++ [x], by simp [hl], fun i hi => ?_⟩
    by_cases hin : i < l.length
    · rw [List.getElem_append_left hin]; exact hp i hin
    · have : i = n := by simp at hi; omega
      subst this
      rw [List.getElem_append_right (by omega)]
      simp only [hl, Nat.sub_self, List.getElem_cons_zero]
      exact hx
theorem flatMap_get {α : Type} {f : α → List Value} {sz : Nat} (hpos : 0 < sz) : ∀ (l : List α), (∀ x ∈ l, (f x).length = sz) → ∀ (j : Nat) (v : Value), (l.flatMap f)[j]? = some v → ∃ (h : j / sz < l.length), (f l[j / sz])[j % sz]? = some v
  | [], _, j, v, h => by simp at h
  | x :: l, hf, j, v, h => by
    have hx := hf x (by simp)
    rw [List.flatMap_cons] at h
    by_cases hj : j < sz
    · rw [List.getElem?_append_left (by omega)] at h
      have e1 : j / sz = 0 := Nat.div_eq_of_lt hj
      have e2 : j % sz = j := Nat.mod_eq_of_lt hj
      refine ⟨by rw [e1]; simp, ?_⟩
      simp only [e1, e2, List.getElem_cons_zero]
      exact h
    · rw [List.getElem?_append_right (by omega), hx] at h
      obtain ⟨h1, h2⟩ := flatMap_get hpos l (fun y hy => hf y (by simp [hy])) (j - sz) v h
      have e1 : j / sz = (j - sz) / sz + 1 := by
        rw [Nat.div_eq_sub_div hpos (by omega)]
      have e2 : j % sz = (j - sz) % sz := by rw [Nat.mod_eq_sub_mod (by omega)]
      refine ⟨by rw [e1]; simp; exact h1, ?_⟩
      simp only [e1, e2, List.getElem_cons_succ]
      exact h2
theorem flatMap_len {α : Type} {f : α → List Value} {sz : Nat} : ∀ (l : List α), (∀ x ∈ l, (f x).length = sz) → (l.flatMap f).length = l.length * sz
  | [], _ => by simp
  | x :: l, hf => by
    rw [List.flatMap_cons, List.length_append, hf x (by simp), flatMap_len l (fun y hy => hf y (by simp [hy]))]
    simp [Nat.add_mul]; omega
/-- a slice of elements that each read as data: as a list -/
theorem rdg_list {α : Type} (f : α → List Value) (p : α → Prop) {v : Value} (hu : P.underlying t = some (.slice e)) (hsz : 0 < P.cellsOf e) (hone : ∀ cs', cs'.length = P.cellsOf e → Rdg P w e cs' → ∃ x, f x = cs' ∧ p x) (h : Rdg P w t [v]) :
    ∃ l : List α, Sl w v (P.cellsOf e) l.length (l.flatMap f) ∧ (∀ x ∈ l, p x ∧ (f x).length = P.cellsOf e) ∧ l.length * P.bytesOf e ≤ reachBytes := by
  rcases rdg_slice hu h with h0 | ⟨a, len, cap, hv, hl, hm, hb, hel⟩
  · cases h0
    exact ⟨[], ⟨none, 0, rfl, by simp, Nat.le_refl _, Nat.zero_le _, fun j x hx => by simp at hx⟩, by simp, by simp⟩
  · cases hv
    have hch : ∀ i, i < len → ∃ x : α, (f x).length = P.cellsOf e ∧ (∀ j, j < P.cellsOf e → w.cell? (a.add (i * P.cellsOf e + j)) = (f x)[j]?) ∧ p x := fun i hi => by
      obtain ⟨cs', h1, h2, h3⟩ := hel i hi
      obtain ⟨x, hx, hp⟩ := hone cs' h1 h3
      exact ⟨x, by rw [hx]; exact h1, by rw [hx]; exact h2, hp⟩
    obtain ⟨l, hll, hp⟩ := exists_list len hch
    have hflen : ∀ x ∈ l, (f x).length = P.cellsOf e := fun x hx => by
      obtain ⟨i, hi, rfl⟩ := List.mem_iff_getElem.1 hx; exact (hp i hi).1
    refine ⟨l, ⟨some a, cap, by rw [hll], flatMap_len l hflen, by omega, hm, fun j v hv => ⟨a, rfl, ?_⟩⟩, fun x hx => ⟨?_, hflen x hx⟩, ?_⟩
    · obtain ⟨h1, h2⟩ := flatMap_get hsz l hflen j v hv
      have := (hp _ h1).2.1 (j % P.cellsOf e) (Nat.mod_lt _ hsz)
      rw [show j / P.cellsOf e * P.cellsOf e + j % P.cellsOf e = j by rw [Nat.mul_comm]; exact Nat.div_add_mod j _] at this
      rw [this]; exact h2
    · obtain ⟨i, hi, rfl⟩ := List.mem_iff_getElem.1 hx; exact (hp i hi).2.2
    · rw [hll]; exact Nat.le_trans (Nat.mul_le_mul_right _ hl) hb
theorem flatMap_one {α : Type} (f : α → Value) : ∀ (l : List α), l.flatMap (fun x => [f x]) = l.map f
  | [] => rfl
  | x :: l => by rw [List.flatMap_cons, flatMap_one f l]; rfl
theorem rdg_bools {v : Value} (hu : P.underlying t = some (.slice e)) (he : P.underlying e = some .bool) (hc : P.cellsOf e = 1) (hb : P.bytesOf e = 1) (h : Rdg P w t [v]) :
    ∃ l : List Bool, Sl w v 1 l.length (l.map Value.bool) ∧ l.length ≤ reachBytes := by
  obtain ⟨l, h1, _, h3⟩ := rdg_list (fun b : Bool => [Value.bool b]) (fun _ => True) hu (by rw [hc]; decide) (fun cs' _ h => by
    obtain ⟨b, rfl⟩ := rdg_bool he h; exact ⟨b, rfl, trivial⟩) h
  rw [hc] at h1
  rw [hb, Nat.mul_one] at h3
  refine ⟨l, ?_, h3⟩
  rwa [flatMap_one] at h1
theorem rdg_ints {v : Value} {k : IntKind} (hu : P.underlying t = some (.slice e)) (he : P.underlying e = some (.int k)) (hc : P.cellsOf e = 1) (h : Rdg P w t [v]) :
    ∃ l : List Int, Sl w v 1 l.length (l.map (Value.int k)) ∧ (∀ n ∈ l, (Lit.int k n).wf = true) ∧ l.length * P.bytesOf e ≤ reachBytes := by
  obtain ⟨l, h1, h2, h3⟩ := rdg_list (fun n : Int => [Value.int k n]) (fun n => (Lit.int k n).wf = true) hu (by rw [hc]; decide) (fun cs' _ h => by
    obtain ⟨n, rfl, hw⟩ := rdg_int he h; exact ⟨n, rfl, hw⟩) h
  rw [hc] at h1
  refine ⟨l, ?_, fun n hn => (h2 n hn).1, h3⟩
  rwa [flatMap_one] at h1
theorem wf_i64 {n : Int} (h : (Lit.int .i64 n).wf = true) : -9223372036854775808 ≤ n ∧ n ≤ 9223372036854775807 := bounds_i64 h
theorem wf_u8 {n : Int} (h : (Lit.int .u8 n).wf = true) : ∃ x : UInt8, Value.int .u8 n = u8 x := by
  have := bounds_u8 h
  refine ⟨UInt8.ofNat n.toNat, ?_⟩
  unfold u8
  congr 1
  rw [UInt8.toNat_ofNat']
  omega
end
end Go.Own
set_option linter.unusedSimpArgs false
set_option linter.unusedVariables false
namespace Go.Proofs.Ytmcojfpomejnnaa
open Go Go.RowKit Go.Own
open Go.ChangeShapes Go.WideShapes Go.ChangeAt
theorem rdg_field {P : Program} {w : World} {t : TypeId} {cs : List Value} {fs : Array Field} (hu : P.underlying t = some (.struct fs)) (h : Rdg P w t cs) (j : Nat) (ft : TypeId) (off sz : Nat) (hf : (fs[j]?).map (fun f => (f.type, f.offset)) = some (ft, off)) (hs : P.cellsOf ft = sz) : Rdg P w ft ((cs.drop off).take sz) := by
  obtain ⟨_, h2⟩ := rdg_struct hu h
  rw [Option.map_eq_some_iff] at hf
  obtain ⟨f, h3, h4⟩ := hf
  cases h4
  have := h2 j f h3
  rwa [hs] at this
theorem reach_le : reachBytes ≤ 140737488351232 := by decide
end Go.Proofs.Ytmcojfpomejnnaa
set_option linter.unusedSimpArgs false
set_option linter.unusedVariables false
namespace Go.Proofs.Ytmcojfpomejnnaa
open Go Go.RowKit Go.Own
open Go.ChangeShapes Go.WideShapes Go.ChangeAt
set_option maxRecDepth 100000 in
theorem act15_of {w : World} (cs : List Value) (hl : cs.length = Try.prog.cellsOf 40) (h : Rdg Try.prog w 40 cs) : ∃ x : Act15, x.cells = cs ∧ x.Ok (startRo w) := by
  have hl8 : cs.length = 8 := hl.trans (by kernel_rfl)
  match cs, hl8 with
  | [c0, c1, c2, c3, c4, c5, c6, c7], _ =>
    have f0 : Rdg Try.prog w 3 [c0] := rdg_field Try.underlying40 h 0 3 0 1 rfl (by kernel_rfl)
    have f1 : Rdg Try.prog w 3 [c1] := rdg_field Try.underlying40 h 1 3 1 1 rfl (by kernel_rfl)
    have f2 : Rdg Try.prog w 3 [c2] := rdg_field Try.underlying40 h 2 3 2 1 rfl (by kernel_rfl)
    have f3 : Rdg Try.prog w 3 [c3] := rdg_field Try.underlying40 h 3 3 3 1 rfl (by kernel_rfl)
    have f4 : Rdg Try.prog w 4 [c4] := rdg_field Try.underlying40 h 4 4 4 1 rfl (by kernel_rfl)
    have f5 : Rdg Try.prog w 5 [c5] := rdg_field Try.underlying40 h 5 5 5 1 rfl (by kernel_rfl)
    have f6 : Rdg Try.prog w 3 [c6] := rdg_field Try.underlying40 h 6 3 6 1 rfl (by kernel_rfl)
    have f7 : Rdg Try.prog w 24 [c7] := rdg_field Try.underlying40 h 7 24 7 1 rfl (by kernel_rfl)
    obtain ⟨n0, e0, w0⟩ := rdg_int Try.underlying3 f0
    obtain ⟨n1, e1, w1⟩ := rdg_int Try.underlying3 f1
    obtain ⟨n2, e2, w2⟩ := rdg_int Try.underlying3 f2
    obtain ⟨n3, e3, w3⟩ := rdg_int Try.underlying3 f3
    obtain ⟨n6, e6, w6⟩ := rdg_int Try.underlying3 f6
    obtain ⟨n4, e4⟩ := rdg_bool Try.underlying4 f4
    obtain ⟨n5, e5, w5⟩ := rdg_int Try.underlying5 f5
    obtain ⟨x5, hx5⟩ := wf_u8 w5
    obtain ⟨kp, k1, k2⟩ := rdg_bools Try.underlying24 Try.underlying4 (by kernel_rfl) (by kernel_rfl) f7
    cases e0; cases e1; cases e2; cases e3; cases e4; cases e5; cases e6
    exact ⟨⟨n0, n1, n2, n3, n4, x5, n6, c7, kp⟩, by unfold Act15.cells; rw [hx5], SlS.start k1, Nat.le_trans k2 reach_le, wf_i64 w0, wf_i64 w1, wf_i64 w2, wf_i64 w3, wf_i64 w6⟩
theorem acts15_of {w : World} {v : Value} (h : Rdg Try.prog w 23 [v]) : ∃ l : List Act15, SlS (startRo w) v 8 l.length (l.flatMap Act15.cells) ∧ ∀ a ∈ l, a.Ok (startRo w) := by
  obtain ⟨acts, ha1, ha2, _⟩ := rdg_list Act15.cells (Act15.Ok (startRo w)) Try.underlying23 (by rw [show Try.prog.cellsOf 40 = 8 by kernel_rfl]; decide) (fun cs' hl h => act15_of cs' hl h) h
  rw [show Try.prog.cellsOf 40 = 8 by kernel_rfl] at ha1
  exact ⟨acts, SlS.start ha1, fun a h => (ha2 a h).1⟩
/-- a Shape among the arguments -/
structure Shp where
  xs : List Ext
  rooms : List Int
  slots : List Int
  xa : Option Addr
  ra : Option Addr
  la : Option Addr
  xc : Nat
  rc : Nat
  lc : Nat
def Shp.cells (x : Shp) : List Value := [.slice x.xa x.xs.length x.xc, .slice x.ra x.rooms.length x.rc, .slice x.la x.slots.length x.lc]
structure Shp.Ok (s : Ro) (x : Shp) : Prop where
  hx : SlS s (.slice x.xa x.xs.length x.xc) 2 x.xs.length (x.xs.flatMap Ext.cells)
  hxo : ∀ e ∈ x.xs, I64 e.1 ∧ I64 e.2
  hr : SlS s (.slice x.ra x.rooms.length x.rc) 1 x.rooms.length (x.rooms.map (Value.int .i64))
  hl : SlS s (.slice x.la x.slots.length x.lc) 1 x.slots.length (x.slots.map (Value.int .i64))
theorem Shp.Ok.mono {s s' : Ro} {x : Shp} (h : x.Ok s) (hs : s.Le s') : x.Ok s' := ⟨h.hx.mono hs, h.hxo, h.hr.mono hs, h.hl.mono hs⟩
theorem slS_shape {s : Ro} {v : Value} {sz n : Nat} {xs : List Value} (h : SlS s v sz n xs) : ∃ a c, v = .slice a n c ∧ n ≤ c ∧ c ≤ maxLen := by
  obtain ⟨a, c, h1, _, h3, h4, _⟩ := h
  exact ⟨a, c, h1, h3, h4⟩
def Shp.few (x : Shp) : Shp := { x with xs := x.xs.take 10, rooms := x.rooms.take 10, slots := x.slots.take 34 }
theorem flat15_take (l : List Ext) (n : Nat) : (l.flatMap Ext.cells).take (n * 2) = (l.take n).flatMap Ext.cells := by
  induction l generalizing n with
  | nil => simp
  | cons x l ih =>
    cases n with
    | zero => simp
    | succ n =>
      rw [List.take_succ_cons, List.flatMap_cons, List.flatMap_cons, ← ih n, Nat.succ_mul]
      rfl
theorem take_self {α : Type} (l : List α) (n : Nat) : l.take (l.take n).length = l.take n := by
  rw [List.length_take]
  rcases Nat.le_total n l.length with h | h
  · rw [Nat.min_eq_left h]
  · rw [Nat.min_eq_right h, List.take_length, List.take_of_length_le h]
theorem Shp.Ok.few {s : Ro} {x : Shp} (h : x.Ok s) : x.few.Ok s := by
  refine ⟨?_, fun e he => h.hxo e (List.mem_of_mem_take he), ?_, ?_⟩
  · have := h.hx.upto (l := (x.xs.take 10).length) (by rw [List.length_take]; omega)
    rwa [flat15_take, take_self] at this
  · have := h.hr.upto (l := (x.rooms.take 10).length) (by rw [List.length_take]; omega)
    rwa [Nat.mul_one, ← List.map_take, take_self] at this
  · have := h.hl.upto (l := (x.slots.take 34).length) (by rw [List.length_take]; omega)
    rwa [Nat.mul_one, ← List.map_take, take_self] at this
theorem pend_crash (d : DM) (sv : List Bool) : (d.crash sv).pend.length ≤ d.pend.length := by
  unfold DM.crash; split <;> simp
theorem pend_powered (d : DM) : d.powered.1.pend.length ≤ d.pend.length := by
  unfold DM.powered
  split
  · exact Nat.le_refl _
  · split
    · exact pend_crash _ _
    · exact Nat.le_refl _
structure EP (n : Nat) (d : DM) (i : Nat) : Prop where
  len : d.secs.length = n
  pl : d.pend.length ≤ i
theorem EP.le {n : Nat} {d : DM} {i j : Nat} (h : EP n d i) (hj : i ≤ j) : EP n d j := ⟨h.len, Nat.le_trans h.pl hj⟩
theorem EP.write {n : Nat} {d : DM} {i : Nat} (h : EP n d i) (k : Int) (l : List UInt8) : EP n (d.write k l).1 (i + 1) := by
  have hp := pend_powered d
  have h1 := h.pl
  have h2 := h.len
  unfold DM.write
  split
  · split
    · split
      · exact ⟨by simp only [d.powered_len]; exact h2, by simp only [List.length_append, List.length_cons, List.length_nil]; omega⟩
      · exact ⟨by rw [d.powered_len]; exact h2, by simp only; omega⟩
    · exact h.le (by omega)
  · exact h.le (by omega)
theorem EP.flush {n : Nat} {d : DM} {i : Nat} (h : EP n d i) : EP n d.flush.1 i := by
  have hp := pend_powered d
  have h1 := h.pl
  have h2 := h.len
  unfold DM.flush
  split
  · exact ⟨by simp only [layAll_len, d.powered_len]; exact h2, by simp⟩
  · exact ⟨by rw [d.powered_len]; exact h2, by simp only; omega⟩
theorem EP.crash {n : Nat} {d : DM} {i : Nat} (h : EP n d i) (sv : List Bool) : EP n (d.crash sv) i := ⟨by rw [d.crash_len]; exact h.len, Nat.le_trans (pend_crash d sv) h.pl⟩
/-- counts that stay small -/
structure Bd (n : Nat) (m : SM) (d : DM) : Prop where
  last : ∀ p ∈ m.parts, p.last ≤ n
  served : ∀ p ∈ m.parts, p.served ≤ n
  ep : EP 16 d n
theorem Bd.le {n k : Nat} {m : SM} {d : DM} (h : Bd n m d) (hk : n ≤ k) : Bd k m d := ⟨fun p hp => Nat.le_trans (h.last p hp) hk, fun p hp => Nat.le_trans (h.served p hp) hk, h.ep.le hk⟩
theorem askP_last (p : PM) (k a : Int) (l : List UInt8) : (askP p k a l).1.last ≤ p.last + 1 ∧ (askP p k a l).1.served = p.served := by
  unfold askP
  split
  · exact ⟨by simp, rfl⟩
  · split
    · exact ⟨by simp, rfl⟩
    · split
      · exact ⟨by simp, rfl⟩
      · split
        · exact ⟨by simp, rfl⟩
        · exact ⟨by simp, rfl⟩
theorem Bd.ask {n : Nat} {m : SM} {d : DM} (h : Bd n m d) (i k a : Int) (l : List UInt8) : Bd (n + 1) (m.ask i k a l).1 d := by
  unfold SM.ask
  split
  · split
    · exact h.le (by omega)
    · rename_i p hp
      have hm := List.mem_of_getElem? hp
      refine ⟨fun q hq => ?_, fun q hq => ?_, h.ep.le (by omega)⟩
      · rcases List.mem_or_eq_of_mem_set hq with hq | rfl
        · exact Nat.le_trans (h.last q hq) (by omega)
        · have := (askP_last p k a l).1; have := h.last p hm; omega
      · rcases List.mem_or_eq_of_mem_set hq with hq | rfl
        · exact Nat.le_trans (h.served q hq) (by omega)
        · have := (askP_last p k a l).2; have := h.served p hm; omega
  · exact h.le (by omega)
theorem EP.serve {n : Nat} {d : DM} {i : Nat} (h : EP n d i) (x : Ext) (r : Rq) : EP n (serveM d x r).1 (i + 1) := by
  unfold serveM
  split
  · exact h.le (by omega)
  · split
    · simp only
      unfold pwrite
      split
      · exact h.write _ _
      · exact h.le (by omega)
    · exact h.flush.le (by omega)
theorem Bd.step {n : Nat} {m : SM} {d : DM} (h : Bd n m d) : Bd n m.step d := ⟨h.last, h.served, h.ep⟩
theorem Bd.slot {n : Nat} {m : SM} {d : DM} (h : Bd n m d) : Bd (n + 1) (m.slot d).1 (m.slot d).2.1 := by
  unfold SM.slot
  split
  · exact h.le (by omega)
  · split
    · exact h.step.le (by omega)
    · split
      · exact h.step.le (by omega)
      · rename_i p hp
        have hm := List.mem_of_getElem? hp
        split
        · refine ⟨fun q hq => ?_, fun q hq => ?_, h.ep.serve _ _⟩
          · rcases List.mem_or_eq_of_mem_set hq with hq | rfl
            · exact Nat.le_trans (h.last q hq) (by omega)
            · have := h.last p hm; simp only; omega
          · rcases List.mem_or_eq_of_mem_set hq with hq | rfl
            · exact Nat.le_trans (h.served q hq) (by omega)
            · have := h.served p hm; simp only; omega
        · exact h.step.le (by omega)
theorem Bd.new (xs : List Ext) (rooms slots : List Int) : Bd 0 (SM.new xs rooms slots) (DM.new 16) := by
  refine ⟨fun p hp => ?_, fun p hp => ?_, by simp [DM.new], Nat.le_refl _⟩
  all_goals
    simp only [SM.new] at hp
    obtain ⟨i, hi, rfl⟩ := List.mem_iff_getElem.1 hp
    simp [newPM]
end Go.Proofs.Ytmcojfpomejnnaa
set_option linter.unusedSimpArgs false
set_option linter.unusedVariables false
namespace Go.Proofs.Ytmcojfpomejnnaa
open Go Go.RowKit Go.Own
section
variable {P : Program} {s : Ro} {w : World} {rs : List Asn} {e : Nat → Value}
end
section
variable {s : Ro} {w : World} {R : List Asn}
end
end Go.Proofs.Ytmcojfpomejnnaa
set_option linter.unusedSimpArgs false
set_option linter.unusedVariables false
namespace Go.Proofs.Ytmcojfpomejnnaa
open Go Go.RowKit Go.Own
theorem lay_cur (p : List (Nat × List UInt8)) : ∀ (s : List (List UInt8)) (k : Nat), k < s.length → (layAll s p)[k]?.getD [] = p.foldl (fun c q => if q.1 = k then q.2 else c) (s[k]?.getD []) := by
  induction p with
  | nil => intro s k _; rfl
  | cons q p ih =>
    intro s k hk
    have e : layAll s (q :: p) = layAll (s.set q.1 q.2) p := rfl
    rw [e, ih _ k (by simpa using hk), List.foldl_cons]
    congr 1
    by_cases h : q.1 = k
    · subst h; rw [if_pos rfl, List.getElem?_set_self hk]; rfl
    · rw [if_neg h, List.getElem?_set_ne h]
structure Fre (d : DM) : Prop where
  off : d.off = false
  arm : d.armed = false
  len : d.secs.length = 16
theorem flush_fre {d : DM} (h : Fre d) : Fre d.flush.1 ∧ ∀ k, k < 16 → d.flush.1.cur k = d.cur k := by
  have e : d.flush = ({ d with secs := layAll d.secs d.pend, pend := [] }, 0) := by simp [DM.flush, powered_free h.off h.arm]
  rw [e]
  refine ⟨⟨h.off, h.arm, by simp only [layAll_len]; exact h.len⟩, fun k hk => ?_⟩
  simp only [DM.cur, DM.sec, List.foldl_nil]
  exact lay_cur d.pend d.secs k (by rw [h.len]; exact hk)
theorem write_fre {d : DM} (h : Fre d) (n : Int) (l : List UInt8) : Fre (d.write n l).1 ∧ ∀ k : Nat, (k : Int) ≠ n → (d.write n l).1.cur k = d.cur k := by
  unfold DM.write
  split
  · rename_i hi
    split
    · rw [powered_free h.off h.arm]
      simp only [if_true]
      refine ⟨⟨h.off, h.arm, h.len⟩, fun k hk => ?_⟩
      have hc := cur_wr1 d n.toNat k l
      have : ¬ n.toNat = k := by
        simp only [DM.inB, decide_eq_true_eq] at hi
        omega
      rw [if_neg this] at hc
      exact hc
    · exact ⟨h, fun _ _ => rfl⟩
  · exact ⟨h, fun _ _ => rfl⟩
theorem serve_fre {d : DM} (h : Fre d) (x : Ext) (r : Rq) : Fre (serveM d x r).1 ∧ ∀ k : Nat, k < 16 → ¬ (x.1 ≤ (k : Int) ∧ (k : Int) < x.1 + x.2) → (serveM d x r).1.cur k = d.cur k := by
  unfold serveM
  split
  · exact ⟨h, fun _ _ _ => rfl⟩
  · split
    · simp only
      unfold pwrite
      split
      · rename_i hp
        refine ⟨(write_fre h _ _).1, fun k _ hk => (write_fre h _ _).2 k ?_⟩
        unfold placeM at hp ⊢
        split
        · rename_i h0; rw [if_pos h0] at hp; cases hp
        · rename_i h0
          rw [if_neg h0] at hp
          split
          · rename_i h1; rw [if_pos h1] at hp; cases hp
          · simp only; omega
      · exact ⟨h, fun _ _ _ => rfl⟩
    · exact ⟨(flush_fre h).1, fun k hk _ => (flush_fre h).2 k hk⟩
/-- one partition alone asks -/
structure Cf (x : Shp) (part : Int) (m : SM) (d : DM) : Prop where
  ext : ∀ (j : Nat) p e, m.parts[j]? = some p → p.ext = some e → x.xs[j]? = some e
  q : ∀ (j : Nat) p, m.parts[j]? = some p → p.q ≠ [] → (j : Int) = part
  fre : Fre d
  out : ∀ k : Nat, k < 16 → (∀ e, 0 ≤ part → x.xs[part.toNat]? = some e → ¬ (e.1 ≤ (k : Int) ∧ (k : Int) < e.1 + e.2)) → d.cur k = List.replicate 64 0
theorem Cf.new (x : Shp) (part : Int) : Cf x part (SM.new x.xs x.rooms x.slots) (DM.new 16) := by
  have hz : ∀ (j : Nat) p, (SM.new x.xs x.rooms x.slots).parts[j]? = some p → ∃ e r, x.xs[j]? = some e ∧ p = newPM e r := by
    intro j p hp
    simp only [SM.new, List.getElem?_zipWith] at hp
    split at hp
    · rename_i e r h1 h2
      cases hp
      exact ⟨e, r, h1, rfl⟩
    · cases hp
  refine ⟨fun j p e hp he => ?_, fun j p hp hq => ?_, ⟨rfl, rfl, by simp [DM.new]⟩, fun k hk _ => new_cur hk⟩
  · obtain ⟨e', r, h1, rfl⟩ := hz j p hp
    unfold newPM at he
    split at he
    · cases he
    · cases he; exact h1
  · obtain ⟨e', r, h1, rfl⟩ := hz j p hp
    exact absurd rfl hq
theorem askP_ext (p : PM) (k a : Int) (l : List UInt8) : (askP p k a l).1.ext = p.ext := by
  unfold askP
  split
  · rfl
  · split
    · rfl
    · split
      · rfl
      · split <;> rfl
theorem Cf.ask {x : Shp} {part : Int} {m : SM} {d : DM} (h : Cf x part m d) (k a : Int) (l : List UInt8) : Cf x part (m.ask part k a l).1 d := by
  unfold SM.ask
  split
  · rename_i h0
    split
    · exact h
    · rename_i p0 hp0
      refine ⟨fun j p e hp he => ?_, fun j p hp hq => ?_, h.fre, h.out⟩
      · simp only [List.getElem?_set] at hp
        split at hp
        · rename_i hj
          split at hp
          · cases hp
            rw [askP_ext] at he
            exact h.ext j p0 e (by rw [← hj]; exact hp0) he
          · cases hp
        · exact h.ext j p e hp he
      · simp only [List.getElem?_set] at hp
        split at hp
        · omega
        · exact h.q j p hp hq
  · exact h
theorem Cf.step {x : Shp} {part : Int} {m : SM} {d : DM} (h : Cf x part m d) : Cf x part m.step d := ⟨h.ext, h.q, h.fre, h.out⟩
theorem Cf.slot {x : Shp} {part : Int} {m : SM} {d : DM} (h : Cf x part m d) : Cf x part (m.slot d).1 (m.slot d).2.1 := by
  unfold SM.slot
  split
  · exact h
  · split
    · exact h.step
    · split
      · exact h.step
      · rename_i pt _ _ p0 hp0
        split
        · rename_i r rest e0 hq0 he0
          have hj := h.q _ p0 hp0 (by rw [hq0]; simp)
          have hx := h.ext _ p0 e0 hp0 he0
          obtain ⟨f1, f2⟩ := serve_fre h.fre e0 r
          refine ⟨fun j p e hp he => ?_, fun j p hp hq => ?_, f1, fun k hk ho => ?_⟩
          · simp only [List.getElem?_set] at hp
            split at hp
            · rename_i hjj
              split at hp
              · cases hp
                exact h.ext j p0 e (by rw [← hjj]; exact hp0) he
              · cases hp
            · exact h.ext j p e hp he
          · simp only [List.getElem?_set] at hp
            split at hp
            · rename_i hjj; omega
            · exact h.q j p hp hq
          · rw [f2 k hk (ho e0 (by omega) (by rw [← hj, Int.toNat_natCast]; exact hx))]
            exact h.out k hk ho
        · exact h.step
end Go.Proofs.Ytmcojfpomejnnaa
set_option linter.unusedSimpArgs false
set_option linter.unusedVariables false
namespace Go.Proofs.Ytmcojfpomejnnaa
open Go Go.RowKit Go.Own
def cntS (l : List Int) (p : Int) : Nat := l.countP (fun v => decide (v = p))
theorem cntS_succ (l : List Int) (p : Int) (i : Nat) (h : i < l.length) : cntS (l.take (i + 1)) p = cntS (l.take i) p + if l[i] = p then 1 else 0 := by
  unfold cntS
  rw [List.take_succ_eq_append_getElem h, List.countP_append]
  by_cases e : l[i] = p <;> simp [e]
/-- how often p's slot passes in i slots from place n on -/
def cyc (l : List Int) (p : Int) (n : Nat) : Nat → Nat
  | 0 => 0
  | i + 1 => cyc l p n i + if l[(n + i) % l.length]? = some p then 1 else 0
theorem cyc_add (l : List Int) (p : Int) (n i j : Nat) : cyc l p n (i + j) = cyc l p n i + cyc l p (n + i) j := by
  induction j with
  | zero => rfl
  | succ j ih =>
    show cyc l p n (i + j) + (if l[(n + (i + j)) % l.length]? = some p then 1 else 0) = cyc l p n i + (cyc l p (n + i) j + if l[(n + i + j) % l.length]? = some p then 1 else 0)
    rw [ih, Nat.add_assoc, Nat.add_assoc n i j]
theorem cyc_zero (l : List Int) (p : Int) : ∀ i, i ≤ l.length → cyc l p 0 i = cntS (l.take i) p := by
  intro i
  induction i with
  | zero => intro _; rfl
  | succ i ih =>
    intro hi
    show cyc l p 0 i + _ = _
    rw [ih (by omega), cntS_succ l p i (by omega), Nat.zero_add, Nat.mod_eq_of_lt (by omega), List.getElem?_eq_getElem (by omega)]
    simp
theorem cyc_len (l : List Int) (p : Int) (n : Nat) : cyc l p n l.length = cntS l p := by
  induction n with
  | zero => rw [cyc_zero l p _ (Nat.le_refl _), List.take_length]
  | succ n ih =>
    have h1 := cyc_add l p n 1 l.length
    have h2 := cyc_add l p n l.length 1
    rw [Nat.add_comm 1 l.length, h2] at h1
    have e1 : cyc l p n 1 = if l[n % l.length]? = some p then 1 else 0 := by simp [cyc]
    have e2 : cyc l p (n + l.length) 1 = if l[n % l.length]? = some p then 1 else 0 := by simp [cyc]
    rw [e1, e2] at h1
    omega
theorem cyc_rounds (l : List Int) (p : Int) (n r : Nat) : cyc l p n (r * l.length) = r * cntS l p := by
  induction r with
  | zero => simp [cyc]
  | succ r ih => rw [Nat.succ_mul, cyc_add, ih, cyc_len, Nat.succ_mul]
/-- what the counts of one partition are -/
structure Sane (m : SM) : Prop where
  ext : ∀ (j : Nat) p, m.parts[j]? = some p → p.q ≠ [] → p.ext ≠ none
  nxt : m.next < m.slots.length ∨ m.slots = []
def SM.wait (m : SM) (j : Nat) : Nat := ((m.parts[j]?).map fun p => p.q.length).getD 0
def SM.serv (m : SM) (j : Nat) : Nat := ((m.parts[j]?).map fun p => p.served).getD 0
structure Slotted (m m' : SM) : Prop where
  sane : Sane m'
  slots : m'.slots = m.slots
  len : m'.parts.length = m.parts.length
  next : m'.next = (m.next + 1) % m.slots.length
  wait : ∀ j, m'.wait j = m.wait j - if m.slots[m.next]? = some (j : Int) then 1 else 0
  serv : ∀ j, m'.serv j = m.serv j + if m.slots[m.next]? = some (j : Int) ∧ 0 < m.wait j then 1 else 0
theorem slot_counts {m : SM} (h : Sane m) (hn : m.next < m.slots.length) (d : DM) : Slotted m (m.slot d).1 := by
  have hst : Sane m.step := ⟨h.ext, .inl (Nat.mod_lt _ (by omega))⟩
  have hnone : (∀ j : Nat, m.slots[m.next]? = some (j : Int) → m.wait j = 0) → Slotted m m.step := fun hw => by
    refine ⟨hst, rfl, rfl, rfl, fun j => ?_, fun j => ?_⟩
    · show m.wait j = _
      split
      · rename_i e; rw [hw j e]
      · rfl
    · show m.serv j = _
      rw [if_neg (fun ⟨e, e2⟩ => by rw [hw j e] at e2; omega), Nat.add_zero]
  unfold SM.slot
  rw [List.getElem?_eq_getElem hn] at hnone ⊢
  simp only
  split
  · rename_i hneg
    exact hnone (fun j e => by injection e with e; omega)
  · rename_i hpos
    split
    · rename_i hp
      refine hnone (fun j e => ?_)
      injection e with e
      rw [e, Int.toNat_natCast] at hp
      simp [SM.wait, hp]
    · rename_i p hp
      split
      · rename_i r rest x hq hx
        obtain ⟨i, hi⟩ := Int.eq_ofNat_of_zero_le (a := m.slots[m.next]) (by omega)
        rw [hi, Int.toNat_natCast] at hp ⊢
        have hil : i < m.parts.length := (List.getElem?_eq_some_iff.1 hp).1
        have hpe : m.parts[i] = p := (List.getElem?_eq_some_iff.1 hp).2
        refine ⟨⟨fun j q hq2 hne => ?_, .inl (Nat.mod_lt _ (by omega))⟩, rfl, by simp [SM.step], rfl, fun j => ?_, fun j => ?_⟩
        · simp only [List.getElem?_set] at hq2
          split at hq2
          · cases hq2; simp only; rw [hx]; simp
          · exact h.ext j q hq2 hne
        · simp only [SM.wait, List.getElem?_set]
          by_cases e : i = j
          · subst e
            simp [hil, hpe, hq, List.getElem?_eq_getElem hn, hi]
          · have e' : ¬ ((i : Int) = (j : Int)) := by omega
            simp [e, e', List.getElem?_eq_getElem hn, hi]
        · simp only [SM.serv, SM.wait, List.getElem?_set]
          by_cases e : i = j
          · subst e
            simp [hil, hpe, hq, List.getElem?_eq_getElem hn, hi]
          · have e' : ¬ ((i : Int) = (j : Int)) := by omega
            simp [e, e', List.getElem?_eq_getElem hn, hi]
      · rename_i hno
        refine hnone (fun j e => ?_)
        injection e with e
        rw [e, Int.toNat_natCast] at hp
        by_cases hq : p.q = []
        · simp [SM.wait, hp, hq]
        · exfalso
          have hx := h.ext j p hp hq
          cases hqq : p.q with
          | nil => exact hq hqq
          | cons r rest =>
            cases hxx : p.ext with
            | none => exact hx hxx
            | some x => exact hno r rest x hqq hxx
section
variable {s : Ro} {w : World} {R : List Asn}
end
end Go.Proofs.Ytmcojfpomejnnaa
set_option linter.unusedSimpArgs false
set_option linter.unusedVariables false
namespace Go.Proofs.Ytmcojfpomejnnaa
open Go Go.RowKit Go.Own
structure Asked (m m' : SM) : Prop where
  sane : Sane m'
  slots : m'.slots = m.slots
  len : m'.parts.length = m.parts.length
  next : m'.next = m.next
  wait : ∀ j, m.wait j ≤ m'.wait j
  serv : ∀ j, m'.serv j = m.serv j
theorem Asked.same {m : SM} (h : Sane m) : Asked m m := ⟨h, rfl, rfl, rfl, fun _ => Nat.le_refl _, fun _ => rfl⟩
theorem askP_all (p : PM) (k a : Int) (l : List UInt8) : p.q.length ≤ (askP p k a l).1.q.length ∧ (askP p k a l).1.served = p.served ∧ (askP p k a l).1.ext = p.ext ∧ ((askP p k a l).1.q ≠ [] → p.q ≠ [] ∨ p.ext ≠ none) := by
  unfold askP
  split
  · exact ⟨Nat.le_refl _, rfl, rfl, .inl⟩
  · rename_i x hx
    split
    · exact ⟨Nat.le_refl _, rfl, rfl, .inl⟩
    · split
      · exact ⟨Nat.le_refl _, rfl, rfl, .inl⟩
      · split
        · exact ⟨Nat.le_refl _, rfl, rfl, .inl⟩
        · exact ⟨by simp, rfl, rfl, fun _ => .inr (by rw [hx]; simp)⟩
theorem ask_counts {m : SM} (h : Sane m) (i k a : Int) (l : List UInt8) : Asked m (m.ask i k a l).1 := by
  unfold SM.ask
  split
  · split
    · exact Asked.same h
    · rename_i p hp
      have hil : i.toNat < m.parts.length := (List.getElem?_eq_some_iff.1 hp).1
      have hpe : m.parts[i.toNat] = p := (List.getElem?_eq_some_iff.1 hp).2
      obtain ⟨a1, a2, a3, a4⟩ := askP_all p k a l
      refine ⟨⟨fun j q hq hne => ?_, h.nxt⟩, rfl, by simp, rfl, fun j => ?_, fun j => ?_⟩
      · by_cases e : i.toNat = j
        · subst e
          rw [List.getElem?_set_self hil] at hq
          cases hq
          rw [a3]
          rcases a4 hne with h1 | h1
          · exact h.ext _ p hp h1
          · exact h1
        · rw [List.getElem?_set_ne e] at hq
          exact h.ext j q hq hne
      · by_cases e : i.toNat = j
        · subst e
          simpa [SM.wait, hil, hpe] using a1
        · simp [SM.wait, e]
      · by_cases e : i.toNat = j
        · subst e
          simpa [SM.serv, hil, hpe] using a2
        · simp [SM.serv, e]
  · exact Asked.same h
/-- a partition's requests, slot by slot -/
structure Wi (sl : List Int) (p n0 S0 k : Nat) (i : Nat) (m : SM) : Prop where
  sane : Sane m
  slots : m.slots = sl
  next : m.next = (n0 + i) % sl.length
  sum : S0 + k ≤ m.serv p + m.wait p
  got : S0 + min k (cyc sl (p : Int) n0 i) ≤ m.serv p
theorem Wi.start {m : SM} (h : Sane m) (hn : m.next < m.slots.length) (p : Nat) : Wi m.slots p m.next (m.serv p) (m.wait p) 0 m :=
  ⟨h, rfl, by rw [Nat.add_zero, Nat.mod_eq_of_lt hn], Nat.le_refl _, by simp [cyc]⟩
theorem Wi.ask {sl : List Int} {p n0 S0 k i : Nat} {m : SM} (h : Wi sl p n0 S0 k i m) (q kd a : Int) (l : List UInt8) : Wi sl p n0 S0 k i (m.ask q kd a l).1 := by
  have hA := ask_counts h.sane q kd a l
  refine ⟨hA.sane, hA.slots.trans h.slots, hA.next.trans h.next, ?_, ?_⟩
  · have := h.sum; have := hA.wait p; rw [hA.serv p]; omega
  · rw [hA.serv p]; exact h.got
theorem Wi.slot {sl : List Int} {p n0 S0 k i : Nat} {m : SM} (h : Wi sl p n0 S0 k i m) (hs : 0 < sl.length) (d : DM) : Wi sl p n0 S0 k (i + 1) (m.slot d).1 := by
  have hn : m.next < m.slots.length := by rw [h.next, h.slots]; exact Nat.mod_lt _ hs
  have hS := slot_counts h.sane hn d
  have e0 := h.slots
  have e1 := h.next
  have h1 := hS.wait p
  have h2 := hS.serv p
  have h3 := h.sum
  have h4 := h.got
  rw [e0, e1] at h1 h2
  refine ⟨hS.sane, hS.slots.trans e0, ?_, ?_, ?_⟩
  · rw [hS.next, e0, e1, ← Nat.add_assoc, Nat.mod_add_mod]
  · by_cases c : sl[(n0 + i) % sl.length]? = some (p : Int)
    · rw [if_pos c] at h1
      by_cases c2 : 0 < m.wait p
      · rw [if_pos ⟨c, c2⟩] at h2; omega
      · rw [if_neg (fun h => c2 h.2)] at h2; omega
    · rw [if_neg c] at h1
      rw [if_neg (fun h => c h.1)] at h2; omega
  · show S0 + min k (cyc sl (p : Int) n0 i + if sl[(n0 + i) % sl.length]? = some (p : Int) then 1 else 0) ≤ _
    by_cases c : sl[(n0 + i) % sl.length]? = some (p : Int)
    · rw [if_pos c]
      by_cases c2 : 0 < m.wait p
      · rw [if_pos ⟨c, c2⟩] at h2; omega
      · rw [if_neg (fun h => c2 h.2)] at h2; omega
    · rw [if_neg c]
      rw [if_neg (fun h => c h.1)] at h2; omega
theorem Wi.fin {sl : List Int} {p n0 S0 k r : Nat} {m : SM} (h : Wi sl p n0 S0 k (r * sl.length) m) (hr : k ≤ r * cntS sl (p : Int)) : S0 + k ≤ m.serv p := by
  have := h.got
  rw [cyc_rounds] at this
  omega
end Go.Proofs.Ytmcojfpomejnnaa

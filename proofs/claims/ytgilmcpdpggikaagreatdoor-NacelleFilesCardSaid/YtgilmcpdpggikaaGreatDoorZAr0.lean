/- Squeezed copy of the texts Ar0 Ar Wr Wt Bb Wu Wv. -/
import Derived.Test.YtgilmcpdpggikaaGreatDoorZK2
import Derived.ProofKit
import Derived.SizedLaws
import Derived.OpenShut
import Derived.Deep.Slices
import Derived.Test.YtgilmcpdpggikaaGreatDoorZRf
import Derived.Test.YtgilmcpdpggikaaGreatDoorZWg
set_option maxRecDepth 100000
set_option maxHeartbeats 1000000
set_option linter.unusedSimpArgs false
set_option linter.unusedVariables false
namespace Go.Own
open Go Go.RowKit
def Rdg (P : Program) (w : World) (t : TypeId) (cs : List Value) : Prop :=
 ∃ (H : Type) (enc : TypeId × Value → H) (fuel : Nat) (x : DataW H × List MemPlace), DataW.trod enc P w 0 (fun _ => true) true fuel t cs = some x ∧ ∀ n ∈ x.1.weights P t, n ≤ reachBytes
section
variable {P : Program} {w : World} {t e : TypeId} {cs : List Value}
theorem rdg_int {k : IntKind} (hu : P.underlying t = some (.int k)) (h : Rdg P w t cs) : ∃ n, cs = [.int k n] ∧ (Lit.int k n).wf = true := by
 obtain ⟨H, enc, fuel, x, h, _⟩ := h
 cases fuel with
 | zero => simp [DataW.trod] at h
 | succ f =>
  unfold DataW.trod at h
  rw [hu] at h
  split at h <;> simp_all
theorem rdg_bool (hu : P.underlying t = some .bool) (h : Rdg P w t cs) : ∃ b, cs = [.bool b] := by
 obtain ⟨H, enc, fuel, x, h, _⟩ := h
 cases fuel with
 | zero => simp [DataW.trod] at h
 | succ f =>
  unfold DataW.trod at h
  rw [hu] at h
  split at h <;> simp_all
theorem add_add (a : Addr) (m j : Nat) : (a.add m).add j = a.add (m + j) := by
 unfold Addr.add
 by_cases hm : m = 0
 ·simp [hm]
 ·by_cases hj : j = 0
  ·simp [hj]
  ·rw [if_neg hm, if_neg hj, if_neg (by omega)]
   simp [Nat.add_assoc]
theorem weights_all {H : Type} {l : List (DataW H)} {d : DataW H} (h : d ∈ l) {n : Nat} (hn : n ∈ d.weights P e) : n ∈ DataW.weightsAll P e l := by
 induction l with
 | nil => cases h
 | cons x r ih =>
  simp only [DataW.weightsAll, List.mem_append]
  rcases List.mem_cons.1 h with rfl | h
  ·exact .inl hn
  ·exact .inr (ih h)
theorem rdg_slice (hu : P.underlying t = some (.slice e)) (h : Rdg P w t cs) : cs = [.slice none 0 0] ∨
  ∃ a len cap, cs = [.slice (some a) len cap] ∧ len ≤ cap ∧ cap ≤ maxLen ∧ cap * P.bytesOf e ≤ reachBytes ∧
   ∀ i, i < len → ∃ cs', cs'.length = P.cellsOf e ∧ (∀ j, j < P.cellsOf e → w.cell? (a.add (i * P.cellsOf e + j)) = cs'[j]?) ∧ Rdg P w e cs' := by
 obtain ⟨H, enc, fuel, x, h, hw⟩ := h
 rcases Deep.open_slice hu h with ⟨h0, _⟩ | ⟨a, len, cap, m, n, D, Pl, rfl, _, hl, hm, hmm, rfl, hx⟩
 ·exact .inl h0
 ·right
  simp only [if_true] at hmm
  subst hmm
  simp only [DataW.weights, hu] at hw
  refine ⟨a, len, m, rfl, hl, hm, ?_, fun i hi => ?_⟩
  ·have := hw _ (by simp; exact Or.inl rfl)
   rw [show len + (m - len) = m by omega] at this
   exact this
  ·obtain ⟨cs', h1, h2⟩ := hx i (by omega)
   obtain ⟨_, hlen, hc⟩ := World.cells?_some h1
   refine ⟨cs', hlen, fun j hj => by rw [← add_add]; exact hc j hj, H, enc, n, (D i, Pl i), h2, fun q hq => hw q ?_⟩
   simp only [List.mem_cons, List.mem_append]
   refine .inr (.inl (weights_all (d := D i) ?_ hq))
   exact List.mem_map.2 ⟨i, List.mem_range.2 hi, rfl⟩
theorem rdg_struct {fs : Array Field} (hu : P.underlying t = some (.struct fs)) (h : Rdg P w t cs) : cs.length = P.cellsOf t ∧
  ∀ (j : Nat) f, fs[j]? = some f → Rdg P w f.type ((cs.drop f.offset).take (P.cellsOf f.type)) := by
 obtain ⟨H, enc, fuel, x, h, hw⟩ := h
 cases fuel with
 | zero => simp [DataW.trod] at h
 | succ n =>
  unfold DataW.trod at h
  rw [hu] at h
  simp only [] at h
  split at h
  ·rename_i hl
   rw [Option.map_eq_some_iff] at h
   obtain ⟨xs, hxs, rfl⟩ := h
   refine ⟨hl, fun j f hf => ?_⟩
   have hj := mapM_some_get hxs j f (by simpa using hf)
   have hlen := mapM_some_length hxs
   have hjl : j < xs.length := by
    have : j < fs.size := (Array.getElem?_eq_some_iff.1 hf).1
    simp at hlen; omega
   rw [List.getElem?_eq_getElem hjl] at hj
   refine ⟨H, enc, n, xs[j], hj, fun q hq => hw q ?_⟩
   simp only [DataW.weights, hu]
   refine DataW.weights_mem_each (j := j) (t := f.type) (d := xs[j].1) ?_ ?_ q hq
   ·simp [hf]
   ·simp [hjl]
  ·cases h
theorem exists_list {α : Type} {p : Nat → α → Prop} : ∀ (n : Nat), (∀ i, i < n → ∃ x, p i x) → ∃ l : List α, l.length = n ∧ ∀ i (h : i < l.length), p i l[i]
 | 0, _ => ⟨[], rfl, fun i h => absurd h (by simp)⟩
 | n + 1, h => by
  obtain ⟨l, hl, hp⟩ := exists_list n (fun i hi => h i (by omega))
  obtain ⟨x, hx⟩ := h n (by omega)
  refine ⟨l ++ [x], by simp [hl], fun i hi => ?_⟩
  by_cases hin : i < l.length
  ·rw [List.getElem_append_left hin]; exact hp i hin
  ·have : i = n := by simp at hi; omega
   subst this
   rw [List.getElem_append_right (by omega)]
   simp only [hl, Nat.sub_self, List.getElem_cons_zero]
   exact hx
theorem flatMap_get {α : Type} {f : α → List Value} {sz : Nat} (hpos : 0 < sz) : ∀ (l : List α), (∀ x ∈ l, (f x).length = sz) → ∀ (j : Nat) (v : Value), (l.flatMap f)[j]? = some v → ∃ (h : j / sz < l.length), (f l[j / sz])[j % sz]? = some v
 | [], _, j, v, h => by simp at h
 | x :: l, hf, j, v, h => by
  have hx := hf x (by simp)
  rw [List.flatMap_cons] at h
  by_cases hj : j < sz
  ·rw [List.getElem?_append_left (by omega)] at h
   have e1 : j / sz = 0 := Nat.div_eq_of_lt hj
   have e2 : j % sz = j := Nat.mod_eq_of_lt hj
   refine ⟨by rw [e1]; simp, ?_⟩
   simp only [e1, e2, List.getElem_cons_zero]
   exact h
  ·rw [List.getElem?_append_right (by omega), hx] at h
   obtain ⟨h1, h2⟩ := flatMap_get hpos l (fun y hy => hf y (by simp [hy])) (j - sz) v h
   have e1 : j / sz = (j - sz) / sz + 1 := by
    rw [Nat.div_eq_sub_div hpos (by omega)]
   have e2 : j % sz = (j - sz) % sz := by rw [Nat.mod_eq_sub_mod (by omega)]
   refine ⟨by rw [e1]; simp; exact h1, ?_⟩
   simp only [e1, e2, List.getElem_cons_succ]
   exact h2
theorem flatMap_len {α : Type} {f : α → List Value} {sz : Nat} : ∀ (l : List α), (∀ x ∈ l, (f x).length = sz) → (l.flatMap f).length = l.length * sz
 | [], _ => by simp
 | x :: l, hf => by
  rw [List.flatMap_cons, List.length_append, hf x (by simp), flatMap_len l (fun y hy => hf y (by simp [hy]))]
  simp [Nat.add_mul]; omega
theorem rdg_list {α : Type} (f : α → List Value) (p : α → Prop) {v : Value} (hu : P.underlying t = some (.slice e)) (hsz : 0 < P.cellsOf e) (hone : ∀ cs', cs'.length = P.cellsOf e → Rdg P w e cs' → ∃ x, f x = cs' ∧ p x) (h : Rdg P w t [v]) :
  ∃ l : List α, Sl w v (P.cellsOf e) l.length (l.flatMap f) ∧ (∀ x ∈ l, p x ∧ (f x).length = P.cellsOf e) ∧ l.length * P.bytesOf e ≤ reachBytes := by
 rcases rdg_slice hu h with h0 | ⟨a, len, cap, hv, hl, hm, hb, hel⟩
 ·cases h0
  exact ⟨[], ⟨none, 0, rfl, by simp, Nat.le_refl _, Nat.zero_le _, fun j x hx => by simp at hx⟩, by simp, by simp⟩
 ·cases hv
  have hch : ∀ i, i < len → ∃ x : α, (f x).length = P.cellsOf e ∧ (∀ j, j < P.cellsOf e → w.cell? (a.add (i * P.cellsOf e + j)) = (f x)[j]?) ∧ p x := fun i hi => by
   obtain ⟨cs', h1, h2, h3⟩ := hel i hi
   obtain ⟨x, hx, hp⟩ := hone cs' h1 h3
   exact ⟨x, by rw [hx]; exact h1, by rw [hx]; exact h2, hp⟩
  obtain ⟨l, hll, hp⟩ := exists_list len hch
  have hflen : ∀ x ∈ l, (f x).length = P.cellsOf e := fun x hx => by
   obtain ⟨i, hi, rfl⟩ := List.mem_iff_getElem.1 hx; exact (hp i hi).1
  refine ⟨l, ⟨some a, cap, by rw [hll], flatMap_len l hflen, by omega, hm, fun j v hv => ⟨a, rfl, ?_⟩⟩, fun x hx => ⟨?_, hflen x hx⟩, ?_⟩
  ·obtain ⟨h1, h2⟩ := flatMap_get hsz l hflen j v hv
   have := (hp _ h1).2.1 (j % P.cellsOf e) (Nat.mod_lt _ hsz)
   rw [show j / P.cellsOf e * P.cellsOf e + j % P.cellsOf e = j by rw [Nat.mul_comm]; exact Nat.div_add_mod j _] at this
   rw [this]; exact h2
  ·obtain ⟨i, hi, rfl⟩ := List.mem_iff_getElem.1 hx; exact (hp i hi).2.2
  ·rw [hll]; exact Nat.le_trans (Nat.mul_le_mul_right _ hl) hb
theorem flatMap_one {α : Type} (f : α → Value) : ∀ (l : List α), l.flatMap (fun x => [f x]) = l.map f
 | [] => rfl
 | x :: l => by rw [List.flatMap_cons, flatMap_one f l]; rfl
theorem rdg_bools {v : Value} (hu : P.underlying t = some (.slice e)) (he : P.underlying e = some .bool) (hc : P.cellsOf e = 1) (hb : P.bytesOf e = 1) (h : Rdg P w t [v]) :
  ∃ l : List Bool, Sl w v 1 l.length (l.map Value.bool) ∧ l.length ≤ reachBytes := by
 obtain ⟨l, h1, _, h3⟩ := rdg_list (fun b : Bool => [Value.bool b]) (fun _ => True) hu (by rw [hc]; decide) (fun cs' _ h => by
  obtain ⟨b, rfl⟩ := rdg_bool he h; exact ⟨b, rfl, trivial⟩) h
 rw [hc] at h1
 rw [hb, Nat.mul_one] at h3
 refine ⟨l, ?_, h3⟩
 rwa [flatMap_one] at h1
theorem rdg_ints {v : Value} {k : IntKind} (hu : P.underlying t = some (.slice e)) (he : P.underlying e = some (.int k)) (hc : P.cellsOf e = 1) (h : Rdg P w t [v]) :
  ∃ l : List Int, Sl w v 1 l.length (l.map (Value.int k)) ∧ (∀ n ∈ l, (Lit.int k n).wf = true) ∧ l.length * P.bytesOf e ≤ reachBytes := by
 obtain ⟨l, h1, h2, h3⟩ := rdg_list (fun n : Int => [Value.int k n]) (fun n => (Lit.int k n).wf = true) hu (by rw [hc]; decide) (fun cs' _ h => by
  obtain ⟨n, rfl, hw⟩ := rdg_int he h; exact ⟨n, rfl, hw⟩) h
 rw [hc] at h1
 refine ⟨l, ?_, fun n hn => (h2 n hn).1, h3⟩
 rwa [flatMap_one] at h1
theorem wf_i64 {n : Int} (h : (Lit.int .i64 n).wf = true) : -9223372036854775808 ≤ n ∧ n ≤ 9223372036854775807 := bounds_i64 h
theorem wf_u8 {n : Int} (h : (Lit.int .u8 n).wf = true) : ∃ x : UInt8, Value.int .u8 n = u8 x := by
 have := bounds_u8 h
 refine ⟨UInt8.ofNat n.toNat, ?_⟩
 unfold u8
 congr 1
 rw [UInt8.toNat_ofNat']
 omega
end
end Go.Own
namespace Go.Proofs.YtgilmcpdpggikaaGreatDoor
open Go Go.RowKit Go.Own
open Go.ChangeShapes Go.WideShapes Go.ChangeAt
theorem rdg_field {P : Program} {w : World} {t : TypeId} {cs : List Value} {fs : Array Field} (hu : P.underlying t = some (.struct fs)) (h : Rdg P w t cs) (j : Nat) (ft : TypeId) (off sz : Nat) (hf : (fs[j]?).map (fun f => (f.type, f.offset)) = some (ft, off)) (hs : P.cellsOf ft = sz) : Rdg P w ft ((cs.drop off).take sz) := by
 obtain ⟨_, h2⟩ := rdg_struct hu h
 rw [Option.map_eq_some_iff] at hf
 obtain ⟨f, h3, h4⟩ := hf
 cases h4
 have := h2 j f h3
 rwa [hs] at this
theorem reach_le : reachBytes ≤ 140737488351232 := by decide
structure Act16 where
 do_ : Int
 n : Int
 at_ : Int
 off : Int
 fill : UInt8
 keepv : Value
 keep : List Bool
def Act16.cells (a : Act16) : List Value := [.int .i64 a.do_, .int .i64 a.n, .int .i64 a.at_, .int .i64 a.off, .int .u8 (a.fill.toNat : Int), a.keepv]
structure Act16.Ok (s : Ro) (a : Act16) : Prop where
 keep : SlS s a.keepv 1 a.keep.length (a.keep.map Value.bool)
 klen : a.keep.length ≤ 140737488351232
 hn : I64 a.n
 ha : I64 a.at_
theorem Act16.Ok.mono {s s' : Ro} {a : Act16} (h : a.Ok s) (hs : s.Le s') : a.Ok s' := ⟨h.keep.mono hs, h.klen, h.hn, h.ha⟩
end Go.Proofs.YtgilmcpdpggikaaGreatDoor
namespace Go.Proofs.YtgilmcpdpggikaaGreatDoor
open Go Go.RowKit Go.Own
section
variable {s : Ro} {w : World} {R : List Asn}
theorem take_page {ps : List UInt8} {i : Nat} : ps.take (i * 40) ++ getP ps i = ps.take ((i + 1) * 40) := by
 unfold getP
 rw [show (i + 1) * 40 = i * 40 + 40 by omega, List.take_add]
end
theorem layS_get : ∀ (s : List (List UInt8)) (ps : List (Nat × List UInt8)) (sv : List Bool) (k : Nat), (layS s ps sv)[k]?.getD [] = s[k]?.getD [] ∨ ∃ b, (k, b) ∈ ps ∧ (layS s ps sv)[k]?.getD [] = b
 | s, [], sv, k => .inl (by rw [layS])
 | s, p :: ps, [], k => .inl (by rw [layS])
 | s, p :: ps, b :: bs, k => by
  rw [layS]
  rcases layS_get (if b then s.set p.1 p.2 else s) ps bs k with h | ⟨x, hx, h⟩
  ·rw [h]
   cases b with
   | false => exact .inl rfl
   | true =>
    simp only [if_true]
    by_cases hk : p.1 = k
    ·subst hk
     by_cases hl : p.1 < s.length
     ·exact .inr ⟨p.2, by simp, by rw [List.getElem?_set_self hl]; rfl⟩
     ·exact .inl (by rw [List.set_eq_of_length_le (by omega)])
    ·exact .inl (by rw [List.getElem?_set_ne hk])
  ·exact .inr ⟨x, List.mem_cons_of_mem _ hx, h⟩
theorem powered_on {d : DM} (h : d.off = false) : (d.powered.2 = true ∧ d.powered.1.off = false ∧ d.powered.1.secs = d.secs ∧ d.powered.1.pend = d.pend) ∨ (d.powered.2 = false ∧ d.powered.1.off = true ∧ d.powered.1.pend = [] ∧ ∃ sv, d.powered.1.secs = layS d.secs d.pend sv) := by
 unfold DM.powered
 cases ha : d.armed with
 | false => simp [h]
 | true =>
  by_cases hl : d.left = 0
  ·right; simp [h, hl, DM.crash]; exact ⟨_, rfl⟩
  ·left; simp [h, hl]
theorem cur_nil {d : DM} (h : d.pend = []) (k : Nat) : d.cur k = d.sec k := by simp [DM.cur, h]
theorem pwrite_on {N : Nat} {d : DM} (ho : d.off = false) (hl : d.secs.length = N) {f c n : Nat} {l : List UInt8} (hn : n < c) (hf : f + c ≤ N) (hN : N ≤ 1000) (h64 : l.length = 64) :
  ((pwrite d ((f : Int), (c : Int)) (n : Int) l).2 = 0 ∧ (pwrite d ((f : Int), (c : Int)) (n : Int) l).1.off = false ∧ (pwrite d ((f : Int), (c : Int)) (n : Int) l).1.secs = d.secs ∧ (pwrite d ((f : Int), (c : Int)) (n : Int) l).1.pend = d.pend ++ [(f + n, l)]) ∨
  ((pwrite d ((f : Int), (c : Int)) (n : Int) l).2 = 9 ∧ (pwrite d ((f : Int), (c : Int)) (n : Int) l).1.off = true ∧ (pwrite d ((f : Int), (c : Int)) (n : Int) l).1.pend = [] ∧ ∃ sv, (pwrite d ((f : Int), (c : Int)) (n : Int) l).1.secs = layS d.secs d.pend sv) := by
 have hib : d.inB ((f + n : Nat) : Int) = true := by simp only [DM.inB, decide_eq_true_eq]; rw [hl]; omega
 have e : pwrite d ((f : Int), (c : Int)) (n : Int) l = if d.powered.2 then ({ d.powered.1 with pend := d.powered.1.pend ++ [(f + n, l)] }, 0) else (d.powered.1, 9) := by
  unfold Go.Proofs.YtgilmcpdpggikaaGreatDoor.pwrite
  simp only
  rw [place_inN hn (by omega)]
  simp only [if_true]
  unfold DM.write
  rw [if_pos hib, if_pos h64, Int.toNat_natCast]
 rw [e]
 rcases powered_on ho with ⟨h1, h2, h3, h4⟩ | ⟨h1, h2, h3, h4⟩
 ·rw [if_pos h1]; exact .inl ⟨rfl, h2, h3, by simp only [h4]⟩
 ·rw [if_neg (by rw [h1]; decide)]; exact .inr ⟨rfl, h2, h3, h4⟩
theorem flush_on {d : DM} (ho : d.off = false) :
  (d.flush.2 = 0 ∧ d.flush.1.off = false ∧ d.flush.1.pend = [] ∧ d.flush.1.secs = layAll d.secs d.pend) ∨
  (d.flush.2 = 9 ∧ d.flush.1.off = true ∧ d.flush.1.pend = [] ∧ ∃ sv, d.flush.1.secs = layS d.secs d.pend sv) := by
 unfold DM.flush
 rcases powered_on ho with ⟨h1, h2, h3, h4⟩ | ⟨h1, h2, h3, h4⟩
 ·rw [if_pos h1]; exact .inl ⟨rfl, h2, rfl, by simp only [h3, h4]⟩
 ·rw [if_neg (by rw [h1]; decide)]; exact .inr ⟨rfl, h2, h3, h4⟩
def calmD (d : DM) : DM := (d.arm (-1) []).power
theorem calm_on {d : DM} (h : d.off = false) (hp : d.pend = []) : d.arm (-1) [] = (d.arm (-1) []).power := by
 unfold DM.arm DM.power DM.disarm
 simp [h, hp]
theorem calm_facts (d : DM) : (calmD d).off = false ∧ (calmD d).armed = false ∧ (calmD d).pend = [] ∧ (calmD d).secs = d.secs := by
 unfold calmD DM.arm DM.power DM.disarm
 refine ⟨rfl, rfl, rfl, ?_⟩
 split
 ·rfl
 ·simp
theorem Lg.of {N f c : Nat} {d : DM} {l : List En} (h1 : d.off = false) (h2 : d.armed = false) (h3 : d.pend = []) (h4 : d.secs.length = N) (h5 : l.length ≤ c) (h6 : ∀ i (h : i < l.length), d.sec (f + i) = secE i l[i]) (h7 : ∀ k, k < N → (k < f ∨ f + l.length ≤ k) → d.sec k = List.replicate 64 0) : Lg N f c d ⟨l, false⟩ :=
 ⟨⟨h1, h2, h4⟩, h3, rfl, h5, fun i hi => by rw [cur_nil h3]; exact h6 i hi, fun k hk ho => by rw [cur_nil h3]; exact h7 k hk ho⟩
theorem sec_set (s : List (List UInt8)) (n k : Nat) (l : List UInt8) (hn : n < s.length) : (s.set n l)[k]?.getD [] = if n = k then l else s[k]?.getD [] := by
 by_cases h : n = k
 ·subst h; rw [if_pos rfl, List.getElem?_set_self hn]; rfl
 ·rw [if_neg h, List.getElem?_set_ne h]
theorem Lg.calm {N f c : Nat} {d d' : DM} {m : AL} (h : Lg N f c d m) (hs : d'.secs = d.secs) : Lg N f c (calmD d') m := by
 obtain ⟨ents, dead⟩ := m
 have hdd := h.dead
 dsimp only at hdd
 subst hdd
 obtain ⟨c1, c2, c3, c4⟩ := calm_facts d'
 refine Lg.of c1 c2 c3 (by rw [c4, hs]; exact h.fr.len) h.len (fun i hi => ?_) (fun k hk ho => ?_)
 ·have := h.sec i hi
  rw [cur_nil h.pd] at this
  unfold DM.sec at *
  rw [c4, hs]; exact this
 ·have := h.out k hk ho
  rw [cur_nil h.pd] at this
  unfold DM.sec at *
  rw [c4, hs]; exact this
theorem Lg.calm1 {N f c : Nat} {d d' : DM} {l : List En} {e : En} (h : Lg N f c d ⟨l, false⟩) (hf : f + c ≤ N) (hl : l.length < c) (hs : ∀ k : Nat, d'.secs[k]?.getD [] = (d.secs.set (f + l.length) (secE l.length e))[k]?.getD []) (hlen : d'.secs.length = N) : Lg N f c (calmD d') ⟨l ++ [e], false⟩ := by
 obtain ⟨c1, c2, c3, c4⟩ := calm_facts d'
 have hn := h.fr.len
 refine Lg.of c1 c2 c3 (by rw [c4]; exact hlen) (by simp; omega) (fun i hi => ?_) (fun k hk ho => ?_)
 ·simp only [List.length_append, List.length_cons, List.length_nil] at hi
  unfold DM.sec
  rw [c4, hs, sec_set _ _ _ _ (by omega)]
  by_cases hie : i = l.length
  ·subst hie; rw [if_pos rfl]; simp
  ·rw [if_neg (by omega), List.getElem_append_left (by omega)]
   have := h.sec i (by simp only; omega)
   rw [cur_nil h.pd] at this
   exact this
 ·simp only [List.length_append, List.length_cons, List.length_nil] at ho
  unfold DM.sec
  rw [c4, hs, sec_set _ _ _ _ (by omega), if_neg (by omega)]
  have := h.out k hk (by simp only; omega)
  rw [cur_nil h.pd] at this
  exact this
theorem layS_one (s : List (List UInt8)) (q : Nat × List UInt8) (sv : List Bool) : layS s [q] sv = s ∨ layS s [q] sv = s.set q.1 q.2 := by
 cases sv with
 | nil => exact .inl rfl
 | cons b bs =>
  rw [layS, layS]
  cases b with
  | false => exact .inl rfl
  | true => exact .inr rfl
theorem Lg.keep {N f c : Nat} {d d1 : DM} {m : AL} (h : Lg N f c d m) (hf : f + c ≤ N) (hN : N ≤ 1000) (e : En) (ho : d1.off = false) (hs : d1.secs = d.secs) (hp : d1.pend = []) :
  ((addA d1 ((f : Int), (c : Int)) m e).2.2 = 0 ∧ e.valid = true ∧ (addA d1 ((f : Int), (c : Int)) m e).2.1 = ⟨m.ents ++ [e], false⟩ ∧ (addA d1 ((f : Int), (c : Int)) m e).1.arm (-1) [] = (calmD (addA d1 ((f : Int), (c : Int)) m e).1) ∧ Lg N f c (calmD (addA d1 ((f : Int), (c : Int)) m e).1) ⟨m.ents ++ [e], false⟩) ∨
  (((addA d1 ((f : Int), (c : Int)) m e).2.2 = 1 ∨ (addA d1 ((f : Int), (c : Int)) m e).2.2 = 5 ∨ (addA d1 ((f : Int), (c : Int)) m e).2.2 = 9) ∧ (addA d1 ((f : Int), (c : Int)) m e).2.1.ents = m.ents ∧ Lg N f c (calmD (addA d1 ((f : Int), (c : Int)) m e).1) m) ∨
  ((addA d1 ((f : Int), (c : Int)) m e).2.2 = 9 ∧ e.valid = true ∧ (addA d1 ((f : Int), (c : Int)) m e).2.1.ents = m.ents ∧ Lg N f c (calmD (addA d1 ((f : Int), (c : Int)) m e).1) ⟨m.ents ++ [e], false⟩) := by
 obtain ⟨l, dead⟩ := m
 have hd := h.dead
 dsimp only at hd
 subst hd
 have hlen := h.len
 have hNl := h.fr.len
 dsimp only at hlen
 unfold addA
 dsimp only
 rw [if_neg (by decide)]
 by_cases hv : e.valid = false
 ·rw [if_pos hv]; exact .inr (.inl ⟨.inl rfl, rfl, h.calm hs⟩)
 have hv' : e.valid = true := by cases hq : e.valid with | true => rfl | false => exact absurd hq hv
 rw [if_neg hv]
 by_cases hfull : (c : Int) ≤ (l.length : Int)
 ·rw [if_pos hfull]; exact .inr (.inl ⟨.inr (.inl rfl), rfl, h.calm hs⟩)
 rw [if_neg hfull]
 have h64 := secE_len l.length e
 rcases pwrite_on (l := secE l.length e) ho (by rw [hs]; exact hNl) (n := l.length) (c := c) (by omega) hf hN h64 with ⟨w1, w2, w3, w4⟩ | ⟨w1, w2, w3, sv, w4⟩
 ·rw [if_pos w1]
  rw [hp, List.nil_append] at w4
  rcases flush_on w2 with ⟨f1, f2, f3, f4⟩ | ⟨f1, f2, f3, sv, f4⟩
  ·rw [if_pos f1]
   rw [w4, w3, hs] at f4
   refine .inl ⟨rfl, hv', rfl, calm_on f2 f3, h.calm1 hf (by omega) (fun k => by rw [f4]; rfl) (by rw [f4, layAll_len]; exact hNl)⟩
  ·rw [if_neg (by rw [f1]; decide)]
   rw [w4, w3, hs] at f4
   rcases layS_one d.secs (f + l.length, secE l.length e) sv with h1 | h1
   ·rw [h1] at f4
    exact .inr (.inl ⟨.inr (.inr f1), rfl, h.calm f4⟩)
   ·rw [h1] at f4
    exact .inr (.inr ⟨f1, hv', rfl, h.calm1 hf (by omega) (fun k => by rw [f4]) (by rw [f4, List.length_set]; exact hNl)⟩)
 ·rw [if_neg (by rw [w1]; decide)]
  rw [hp, hs] at w4
  rw [show layS d.secs [] sv = d.secs by rw [layS]] at w4
  exact .inr (.inl ⟨.inr (.inr w1), rfl, h.calm w4⟩)
theorem dec_sec {c : UInt8} {e n : Nat} {r : List UInt8} (he : e < 2 ^ 32) (hn : r.length = n) (hr : n ≤ 55) : decW c n (secW c e r) = some (e, r) := by
 subst hn
 have hp : (c :: putN e 4).length = 5 := by simp [putN_len]
 have h0 : contW c e r = (c :: putN e 4) ++ (r ++ List.replicate (55 - r.length) 0) := by simp [contW]
 have h1 : (contW c e r).drop 5 = r ++ List.replicate (55 - r.length) 0 := by rw [h0]; exact List.drop_left' hp
 have h2 : (contW c e r).drop (5 + r.length) = List.replicate (55 - r.length) 0 := by rw [← List.drop_drop, h1]; exact List.drop_left' rfl
 have h3 : ((contW c e r).drop 1).take 4 = putN e 4 := by
  rw [h0, List.cons_append, List.drop_succ_cons, List.drop_zero]
  exact List.take_left' (by simp [putN_len])
 have h4 : (contW c e r)[0]? = some c := by rw [h0]; rfl
 have h5 : (List.replicate (55 - r.length) (0 : UInt8)).any (fun x => x != 0) = false := by simp [List.any_eq_false]
 have h6 : numN (putN e 4) = e := by rw [numN_put]; exact Nat.mod_eq_of_lt (by omega)
 unfold decW secW
 rw [open_seal]
 simp only [contW_len hr, h4, h2, h5, h3, h1, h6, if_true]
 simp
theorem dec_oth {c c' : UInt8} {e n : Nat} {r : List UInt8} (hr : r.length ≤ 55) (hc : c ≠ c') : decW c' n (secW c e r) = none := by
 have h4 : (contW c e r)[0]? = some c := by simp [contW]
 unfold decW secW
 rw [open_seal]
 simp only [contW_len hr, h4, if_true]
 rw [if_neg (fun h => hc (Option.some.inj h))]
def recStep (l : List UInt8) (e k : Nat) : Option (Option Ch) := match decW 82 42 l with
 | some (e', b :: b2 :: r) => if e' = e ∧ b.toNat = k ∧ b2.toNat < 16 then some (some ⟨(b2.toNat : Int), r⟩) else none
 | _ => match decW 67 1 l with
  | some (e', [b]) => if e' = e ∧ b.toNat = k then some none else none
  | _ => none
def recsC (c : Nat → List UInt8) (e : Nat) : Nat → Nat → List UInt8 → Nat → List Ch → List UInt8 × Nat
 | 0, _, ps, u, _ => (ps, u)
 | n + 1, k, ps, u, pend => match recStep (c (34 + k)) e k with
  | none => (ps, u)
  | some (some ch) => recsC c e n (k + 1) ps u (pend ++ [ch])
  | some none => recsC c e n (k + 1) (applyL ps pend) (k + 1) []
theorem recsM_eq {d : DM} {x : Ext} {c : Nat → List UInt8} {e : Nat} (h : ∀ k, k < 52 → sec d x k = c k) : ∀ n k ps u pend, n + k ≤ 18 → recsM d x e n k ps u pend = recsC c e n k ps u pend
 | 0, k, ps, u, pend, _ => rfl
 | n + 1, k, ps, u, pend, hk => by
  have e1 := h (34 + k) (by omega)
  have h2 := fun ps u pend => recsM_eq (e := e) h n (k + 1) ps u pend (by omega)
  simp only [recsM, recsC, recStep, e1, h2]
  cases h82 : decW 82 42 (c (34 + k)) with
  | some p =>
   obtain ⟨e', r⟩ := p
   have := decW_len h82 (by decide)
   match r, this with
   | b :: b2 :: r, _ =>
    simp only
    by_cases hc : e' = e ∧ b.toNat = k ∧ b2.toNat < 16
    ·simp only [if_pos hc]
    ·simp only [if_neg hc]
  | none =>
   simp only
   cases h67 : decW 67 1 (c (34 + k)) with
   | some p =>
    obtain ⟨e', r⟩ := p
    have := decW_len h67 (by decide)
    match r, this with
    | [b], _ =>
     simp only
     by_cases hc : e' = e ∧ b.toNat = k
     ·simp only [if_pos hc]
     ·simp only [if_neg hc]
   | none => rfl
theorem recStep_rec {e k : Nat} {ch : Ch} (he : e < 2 ^ 32) (hk : k < 256) (ho : ch.Ok) : recStep (recB e k ch) e k = some (some ch) := by
 obtain ⟨h1, h2, h3⟩ := ho
 have hp : (UInt8.ofNat ch.page.toNat).toNat = ch.page.toNat := by rw [UInt8.toNat_ofNat']; exact Nat.mod_eq_of_lt (by omega)
 have hk' : (UInt8.ofNat k).toNat = k := by rw [UInt8.toNat_ofNat']; exact Nat.mod_eq_of_lt hk
 have hd : decW 82 42 (recB e k ch) = some (e, UInt8.ofNat k :: UInt8.ofNat ch.page.toNat :: ch.data) := dec_sec he (by simp [h3]) (by decide)
 unfold recStep
 rw [hd]
 simp only
 rw [if_pos ⟨trivial, hk', by omega⟩, hp]
 have : ((ch.page.toNat : Nat) : Int) = ch.page := by omega
 rw [this]
theorem recStep_not {e e' k k' : Nat} {ch : Ch} (he : e < 2 ^ 32) (ho : ch.Ok) : recStep (recB e k ch) e' k' ≠ some none := by
 have hd : decW 82 42 (recB e k ch) = some (e, UInt8.ofNat k :: UInt8.ofNat ch.page.toNat :: ch.data) := dec_sec he (by simp [ho.2.2]) (by decide)
 unfold recStep
 rw [hd]
 simp only
 split <;> simp
theorem recStep_mark {e k : Nat} (he : e < 2 ^ 32) (hk : k < 256) : recStep (markB e k) e k = some none := by
 have hk' : (UInt8.ofNat k).toNat = k := by rw [UInt8.toNat_ofNat']; exact Nat.mod_eq_of_lt hk
 have h1 : decW 82 42 (markB e k) = none := dec_oth (by simp) (by decide)
 have h2 : decW 67 1 (markB e k) = some (e, [UInt8.ofNat k]) := dec_sec he rfl (by decide)
 unfold recStep
 rw [h1, h2]
 simp [hk']
theorem recStep_mark_e {e e' k k' : Nat} (he : e < 2 ^ 32) (h : recStep (markB e k) e' k' = some none) : e' = e := by
 have h1 : decW 82 42 (markB e k) = none := dec_oth (by simp) (by decide)
 have h2 : decW 67 1 (markB e k) = some (e, [UInt8.ofNat k]) := dec_sec he rfl (by decide)
 unfold recStep at h
 rw [h1, h2] at h
 simp only at h
 split at h
 ·rename_i hc; exact hc.1.symm
 ·cases h
theorem recsC_end {c : Nat → List UInt8} {e : Nat} : ∀ n k ps u pend, (∀ j, k ≤ j → j < k + n → recStep (c (34 + j)) e j ≠ some none) → recsC c e n k ps u pend = (ps, u)
 | 0, k, ps, u, pend, _ => rfl
 | n + 1, k, ps, u, pend, h => by
  rw [recsC]
  cases hs : recStep (c (34 + k)) e k with
  | none => rfl
  | some o =>
   cases o with
   | none => exact absurd hs (h k (Nat.le_refl _) (by omega))
   | some ch => exact recsC_end n (k + 1) ps u _ (fun j h1 h2 => h j (by omega) (by omega))
theorem recsC_le {c : Nat → List UInt8} {e : Nat} : ∀ n k ps u pend, u ≤ k → u ≤ (recsC c e n k ps u pend).2 ∧ (recsC c e n k ps u pend).2 ≤ k + n ∧ ((recsC c e n k ps u pend).2 ≤ k → recsC c e n k ps u pend = (ps, u))
 | 0, k, ps, u, pend, h => ⟨Nat.le_refl _, h, fun _ => rfl⟩
 | n + 1, k, ps, u, pend, h => by
  rw [recsC]
  cases hs : recStep (c (34 + k)) e k with
  | none => exact ⟨Nat.le_refl _, by simp only; omega, fun _ => rfl⟩
  | some o =>
   cases o with
   | none =>
    have := recsC_le (c := c) (e := e) n (k + 1) (applyL ps pend) (k + 1) [] (Nat.le_refl _)
    simp only
    exact ⟨by omega, by omega, fun h' => by omega⟩
   | some ch =>
    have := recsC_le (c := c) (e := e) n (k + 1) ps u (pend ++ [ch]) (by omega)
    simp only
    exact ⟨by omega, by omega, fun h' => this.2.2 (by omega)⟩
theorem recsC_to {c c' : Nat → List UInt8} {e : Nat} : ∀ n k ps u pend ps2 u2, u ≤ k → recsC c e n k ps u pend = (ps2, u2) → k < u2 → (∀ j, k ≤ j → j < u2 → c' (34 + j) = c (34 + j)) → recsC c' e n k ps u pend = recsC c' e (n - (u2 - k)) u2 ps2 u2 []
 | 0, k, ps, u, pend, ps2, u2, h, hr, hk, hc => by
  rw [recsC] at hr; cases hr; omega
 | n + 1, k, ps, u, pend, ps2, u2, h, hr, hk, hc => by
  rw [recsC, hc k (Nat.le_refl _) hk]
  rw [recsC] at hr
  cases hs : recStep (c (34 + k)) e k with
  | none => rw [hs] at hr; cases hr; omega
  | some o =>
   rw [hs] at hr
   cases o with
   | some ch =>
    simp only at hr ⊢
    by_cases hk1 : k + 1 < u2
    ·rw [recsC_to n (k + 1) ps u _ ps2 u2 (by omega) hr hk1 (fun j h1 h2 => hc j (by omega) h2), show n - (u2 - (k + 1)) = n + 1 - (u2 - k) by omega]
    ·have := recsC_le (c := c) (e := e) n (k + 1) ps u (pend ++ [ch]) (by omega)
     rw [hr] at this
     have h3 := this.2.2 (by dsimp only; omega)
     cases h3
     omega
   | none =>
    simp only at hr ⊢
    by_cases hk1 : k + 1 < u2
    ·rw [recsC_to n (k + 1) _ (k + 1) [] ps2 u2 (Nat.le_refl _) hr hk1 (fun j h1 h2 => hc j (by omega) h2), show n - (u2 - (k + 1)) = n + 1 - (u2 - k) by omega]
    ·have := recsC_le (c := c) (e := e) n (k + 1) (applyL ps pend) (k + 1) [] (Nat.le_refl _)
     rw [hr] at this
     have h3 := this.2.2 (by dsimp only; omega)
     cases h3
     rw [show n + 1 - (k + 1 - k) = n by omega]
theorem recsC_keep {c c' : Nat → List UInt8} {e : Nat} {ps0 ps : List UInt8} {u : Nat} (h : recsC c e 18 0 ps0 0 [] = (ps, u)) (hc : ∀ j, j < u → c' (34 + j) = c (34 + j)) : recsC c' e 18 0 ps0 0 [] = recsC c' e (18 - u) u ps u [] := by
 by_cases hu : 0 < u
 ·have := recsC_to (c' := c') 18 0 ps0 0 [] ps u (Nat.le_refl _) h hu (fun j _ h2 => hc j h2)
  rw [this, Nat.sub_zero]
 ·have h0 : u = 0 := by omega
  subst h0
  have := recsC_le (c := c) (e := e) 18 0 ps0 0 [] (Nat.le_refl _)
  rw [h] at this
  have h3 := this.2.2 (Nat.le_refl _)
  cases h3
  rfl
theorem recsC_recs {c : Nat → List UInt8} {e : Nat} (he : e < 2 ^ 32) : ∀ (l : List Ch) (n k : Nat) ps u pend, (∀ ch ∈ l, ch.Ok) → k + l.length ≤ 18 → (∀ i (hi : i < l.length), c (34 + (k + i)) = recB e (k + i) l[i]) → recsC c e (l.length + n) k ps u pend = recsC c e n (k + l.length) ps u (pend ++ l)
 | [], n, k, ps, u, pend, _, _, _ => by simp
 | ch :: r, n, k, ps, u, pend, ho, hk, h => by
  rw [List.length_cons] at hk
  have h0 : c (34 + k) = recB e k ch := h 0 (by simp)
  rw [List.length_cons, show r.length + 1 + n = (r.length + n) + 1 by omega, recsC, h0, recStep_rec he (by omega) (ho ch (by simp))]
  simp only
  rw [recsC_recs he r n (k + 1) ps u (pend ++ [ch]) (fun x hx => ho x (by simp [hx])) (by omega) (fun i hi => by
   have := h (i + 1) (by rw [List.length_cons]; omega)
   rw [show k + 1 + i = k + (i + 1) by omega, this]; rfl)]
  rw [show k + 1 + r.length = k + (r.length + 1) by omega, List.append_assoc]; rfl
structure LgC (c : Nat → List UInt8) (m : WL) : Prop where
 ep : m.epoch < 2 ^ 32
 home : m.home ≤ 1
 used : m.used ≤ 18
 plen : m.pages.length = 640
 dead : m.dead = false
 head : c (m.epoch % 2) = headB m.epoch m.home
 oth : ∀ e' h', candW (c (1 - m.epoch % 2)) (1 - m.epoch % 2) = some (e', h') → e' < m.epoch
 body : ∃ ps0 : List UInt8, ps0.length = 640 ∧ (∀ i, i < 16 → c (2 + 16 * m.home + i) = pageB m.epoch i ps0) ∧ recsC c m.epoch 18 0 ps0 0 [] = (m.pages, m.used)
 old : ∀ k e', k < 18 → m.epoch < e' → recStep (c (34 + k)) e' k ≠ some none
 late : ∀ k, m.used ≤ k → k < 18 → recStep (c (34 + k)) m.epoch k ≠ some none
theorem cand_head {e h : Nat} (he : e < 2 ^ 32) (hh : h ≤ 1) : candW (headB e h) (e % 2) = some (e, h) := by
 have h2 : decW 72 1 (headB e h) = some (e, [UInt8.ofNat h]) := dec_sec he rfl (by decide)
 have hk' : (UInt8.ofNat h).toNat = h := by rw [UInt8.toNat_ofNat']; exact Nat.mod_eq_of_lt (by omega)
 unfold candW
 rw [h2]
 simp only
 rw [if_pos trivial, if_pos (by omega), hk']
theorem pagesM_eq {d : DM} {x : Ext} {c : Nat → List UInt8} {e h : Nat} {ps0 : List UInt8} (hs : ∀ k, k < 52 → sec d x k = c k) (he : e < 2 ^ 32) (hh : h ≤ 1) (hl : ps0.length = 640) (hp : ∀ i, i < 16 → c (2 + 16 * h + i) = pageB e i ps0) : ∀ n i ps, i + n = 16 → ps.length = 640 → ps.take (i * 40) = ps0.take (i * 40) → wpagesM d x e h n i ps = some ps0
 | 0, i, ps, hi, hps, ht => by
  have : i = 16 := by omega
  subst this
  rw [List.take_of_length_le (by omega), List.take_of_length_le (by omega)] at ht
  rw [wpagesM, ht]
 | n + 1, i, ps, hi, hps, ht => by
  have hg := getP_len hl (i := i) (by omega)
  have hk' : (UInt8.ofNat i).toNat = i := by rw [UInt8.toNat_ofNat']; exact Nat.mod_eq_of_lt (by omega)
  have h2 : decW 80 41 (pageB e i ps0) = some (e, UInt8.ofNat i :: getP ps0 i) := dec_sec he (by simp [hg]) (by decide)
  rw [wpagesM, hs _ (by omega), hp i (by omega), h2]
  simp only
  rw [if_pos ⟨trivial, hk'⟩]
  refine pagesM_eq hs he hh hl hp n (i + 1) _ (by omega) (setP_len hps hg (by omega)) ?_
  unfold setP
  rw [← List.append_assoc, List.take_append_of_le_length (by rw [List.length_append, List.length_take, hg]; omega), List.take_of_length_le (by rw [List.length_append, List.length_take, hg]; omega), ht, take_page]
theorem LgC.opens {c : Nat → List UInt8} {m : WL} (h : LgC c m) {d : DM} {x : Ext} (hs : ∀ k, k < 52 → sec d x k = c k) : openM d x = (some m, 0) := by
 have hep := h.ep
 have hhm := h.home
 obtain ⟨ps0, hl, hp, hr⟩ := h.body
 have hacc : accW d x 2 = some (m.epoch, m.home) := by
  have e2 : accW d x 2 = pickW (pickW none (candW (sec d x 0) 0)) (candW (sec d x 1) 1) := rfl
  rw [e2, hs 0 (by decide), hs 1 (by decide)]
  have ho := h.oth
  have hh := h.head
  rcases Nat.mod_two_eq_zero_or_one m.epoch with h0 | h0
  ·rw [h0] at hh ho
   have h1 : candW (c 0) 0 = some (m.epoch, m.home) := by rw [hh, ← h0]; exact cand_head hep hhm
   rw [h1]
   cases hc : candW (c 1) 1 with
   | none => rfl
   | some p =>
    have := ho p.1 p.2 (by rw [← hc])
    simp only [pickW]
    rw [if_neg (by omega)]
  ·rw [h0] at hh ho
   have h1 : candW (c 1) 1 = some (m.epoch, m.home) := by rw [hh, ← h0]; exact cand_head hep hhm
   rw [h1]
   cases hc : candW (c 0) 0 with
   | none => rfl
   | some p =>
    have := ho p.1 p.2 (by rw [← hc])
    simp only [pickW]
    rw [if_pos (by omega)]
 unfold openM
 rw [hacc]
 simp only
 rw [pagesM_eq hs hep hhm hl hp 16 0 z640 (by decide) List.length_replicate rfl]
 simp only
 rw [recsM_eq hs 18 0 ps0 0 [] (by decide), hr]
 simp only
 obtain ⟨e, h', u, ps, dd⟩ := m
 have := h.dead
 dsimp only at this ⊢
 rw [this]
theorem recsC_congr {c c' : Nat → List UInt8} {e : Nat} (h : ∀ j, j < 18 → c' (34 + j) = c (34 + j)) : ∀ n k ps u pend, n + k ≤ 18 → recsC c' e n k ps u pend = recsC c e n k ps u pend
 | 0, k, ps, u, pend, _ => rfl
 | n + 1, k, ps, u, pend, hk => by
  rw [recsC, recsC, h k (by omega)]
  have h2 := fun ps u pend => recsC_congr (e := e) h n (k + 1) ps u pend (by omega)
  simp only [h2]
theorem LgC.home_any {c c' : Nat → List UInt8} {m : WL} (h : LgC c m) (hc : ∀ k, k < 52 → (k < 2 + 16 * (1 - m.home) ∨ 2 + 16 * (1 - m.home) + 16 ≤ k) → c' k = c k) : LgC c' m := by
 have hh := h.home
 obtain ⟨ps0, hl, hp, hr⟩ := h.body
 have h34 : ∀ j, j < 18 → c' (34 + j) = c (34 + j) := fun j hj => hc (34 + j) (by omega) (by omega)
 refine ⟨h.ep, h.home, h.used, h.plen, h.dead, ?_, ?_, ⟨ps0, hl, fun i hi => ?_, ?_⟩, fun k e' hk he => ?_, fun k h1 h2 => ?_⟩
 ·rw [hc _ (by omega) (by omega)]; exact h.head
 ·rw [hc _ (by omega) (by omega)]; exact h.oth
 ·rw [hc _ (by omega) (by omega)]; exact hp i hi
 ·rw [recsC_congr h34 18 0 _ _ _ (by decide)]; exact hr
 ·rw [h34 k hk]; exact h.old k e' hk he
 ·rw [h34 k h2]; exact h.late k h1 h2
theorem LgC.next {c c' : Nat → List UInt8} {m : WL} (h : LgC c m) (he : m.epoch ≠ 4294967295) (hp : ∀ i, i < 16 → c' (2 + 16 * (1 - m.home) + i) = pageB (m.epoch + 1) i m.pages) (hh : c' ((m.epoch + 1) % 2) = headB (m.epoch + 1) (1 - m.home)) (ho : c' (m.epoch % 2) = c (m.epoch % 2)) (h34 : ∀ j, j < 18 → c' (34 + j) = c (34 + j)) : LgC c' ⟨m.epoch + 1, 1 - m.home, 0, m.pages, false⟩ := by
 have hep := h.ep
 have hhm := h.home
 have hold : ∀ k, k < 18 → recStep (c' (34 + k)) (m.epoch + 1) k ≠ some none := fun k hk => by rw [h34 k hk]; exact h.old k _ hk (by omega)
 refine ⟨by dsimp only; omega, by dsimp only; omega, Nat.zero_le _, h.plen, rfl, hh, fun e' h' hc => ?_, ⟨m.pages, h.plen, hp, ?_⟩, fun k e' hk he => ?_, fun k _ h2 => hold k h2⟩
 ·dsimp only at hc ⊢
  have e1 : 1 - (m.epoch + 1) % 2 = m.epoch % 2 := by omega
  rw [e1, ho, h.head, cand_head hep hhm] at hc
  cases hc; omega
 ·exact recsC_end 18 0 _ _ _ (fun j _ hj => hold j (by omega))
 ·dsimp only at he
  rw [h34 k hk]; exact h.old k e' hk (by omega)
theorem LgC.recs_any {c c' : Nat → List UInt8} {m : WL} {l : List Ch} (h : LgC c m) (hl : ∀ ch ∈ l, ch.Ok) (hu : m.used + l.length + 1 ≤ 18) (hc : ∀ k, k < 52 → c' k = c k ∨ ∃ i, ∃ hi : i < l.length, k = 34 + (m.used + i) ∧ c' k = recB m.epoch (m.used + i) l[i]) : LgC c' m := by
 have hep := h.ep
 have hhm := h.home
 obtain ⟨ps0, hl0, hp, hr⟩ := h.body
 have hlo : ∀ k, k < 34 + m.used → c' k = c k := fun k hk => (hc k (by omega)).resolve_right (fun ⟨i, hi, he, _⟩ => by omega)
 have hst : ∀ k e', k < 18 → recStep (c' (34 + k)) e' k = some none → recStep (c (34 + k)) e' k = some none := fun k e' hk hs => by
  rcases hc (34 + k) (by omega) with h1 | ⟨i, hi, _, h1⟩
  ·rw [h1] at hs; exact hs
  ·rw [h1] at hs; exact absurd hs (recStep_not hep (hl _ (List.getElem_mem hi)))
 have hlate : ∀ k, m.used ≤ k → k < 18 → recStep (c' (34 + k)) m.epoch k ≠ some none := fun k h1 h2 h3 => h.late k h1 h2 (hst k _ h2 h3)
 refine ⟨h.ep, h.home, h.used, h.plen, h.dead, ?_, ?_, ⟨ps0, hl0, fun i hi => ?_, ?_⟩, fun k e' hk he h3 => h.old k e' hk he (hst k _ hk h3), hlate⟩
 ·rw [hlo _ (by omega)]; exact h.head
 ·rw [hlo _ (by omega)]; exact h.oth
 ·rw [hlo _ (by omega)]; exact hp i hi
 ·rw [recsC_keep hr (fun j hj => hlo _ (by omega)), recsC_end _ _ _ _ _ (fun j h1 h2 => hlate j h1 (by omega))]
theorem LgC.mark {c c' : Nat → List UInt8} {m : WL} {l : List Ch} (h : LgC c m) (hl : ∀ ch ∈ l, ch.Ok) (hu : m.used + l.length + 1 ≤ 18) (hr : ∀ i (hi : i < l.length), c (34 + (m.used + i)) = recB m.epoch (m.used + i) l[i]) (hm : c' (34 + (m.used + l.length)) = markB m.epoch (m.used + l.length)) (hc : ∀ k, k < 52 → k ≠ 34 + (m.used + l.length) → c' k = c k) : LgC c' ⟨m.epoch, m.home, m.used + l.length + 1, applyL m.pages l, false⟩ := by
 have hep := h.ep
 have hhm := h.home
 obtain ⟨ps0, hl0, hp, hr0⟩ := h.body
 have hlate : ∀ k, m.used + l.length + 1 ≤ k → k < 18 → recStep (c' (34 + k)) m.epoch k ≠ some none := fun k h1 h2 => by rw [hc _ (by omega) (by omega)]; exact h.late k (by omega) h2
 refine ⟨h.ep, h.home, hu, applyL_len hl h.plen, rfl, ?_, ?_, ⟨ps0, hl0, fun i hi => ?_, ?_⟩, fun k e' hk he h3 => ?_, hlate⟩
 ·dsimp only; rw [hc _ (by omega) (by omega)]; exact h.head
 ·dsimp only; rw [hc _ (by omega) (by omega)]; exact h.oth
 ·dsimp only; rw [hc _ (by omega) (by omega)]; exact hp i hi
 ·dsimp only
  rw [recsC_keep hr0 (fun j hj => hc _ (by omega) (by omega)), show 18 - m.used = l.length + ((18 - m.used - l.length - 1) + 1) by omega, recsC_recs hep l _ m.used _ _ _ hl (by omega) (fun i hi => by rw [hc _ (by omega) (by omega)]; exact hr i hi), recsC, hm, recStep_mark hep (by omega)]
  simp only [List.nil_append]
  exact recsC_end _ _ _ _ _ (fun j h1 h2 => hlate j h1 (by omega))
 ·dsimp only at he
  by_cases hk2 : k = m.used + l.length
  ·subst hk2
   rw [hm] at h3
   have := recStep_mark_e hep h3
   omega
  ·rw [hc _ (by omega) (by omega)] at h3
   exact h.old k e' hk he h3
def wS (q : List (Nat × List UInt8)) : List St := q.map fun p => St.w p.1 p.2
def wP (f : Nat) (q : List (Nat × List UInt8)) : List (Nat × List UInt8) := q.map fun p => (f + p.1, p.2)
structure Torn (d d1 : DM) (ps : List (Nat × List UInt8)) : Prop where
 off : d1.off = true
 pend : d1.pend = []
 len : d1.secs.length = d.secs.length
 sec : ∀ k : Nat, d1.secs[k]?.getD [] = d.secs[k]?.getD [] ∨ ∃ b, (k, b) ∈ ps ∧ d1.secs[k]?.getD [] = b
theorem Torn.of {d d1 : DM} {ps qs : List (Nat × List UInt8)} (h1 : d1.off = true) (h2 : d1.pend = []) (h3 : ∃ sv, d1.secs = layS d.secs ps sv) (hq : ∀ p ∈ ps, p ∈ qs) : Torn d d1 qs := by
 obtain ⟨sv, h3⟩ := h3
 refine ⟨h1, h2, by rw [h3, layS_len], fun k => ?_⟩
 rw [h3]
 exact (layS_get d.secs ps sv k).imp id (fun ⟨b, hb, e⟩ => ⟨b, hq _ hb, e⟩)
theorem run_phase {N f : Nat} (hf : f + 52 ≤ N) (hN : N ≤ 1000) (r : List St) : ∀ (q : List (Nat × List UInt8)) (d : DM), d.off = false → d.secs.length = N → (∀ p ∈ q, p.1 < 52 ∧ p.2.length = 64) →
  (∃ d1, d1.off = false ∧ d1.pend = [] ∧ d1.secs = layAll d.secs (d.pend ++ wP f q) ∧ run ((f : Int), 52) (wS q ++ .f :: r) d = run ((f : Int), 52) r d1) ∨ (∃ d1, Torn d d1 (d.pend ++ wP f q) ∧ run ((f : Int), 52) (wS q ++ .f :: r) d = (d1, 9))
 | [], d, ho, hl, _ => by
  change (∃ d1 : DM, _ ∧ _ ∧ d1.secs = layAll d.secs (d.pend ++ []) ∧ run ((f : Int), 52) (.f :: r) d = _) ∨ (∃ d1, Torn d d1 (d.pend ++ []) ∧ run ((f : Int), 52) (.f :: r) d = _)
  rw [List.append_nil]
  rcases flush_on ho with ⟨h1, h2, h3, h4⟩ | ⟨h1, h2, h3, h4⟩
  ·exact .inl ⟨_, h2, h3, h4, run_fok _ h1⟩
  ·exact .inr ⟨_, Torn.of h2 h3 h4 (fun _ h => h), (run_fno _ (by rw [h1]; decide)).trans (Prod.ext rfl h1)⟩
 | (a, b) :: q, d, ho, hl, hq => by
  obtain ⟨ha, hb⟩ := hq (a, b) (by simp)
  dsimp only at ha hb
  have hrun : wS ((a, b) :: q) ++ .f :: r = .w a b :: (wS q ++ .f :: r) := rfl
  have hwp : d.pend ++ wP f ((a, b) :: q) = (d.pend ++ [(f + a, b)]) ++ wP f q := by rw [List.append_assoc]; rfl
  rw [hrun, hwp]
  have hpw := pwrite_on (c := 52) ho hl ha hf hN hb
  rw [show ((52 : Nat) : Int) = 52 from rfl] at hpw
  rcases hpw with ⟨h1, h2, h3, h4⟩ | ⟨h1, h2, h3, h4⟩
  ·rw [run_ok _ h1]
   have ih := run_phase hf hN r q _ h2 (by rw [h3]; exact hl) (fun p hp => hq p (by simp [hp]))
   rw [h3, h4] at ih
   refine ih.imp id (fun ⟨d1, ht, e⟩ => ⟨d1, ⟨ht.off, ht.pend, by rw [ht.len, h3], fun k => ?_⟩, e⟩)
   have := ht.sec k
   rw [h3] at this
   exact this
  ·exact .inr ⟨_, Torn.of h2 h3 h4 (fun p hp => by simp [hp]), (run_no _ (by rw [h1]; decide)).trans (Prod.ext rfl h1)⟩
theorem fold_val {k : Nat} {b : List UInt8} : ∀ (q : List (Nat × List UInt8)) (c : List UInt8), (∀ p ∈ q, p.1 = k → p.2 = b) → ((∃ p ∈ q, p.1 = k) ∨ c = b) → q.foldl (fun c p => if p.1 = k then p.2 else c) c = b
 | [], c, _, h => h.resolve_left (fun ⟨p, hp, _⟩ => by simp at hp)
 | p :: r, c, hq, h => by
  rw [List.foldl_cons]
  refine fold_val r _ (fun p hp => hq p (by simp [hp])) ?_
  by_cases hk : p.1 = k
  ·rw [if_pos hk]; exact .inr (hq p (by simp) hk)
  ·rw [if_neg hk]
   refine h.imp (fun ⟨p', hp, e⟩ => ?_) id
   rcases List.mem_cons.1 hp with rfl | hp
   ·exact absurd e hk
   ·exact ⟨p', hp, e⟩
def secF (f : Nat) (d : DM) (k : Nat) : List UInt8 := d.secs[f + k]?.getD []
theorem lay_in {N f : Nat} {d d1 : DM} {q : List (Nat × List UInt8)} (hs : d1.secs = layAll d.secs ([] ++ wP f q)) (hl : d.secs.length = N) {k : Nat} (hk : f + k < N) {b : List UInt8} (h1 : ∀ p ∈ q, p.1 = k → p.2 = b) (h2 : (∃ p ∈ q, p.1 = k) ∨ secF f d k = b) : secF f d1 k = b := by
 unfold secF
 rw [hs, List.nil_append, lay_cur0 _ _ _ (by rw [hl]; exact hk)]
 refine fold_val _ _ (fun p hp e => ?_) (h2.imp (fun ⟨p, hp, e⟩ => ⟨(f + p.1, p.2), List.mem_map.2 ⟨p, hp, rfl⟩, by dsimp only; omega⟩) id)
 obtain ⟨p', hp', rfl⟩ := List.mem_map.1 hp
 dsimp only at e
 exact h1 p' hp' (by omega)
theorem Torn.at' {f : Nat} {d d1 : DM} {q : List (Nat × List UInt8)} (h : Torn d d1 ([] ++ wP f q)) (k : Nat) : secF f d1 k = secF f d k ∨ ∃ b, (k, b) ∈ q ∧ secF f d1 k = b := by
 refine (h.sec (f + k)).imp id (fun ⟨b, hb, e⟩ => ?_)
 rw [List.nil_append] at hb
 obtain ⟨p, hp, he⟩ := List.mem_map.1 hb
 have h1 := (Prod.mk.inj he).1
 have h2 := (Prod.mk.inj he).2
 have h3 : p.1 = k := by omega
 exact ⟨b, by rw [← h3, ← h2]; exact hp, e⟩
def hW (e h : Nat) (ps : List UInt8) (n i : Nat) : List (Nat × List UInt8) := (List.range' i n).map fun i => (2 + 16 * h + i, pageB e i ps)
theorem homeFrom_eq (e h : Nat) (ps : List UInt8) : ∀ n i, homeFrom e h ps n i = wS (hW e h ps n i) ++ .f :: (wS [(e % 2, headB e h)] ++ .f :: [])
 | 0, i => rfl
 | n + 1, i => by rw [homeFrom, homeFrom_eq e h ps n (i + 1)]; rfl
theorem hW_mem {e h n i : Nat} {ps : List UInt8} {p : Nat × List UInt8} (hp : p ∈ hW e h ps n i) : ∃ j, i ≤ j ∧ j < i + n ∧ p = (2 + 16 * h + j, pageB e j ps) := by
 obtain ⟨j, hj, rfl⟩ := List.mem_map.1 hp
 have := List.mem_range'_1.1 hj
 exact ⟨j, this.1, this.2, rfl⟩
theorem hW_has {e h n i j : Nat} {ps : List UInt8} (h1 : i ≤ j) (h2 : j < i + n) : (2 + 16 * h + j, pageB e j ps) ∈ hW e h ps n i := List.mem_map.2 ⟨j, List.mem_range'_1.2 ⟨h1, h2⟩, rfl⟩
def rW (e : Nat) : Nat → List Ch → List (Nat × List UInt8)
 | _, [] => []
 | k, c :: r => (34 + k, recB e k c) :: rW e (k + 1) r
theorem recSteps_eq (e : Nat) : ∀ (l : List Ch) (k : Nat), recSteps e k l = wS (rW e k l) ++ .f :: (wS [(34 + (k + l.length), markB e (k + l.length))] ++ .f :: [])
 | [], k => rfl
 | c :: r, k => by
  rw [recSteps, recSteps_eq e r (k + 1), List.length_cons, show k + 1 + r.length = k + (r.length + 1) by omega]; rfl
theorem rW_mem {e : Nat} : ∀ {l : List Ch} {k : Nat} {p : Nat × List UInt8}, p ∈ rW e k l → ∃ i, ∃ hi : i < l.length, p = (34 + (k + i), recB e (k + i) l[i])
 | [], k, p, h => by simp [rW] at h
 | c :: r, k, p, h => by
  rcases List.mem_cons.1 h with rfl | h
  ·exact ⟨0, by simp, rfl⟩
  ·obtain ⟨i, hi, rfl⟩ := rW_mem h
   exact ⟨i + 1, by rw [List.length_cons]; omega, by rw [show k + 1 + i = k + (i + 1) by omega]; rfl⟩
theorem rW_has {e : Nat} : ∀ {l : List Ch} {k i : Nat} (hi : i < l.length), (34 + (k + i), recB e (k + i) l[i]) ∈ rW e k l
 | c :: r, k, 0, hi => List.mem_cons_self
 | c :: r, k, i + 1, hi => by
  refine List.mem_cons_of_mem _ ?_
  rw [List.length_cons] at hi
  have := rW_has (e := e) (l := r) (k := k + 1) (i := i) (by omega)
  rw [show k + 1 + i = k + (i + 1) by omega] at this
  exact this
structure WInv (N f : Nat) (d : DM) (m : WL) : Prop where
 off : d.off = false
 pend : d.pend = []
 len : d.secs.length = N
 log : LgC (secF f d) m
structure WOff (N f : Nat) (d : DM) : Prop where
 off : d.off = true
 pend : d.pend = []
 len : d.secs.length = N
theorem WInv.opens {N f : Nat} {d : DM} {m : WL} (h : WInv N f d m) (hf : f + 52 ≤ N) (hN : N ≤ 1000) : openM d ((f : Int), 52) = (some m, 0) ∧ ∀ k : Nat, k < 52 → (pread d ((f : Int), 52) (k : Int)).2 = 0 := by
 have hr : ∀ k : Nat, k < 52 → pread d ((f : Int), 52) (k : Int) = (d.cur (f + k), 0) := fun k hk => by
  have e : placeM (f : Int) 52 (k : Int) = (((f + k : Nat) : Int), 0) := place_inN (c := 52) hk (by omega)
  have hib : d.inB ((f + k : Nat) : Int) = true := by simp only [DM.inB, decide_eq_true_eq]; rw [h.len]; omega
  unfold pread
  simp only
  rw [e]
  simp only [if_true]
  unfold DM.read
  rw [if_pos hib, if_neg (by rw [h.off]; decide), Int.toNat_natCast]
 refine ⟨h.log.opens (fun k hk => ?_), fun k hk => by rw [hr k hk]⟩
 unfold sec
 rw [hr k hk, cur_nil h.pend]
 rfl
theorem WInv.home {N f : Nat} {d : DM} {m : WL} (h : WInv N f d m) (hf : f + 52 ≤ N) (hN : N ≤ 1000) (he : m.epoch ≠ 4294967295) :
  ((run ((f : Int), 52) (homeSteps (m.epoch + 1) (1 - m.home) m.pages) d).2 = 0 ∧ WInv N f (run ((f : Int), 52) (homeSteps (m.epoch + 1) (1 - m.home) m.pages) d).1 ⟨m.epoch + 1, 1 - m.home, 0, m.pages, false⟩) ∨
  ((run ((f : Int), 52) (homeSteps (m.epoch + 1) (1 - m.home) m.pages) d).2 = 9 ∧ WOff N f (run ((f : Int), 52) (homeSteps (m.epoch + 1) (1 - m.home) m.pages) d).1 ∧ ∃ m2, m2.pages = m.pages ∧ LgC (secF f (run ((f : Int), 52) (homeSteps (m.epoch + 1) (1 - m.home) m.pages) d).1) m2) := by
 have hlog := h.log
 have hhm := hlog.home
 unfold homeSteps
 rw [homeFrom_eq]
 have hok : ∀ p ∈ hW (m.epoch + 1) (1 - m.home) m.pages 16 0, p.1 < 52 ∧ p.2.length = 64 := fun p hp => by
  obtain ⟨j, _, hj, rfl⟩ := hW_mem hp
  exact ⟨by dsimp only; omega, secW_len (by rw [List.length_append, getP_len hlog.plen (by omega)]; simp)⟩
 rcases run_phase hf hN (wS [((m.epoch + 1) % 2, headB (m.epoch + 1) (1 - m.home))] ++ .f :: []) _ d h.off h.len hok with ⟨d1, a1, a2, a3, a4⟩ | ⟨d1, t, a4⟩
 ·rw [a4]
  rw [h.pend] at a3
  have hl1 : d1.secs.length = N := by rw [a3, layAll_len]; exact h.len
  have hout : ∀ k, k < 52 → (k < 2 + 16 * (1 - m.home) ∨ 2 + 16 * (1 - m.home) + 16 ≤ k) → secF f d1 k = secF f d k := fun k hk ho => by
   refine lay_in a3 h.len (by omega) (fun p hp e => ?_) (.inr rfl)
   obtain ⟨j, _, hj, rfl⟩ := hW_mem hp
   dsimp only at e
   omega
  have hin : ∀ i, i < 16 → secF f d1 (2 + 16 * (1 - m.home) + i) = pageB (m.epoch + 1) i m.pages := fun i hi => by
   refine lay_in a3 h.len (by omega) (fun p hp e => ?_) (.inl ⟨_, hW_has (Nat.zero_le _) (by omega), rfl⟩)
   obtain ⟨j, _, hj, rfl⟩ := hW_mem hp
   dsimp only at e
   have : j = i := by omega
   subst this; rfl
  have hlog1 : LgC (secF f d1) m := hlog.home_any hout
  have hok2 : ∀ p ∈ [((m.epoch + 1) % 2, headB (m.epoch + 1) (1 - m.home))], p.1 < 52 ∧ p.2.length = 64 := fun p hp => by
   rw [List.mem_singleton] at hp
   subst hp
   exact ⟨by dsimp only; omega, secW_len (by simp)⟩
  have hnext : ∀ d2 : DM, secF f d2 ((m.epoch + 1) % 2) = headB (m.epoch + 1) (1 - m.home) → (∀ k, k < 52 → k ≠ (m.epoch + 1) % 2 → secF f d2 k = secF f d1 k) → LgC (secF f d2) ⟨m.epoch + 1, 1 - m.home, 0, m.pages, false⟩ := fun d2 e1 e2 =>
   hlog1.next he (fun i hi => by rw [e2 _ (by omega) (by omega)]; exact hin i hi) e1 (e2 _ (by omega) (by omega)) (fun j hj => e2 _ (by omega) (by omega))
  rcases run_phase hf hN [] _ d1 a1 hl1 hok2 with ⟨d2, b1, b2, b3, b4⟩ | ⟨d2, t, b4⟩
  ·rw [b4]
   rw [a2] at b3
   refine .inl ⟨rfl, b1, b2, by rw [run, b3, layAll_len]; exact hl1, hnext d2 ?_ (fun k hk hne => ?_)⟩
   ·exact lay_in b3 hl1 (by omega) (fun p hp e => by rw [List.mem_singleton] at hp; subst hp; rfl) (.inl ⟨_, List.mem_singleton.2 rfl, rfl⟩)
   ·exact lay_in b3 hl1 (by omega) (fun p hp e => by rw [List.mem_singleton] at hp; subst hp; exact absurd e.symm hne) (.inr rfl)
  ·rw [b4]
   rw [a2] at t
   refine .inr ⟨rfl, ⟨t.off, t.pend, by rw [t.len]; exact hl1⟩, ?_⟩
   have hoth : ∀ k, k < 52 → k ≠ (m.epoch + 1) % 2 → secF f d2 k = secF f d1 k := fun k hk hne => (t.at' k).resolve_right (fun ⟨b, hb, _⟩ => by rw [List.mem_singleton] at hb; cases hb; exact hne rfl)
   rcases t.at' ((m.epoch + 1) % 2) with e | ⟨b, hb, e⟩
   ·refine ⟨m, rfl, hlog1.home_any (fun k hk _ => ?_)⟩
    by_cases hne : k = (m.epoch + 1) % 2
    ·rw [hne]; exact e
    ·exact hoth k hk hne
   ·rw [List.mem_singleton] at hb
    cases hb
    exact ⟨⟨m.epoch + 1, 1 - m.home, 0, m.pages, false⟩, rfl, hnext d2 e hoth⟩
 ·rw [a4]
  rw [h.pend] at t
  refine .inr ⟨rfl, ⟨t.off, t.pend, by rw [t.len]; exact h.len⟩, m, rfl, hlog.home_any (fun k hk ho => ?_)⟩
  refine (t.at' k).resolve_right (fun ⟨b, hb, _⟩ => ?_)
  obtain ⟨j, _, hj, e⟩ := hW_mem hb
  have := (Prod.mk.inj e).1
  omega
theorem WInv.recs {N f : Nat} {d : DM} {m : WL} {l : List Ch} (h : WInv N f d m) (hf : f + 52 ≤ N) (hN : N ≤ 1000) (hl : ∀ ch ∈ l, ch.Ok) (hu : m.used + l.length + 1 ≤ 18) :
  ((run ((f : Int), 52) (recSteps m.epoch m.used l) d).2 = 0 ∧ WInv N f (run ((f : Int), 52) (recSteps m.epoch m.used l) d).1 ⟨m.epoch, m.home, m.used + l.length + 1, applyL m.pages l, false⟩) ∨
  ((run ((f : Int), 52) (recSteps m.epoch m.used l) d).2 = 9 ∧ WOff N f (run ((f : Int), 52) (recSteps m.epoch m.used l) d).1 ∧ ∃ m2, (m2.pages = m.pages ∨ m2.pages = applyL m.pages l) ∧ LgC (secF f (run ((f : Int), 52) (recSteps m.epoch m.used l) d).1) m2) := by
 have hlog := h.log
 rw [recSteps_eq]
 have hok : ∀ p ∈ rW m.epoch m.used l, p.1 < 52 ∧ p.2.length = 64 := fun p hp => by
  obtain ⟨j, hj, rfl⟩ := rW_mem hp
  exact ⟨by dsimp only; omega, secW_len (by rw [List.length_append, (hl _ (List.getElem_mem hj)).2.2]; simp)⟩
 have hval : ∀ (i : Nat) (hi : i < l.length), ∀ p ∈ rW m.epoch m.used l, p.1 = 34 + (m.used + i) → p.2 = recB m.epoch (m.used + i) l[i] := fun i hi p hp e => by
  obtain ⟨j, hj, rfl⟩ := rW_mem hp
  dsimp only at e
  have : j = i := by omega
  subst this; rfl
 rcases run_phase hf hN (wS [(34 + (m.used + l.length), markB m.epoch (m.used + l.length))] ++ .f :: []) _ d h.off h.len hok with ⟨d1, a1, a2, a3, a4⟩ | ⟨d1, t, a4⟩
 ·rw [a4]
  rw [h.pend] at a3
  have hl1 : d1.secs.length = N := by rw [a3, layAll_len]; exact h.len
  have hin : ∀ i (hi : i < l.length), secF f d1 (34 + (m.used + i)) = recB m.epoch (m.used + i) l[i] := fun i hi => lay_in a3 h.len (by omega) (hval i hi) (.inl ⟨_, rW_has hi, rfl⟩)
  have hlog1 : LgC (secF f d1) m := hlog.recs_any hl hu (fun k hk => by
   by_cases hex : ∃ i, i < l.length ∧ k = 34 + (m.used + i)
   ·obtain ⟨i, hi, rfl⟩ := hex
    exact .inr ⟨i, hi, rfl, hin i hi⟩
   ·refine .inl (lay_in a3 h.len (by omega) (fun p hp e => ?_) (.inr rfl))
    obtain ⟨j, hj, rfl⟩ := rW_mem hp
    exact absurd ⟨j, hj, e.symm⟩ hex)
  have hok2 : ∀ p ∈ [(34 + (m.used + l.length), markB m.epoch (m.used + l.length))], p.1 < 52 ∧ p.2.length = 64 := fun p hp => by
   rw [List.mem_singleton] at hp
   subst hp
   exact ⟨by dsimp only; omega, secW_len (by simp)⟩
  have hnext : ∀ d2 : DM, secF f d2 (34 + (m.used + l.length)) = markB m.epoch (m.used + l.length) → (∀ k, k < 52 → k ≠ 34 + (m.used + l.length) → secF f d2 k = secF f d1 k) → LgC (secF f d2) ⟨m.epoch, m.home, m.used + l.length + 1, applyL m.pages l, false⟩ := fun d2 e1 e2 => hlog1.mark hl hu hin e1 e2
  rcases run_phase hf hN [] _ d1 a1 hl1 hok2 with ⟨d2, b1, b2, b3, b4⟩ | ⟨d2, t, b4⟩
  ·rw [b4]
   rw [a2] at b3
   refine .inl ⟨rfl, b1, b2, by rw [run, b3, layAll_len]; exact hl1, hnext d2 ?_ (fun k hk hne => ?_)⟩
   ·exact lay_in b3 hl1 (by omega) (fun p hp e => by rw [List.mem_singleton] at hp; subst hp; rfl) (.inl ⟨_, List.mem_singleton.2 rfl, rfl⟩)
   ·exact lay_in b3 hl1 (by omega) (fun p hp e => by rw [List.mem_singleton] at hp; subst hp; exact absurd e.symm hne) (.inr rfl)
  ·rw [b4]
   rw [a2] at t
   refine .inr ⟨rfl, ⟨t.off, t.pend, by rw [t.len]; exact hl1⟩, ?_⟩
   have hoth : ∀ k, k < 52 → k ≠ 34 + (m.used + l.length) → secF f d2 k = secF f d1 k := fun k hk hne => (t.at' k).resolve_right (fun ⟨b, hb, _⟩ => by rw [List.mem_singleton] at hb; cases hb; exact hne rfl)
   rcases t.at' (34 + (m.used + l.length)) with e | ⟨b, hb, e⟩
   ·refine ⟨m, .inl rfl, hlog1.home_any (fun k hk _ => ?_)⟩
    by_cases hne : k = 34 + (m.used + l.length)
    ·rw [hne]; exact e
    ·exact hoth k hk hne
   ·rw [List.mem_singleton] at hb
    cases hb
    exact ⟨_, .inr rfl, hnext d2 e hoth⟩
 ·rw [a4]
  rw [h.pend] at t
  refine .inr ⟨rfl, ⟨t.off, t.pend, by rw [t.len]; exact h.len⟩, m, .inl rfl, hlog.recs_any hl hu (fun k hk => ?_)⟩
  refine (t.at' k).imp id (fun ⟨b, hb, e⟩ => ?_)
  obtain ⟨j, hj, e'⟩ := rW_mem hb
  cases e'
  exact ⟨j, hj, rfl, e⟩
def nextL (ps : List UInt8) (l : List Ch) : List UInt8 := if validM l = true then applyL ps l else ps
def Ends (N f : Nat) (d : DM) (m : WL) (l : List Ch) (r : DM × WL × Int) : Prop :=
 (r.2.2 = 0 ∧ WInv N f r.1 r.2.1 ∧ r.2.1.pages = nextL m.pages l) ∨ ((r.2.2 = 1 ∨ r.2.2 = 5) ∧ r.1 = d ∧ r.2.1 = m) ∨
 (r.2.2 = 9 ∧ WOff N f r.1 ∧ r.2.1.pages = m.pages ∧ r.2.1.pages.length = 640 ∧ ∃ m2, (m2.pages = m.pages ∨ m2.pages = nextL m.pages l) ∧ LgC (secF f r.1) m2)
theorem WInv.recM {N f : Nat} {d : DM} {m : WL} {l : List Ch} (h : WInv N f d m) (hf : f + 52 ≤ N) (hN : N ≤ 1000) (hv : validM l = true) (hu : m.used + l.length + 1 ≤ 18) : ((recM d ((f : Int), 52) m l).2.2 = 0 ∧ WInv N f (recM d ((f : Int), 52) m l).1 (recM d ((f : Int), 52) m l).2.1 ∧ (recM d ((f : Int), 52) m l).2.1.pages = nextL m.pages l) ∨ ((recM d ((f : Int), 52) m l).2.2 = 9 ∧ WOff N f (recM d ((f : Int), 52) m l).1 ∧ (recM d ((f : Int), 52) m l).2.1.pages = m.pages ∧ (recM d ((f : Int), 52) m l).2.1.pages.length = 640 ∧ ∃ m2, (m2.pages = m.pages ∨ m2.pages = nextL m.pages l) ∧ LgC (secF f (recM d ((f : Int), 52) m l).1) m2) := by
 have hl := (validM_ok hv).2
 have hn : nextL m.pages l = applyL m.pages l := if_pos hv
 unfold Go.Proofs.YtgilmcpdpggikaaGreatDoor.recM
 rcases h.recs hf hN hl hu with ⟨h1, h2⟩ | ⟨h1, h2, m2, h3, h4⟩
 ·rw [if_pos h1]; exact .inl ⟨rfl, h2, hn.symm⟩
 ·rw [if_neg (by rw [h1]; decide)]; exact .inr ⟨h1, h2, rfl, h.log.plen, m2, by rw [hn]; exact h3, h4⟩
theorem WInv.commit {N f : Nat} {d : DM} {m : WL} (l : List Ch) (h : WInv N f d m) (hf : f + 52 ≤ N) (hN : N ≤ 1000) : Ends N f d m l (commitM d ((f : Int), 52) m l) := by
 have hd := h.log.dead
 unfold commitM
 rw [if_neg (by rw [hd]; decide)]
 by_cases hv : validM l = false
 ·rw [if_pos hv]; exact .inr (.inl ⟨.inl rfl, rfl, rfl⟩)
 rw [if_neg hv]
 have hv1 : validM l = true := by cases hq : validM l with | true => rfl | false => exact absurd hq hv
 have hn : nextL m.pages l = applyL m.pages l := if_pos hv1
 obtain ⟨hv16, hok⟩ := validM_ok hv1
 by_cases hl : l.length = 0
 ·rw [if_pos hl]
  have : l = [] := List.length_eq_zero_iff.1 hl
  subst this
  exact .inl ⟨rfl, h, hn.symm⟩
 rw [if_neg hl]
 by_cases hfull : 18 < m.used + l.length + 1
 ·rw [if_pos hfull]
  by_cases hmax : m.epoch = 4294967295
  ·rw [if_pos hmax]; exact .inr (.inl ⟨.inr rfl, rfl, rfl⟩)
  rw [if_neg hmax]
  rcases h.home hf hN hmax with ⟨h1, h2⟩ | ⟨h1, h2, m2, h3, h4⟩
  ·rw [if_pos h1]
   exact (h2.recM hf hN hv1 (by dsimp only; omega)).imp id .inr
  ·rw [if_neg (by rw [h1]; decide)]; exact .inr (.inr ⟨h1, h2, rfl, h.log.plen, m2, .inl h3, h4⟩)
 ·rw [if_neg hfull]
  exact (h.recM hf hN hv1 (by omega)).imp id .inr
end Go.Proofs.YtgilmcpdpggikaaGreatDoor

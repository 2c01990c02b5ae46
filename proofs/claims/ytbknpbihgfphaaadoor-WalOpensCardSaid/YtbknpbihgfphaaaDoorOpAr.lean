/- What the reading of an argument gives: slices, structs, numbers; over any program. An extent among the arguments. law16: acts as arguments; WalConfined, plain. law16: pages, walked. audit: the plain law of power failures. -/
import Derived.Test.YtbknpbihgfphaaaDoorOpK2
import Derived.ProofKit
import Derived.SizedLaws
import Derived.OpenShut
import Derived.Deep.Slices
import Derived.Test.YtbknpbihgfphaaaDoorOpEx
import Derived.Test.YtbknpbihgfphaaaDoorOpWl
import Derived.Test.YtbknpbihgfphaaaDoorOpKd
set_option linter.unusedSimpArgs false
set_option linter.unusedVariables false
namespace Go.Own
open Go Go.RowKit
/-- the cells cs read as a value of type t, each slice and string within the form's reach -/
def Rdg (P : Program) (w : World) (t : TypeId) (cs : List Value) : Prop :=
  ∃ (H : Type) (enc : TypeId × Value → H) (fuel : Nat) (x : DataW H × List MemPlace), DataW.trod enc P w 0 (fun _ => true) true fuel t cs = some x ∧ ∀ n ∈ x.1.weights P t, n ≤ reachBytes
section
variable {P : Program} {w : World} {t e : TypeId} {cs : List Value}
theorem rdg_int {k : IntKind} (hu : P.underlying t = some (.int k)) (h : Rdg P w t cs) : ∃ n, cs = [.int k n] ∧ (Lit.int k n).wf = true := by
  obtain ⟨H, enc, fuel, x, h, _⟩ := h
  cases fuel with
  | zero => simp [DataW.trod] at h
  | succ f =>
    unfold DataW.trod at h
    rw [hu] at h
    split at h <;> simp_all
theorem rdg_bool (hu : P.underlying t = some .bool) (h : Rdg P w t cs) : ∃ b, cs = [.bool b] := by
  obtain ⟨H, enc, fuel, x, h, _⟩ := h
  cases fuel with
  | zero => simp [DataW.trod] at h
  | succ f =>
    unfold DataW.trod at h
    rw [hu] at h
    split at h <;> simp_all
theorem add_add (a : Addr) (m j : Nat) : (a.add m).add j = a.add (m + j) := by
  unfold Addr.add
  by_cases hm : m = 0
  · simp [hm]
  · by_cases hj : j = 0
    · simp [hj]
    · rw [if_neg hm, if_neg hj, if_neg (by omega)]
      simp [Nat.add_assoc]
theorem weights_all {H : Type} {l : List (DataW H)} {d : DataW H} (h : d ∈ l) {n : Nat} (hn : n ∈ d.weights P e) : n ∈ DataW.weightsAll P e l := by
  induction l with
  | nil => cases h
  | cons x r ih =>
    simp only [DataW.weightsAll, List.mem_append]
    rcases List.mem_cons.1 h with rfl | h
    · exact .inl hn
    · exact .inr (ih h)
theorem rdg_slice (hu : P.underlying t = some (.slice e)) (h : Rdg P w t cs) : cs = [.slice none 0 0] ∨
    ∃ a len cap, cs = [.slice (some a) len cap] ∧ len ≤ cap ∧ cap ≤ maxLen ∧ cap * P.bytesOf e ≤ reachBytes ∧
      ∀ i, i < len → ∃ cs', cs'.length = P.cellsOf e ∧ (∀ j, j < P.cellsOf e → w.cell? (a.add (i * P.cellsOf e + j)) = cs'[j]?) ∧ Rdg P w e cs' := by
  obtain ⟨H, enc, fuel, x, h, hw⟩ := h
  rcases Deep.open_slice hu h with ⟨h0, _⟩ | ⟨a, len, cap, m, n, D, Pl, rfl, _, hl, hm, hmm, rfl, hx⟩
  · exact .inl h0
  · right
    simp only [if_true] at hmm
    subst hmm
    simp only [DataW.weights, hu] at hw
    refine ⟨a, len, m, rfl, hl, hm, ?_, fun i hi => ?_⟩
    · have := hw _ (by simp; exact Or.inl rfl)
      rw [show len + (m - len) = m by omega] at this
      exact this
    · obtain ⟨cs', h1, h2⟩ := hx i (by omega)
      obtain ⟨_, hlen, hc⟩ := World.cells?_some h1
      refine ⟨cs', hlen, fun j hj => by rw [← add_add]; exact hc j hj, H, enc, n, (D i, Pl i), h2, fun q hq => hw q ?_⟩
      simp only [List.mem_cons, List.mem_append]
      refine .inr (.inl (weights_all (d := D i) ?_ hq))
      exact List.mem_map.2 ⟨i, List.mem_range.2 hi, rfl⟩
theorem rdg_struct {fs : Array Field} (hu : P.underlying t = some (.struct fs)) (h : Rdg P w t cs) : cs.length = P.cellsOf t ∧
    ∀ (j : Nat) f, fs[j]? = some f → Rdg P w f.type ((cs.drop f.offset).take (P.cellsOf f.type)) := by
  obtain ⟨H, enc, fuel, x, h, hw⟩ := h
  cases fuel with
  | zero => simp [DataW.trod] at h
  | succ n =>
    unfold DataW.trod at h
    rw [hu] at h
    simp only [] at h
    split at h
    · rename_i hl
      rw [Option.map_eq_some_iff] at h
      obtain ⟨xs, hxs, rfl⟩ := h
      refine ⟨hl, fun j f hf => ?_⟩
      have hj := mapM_some_get hxs j f (by simpa using hf)
      have hlen := mapM_some_length hxs
      have hjl : j < xs.length := by
        have : j < fs.size := (Array.getElem?_eq_some_iff.1 hf).1
        simp at hlen; omega
      rw [List.getElem?_eq_getElem hjl] at hj
      refine ⟨H, enc, n, xs[j], hj, fun q hq => hw q ?_⟩
      simp only [DataW.weights, hu]
      refine DataW.weights_mem_each (j := j) (t := f.type) (d := xs[j].1) ?_ ?_ q hq
      · simp [hf]
      · simp [hjl]
    · cases h
theorem exists_list {α : Type} {p : Nat → α → Prop} : ∀ (n : Nat), (∀ i, i < n → ∃ x, p i x) → ∃ l : List α, l.length = n ∧ ∀ i (h : i < l.length), p i l[i]
  | 0, _ => ⟨[], rfl, fun i h => absurd h (by simp)⟩
  | n + 1, h => by
    obtain ⟨l, hl, hp⟩ := exists_list n (fun i hi => h i (by omega))
    obtain ⟨x, hx⟩ := h n (by omega)
    refine ⟨l ++ [x], by simp [hl], fun i hi => ?_⟩
    by_cases hin : i < l.length
    · rw [List.getElem_append_left hin]; exact hp i hin
    · have : i = n := by simp at hi; omega
      subst this
      rw [List.getElem_append_right (by omega)]
      simp only [hl, Nat.sub_self, List.getElem_cons_zero]
      exact hx
theorem flatMap_get {α : Type} {f : α → List Value} {sz : Nat} (hpos : 0 < sz) : ∀ (l : List α), (∀ x ∈ l, (f x).length = sz) → ∀ (j : Nat) (v : Value), (l.flatMap f)[j]? = some v → ∃ (h : j / sz < l.length), (f l[j / sz])[j % sz]? = some v
  | [], _, j, v, h => by simp at h
  | x :: l, hf, j, v, h => by
    have hx := hf x (by simp)
    rw [List.flatMap_cons] at h
    by_cases hj : j < sz
    · rw [List.getElem?_append_left (by omega)] at h
      have e1 : j / sz = 0 := Nat.div_eq_of_lt hj
      have e2 : j % sz = j := Nat.mod_eq_of_lt hj
      refine ⟨by rw [e1]; simp, ?_⟩
      simp only [e1, e2, List.getElem_cons_zero]
      exact h
    · rw [List.getElem?_append_right (by omega), hx] at h
      obtain ⟨h1, h2⟩ := flatMap_get hpos l (fun y hy => hf y (by simp [hy])) (j - sz) v h
      have e1 : j / sz = (j - sz) / sz + 1 := by
        rw [Nat.div_eq_sub_div hpos (by omega)]
      have e2 : j % sz = (j - sz) % sz := by rw [Nat.mod_eq_sub_mod (by omega)]
      refine ⟨by rw [e1]; simp; exact h1, ?_⟩
      simp only [e1, e2, List.getElem_cons_succ]
      exact h2
theorem flatMap_len {α : Type} {f : α → List Value} {sz : Nat} : ∀ (l : List α), (∀ x ∈ l, (f x).length = sz) → (l.flatMap f).length = l.length * sz
  | [], _ => by simp
  | x :: l, hf => by
    rw [List.flatMap_cons, List.length_append, hf x (by simp), flatMap_len l (fun y hy => hf y (by simp [hy]))]
    simp [Nat.add_mul]; omega
/-- a slice of elements that each read as data: as a list -/
theorem rdg_list {α : Type} (f : α → List Value) (p : α → Prop) {v : Value} (hu : P.underlying t = some (.slice e)) (hsz : 0 < P.cellsOf e) (hone : ∀ cs', cs'.length = P.cellsOf e → Rdg P w e cs' → ∃ x, f x = cs' ∧ p x) (h : Rdg P w t [v]) :
    ∃ l : List α, Sl w v (P.cellsOf e) l.length (l.flatMap f) ∧ (∀ x ∈ l, p x ∧ (f x).length = P.cellsOf e) ∧ l.length * P.bytesOf e ≤ reachBytes := by
  rcases rdg_slice hu h with h0 | ⟨a, len, cap, hv, hl, hm, hb, hel⟩
  · cases h0
    exact ⟨[], ⟨none, 0, rfl, by simp, Nat.le_refl _, Nat.zero_le _, fun j x hx => by simp at hx⟩, by simp, by simp⟩
  · cases hv
    have hch : ∀ i, i < len → ∃ x : α, (f x).length = P.cellsOf e ∧ (∀ j, j < P.cellsOf e → w.cell? (a.add (i * P.cellsOf e + j)) = (f x)[j]?) ∧ p x := fun i hi => by
      obtain ⟨cs', h1, h2, h3⟩ := hel i hi
      obtain ⟨x, hx, hp⟩ := hone cs' h1 h3
      exact ⟨x, by rw [hx]; exact h1, by rw [hx]; exact h2, hp⟩
    obtain ⟨l, hll, hp⟩ := exists_list len hch
    have hflen : ∀ x ∈ l, (f x).length = P.cellsOf e := fun x hx => by
      obtain ⟨i, hi, rfl⟩ := List.mem_iff_getElem.1 hx; exact (hp i hi).1
    refine ⟨l, ⟨some a, cap, by rw [hll], flatMap_len l hflen, by omega, hm, fun j v hv => ⟨a, rfl, ?_⟩⟩, fun x hx => ⟨?_, hflen x hx⟩, ?_⟩
    · obtain ⟨h1, h2⟩ := flatMap_get hsz l hflen j v hv
      have := (hp _ h1).2.1 (j % P.cellsOf e) (Nat.mod_lt _ hsz)
      rw [show j / P.cellsOf e * P.cellsOf e + j % P.cellsOf e = j by rw [Nat.mul_comm]; exact Nat.div_add_mod j _] at this
      rw [this]; exact h2
    · obtain ⟨i, hi, rfl⟩ := List.mem_iff_getElem.1 hx; exact (hp i hi).2.2
    · rw [hll]; exact Nat.le_trans (Nat.mul_le_mul_right _ hl) hb
theorem flatMap_one {α : Type} (f : α → Value) : ∀ (l : List α), l.flatMap (fun x => [f x]) = l.map f
  | [] => rfl
  | x :: l => by rw [List.flatMap_cons, flatMap_one f l]; rfl
theorem rdg_bools {v : Value} (hu : P.underlying t = some (.slice e)) (he : P.underlying e = some .bool) (hc : P.cellsOf e = 1) (hb : P.bytesOf e = 1) (h : Rdg P w t [v]) :
    ∃ l : List Bool, Sl w v 1 l.length (l.map Value.bool) ∧ l.length ≤ reachBytes := by
  obtain ⟨l, h1, _, h3⟩ := rdg_list (fun b : Bool => [Value.bool b]) (fun _ => True) hu (by rw [hc]; decide) (fun cs' _ h => by
    obtain ⟨b, rfl⟩ := rdg_bool he h; exact ⟨b, rfl, trivial⟩) h
  rw [hc] at h1
  rw [hb, Nat.mul_one] at h3
  refine ⟨l, ?_, h3⟩
  rwa [flatMap_one] at h1
theorem rdg_ints {v : Value} {k : IntKind} (hu : P.underlying t = some (.slice e)) (he : P.underlying e = some (.int k)) (hc : P.cellsOf e = 1) (h : Rdg P w t [v]) :
    ∃ l : List Int, Sl w v 1 l.length (l.map (Value.int k)) ∧ (∀ n ∈ l, (Lit.int k n).wf = true) ∧ l.length * P.bytesOf e ≤ reachBytes := by
  obtain ⟨l, h1, h2, h3⟩ := rdg_list (fun n : Int => [Value.int k n]) (fun n => (Lit.int k n).wf = true) hu (by rw [hc]; decide) (fun cs' _ h => by
    obtain ⟨n, rfl, hw⟩ := rdg_int he h; exact ⟨n, rfl, hw⟩) h
  rw [hc] at h1
  refine ⟨l, ?_, fun n hn => (h2 n hn).1, h3⟩
  rwa [flatMap_one] at h1
theorem wf_i64 {n : Int} (h : (Lit.int .i64 n).wf = true) : -9223372036854775808 ≤ n ∧ n ≤ 9223372036854775807 := bounds_i64 h
theorem wf_u8 {n : Int} (h : (Lit.int .u8 n).wf = true) : ∃ x : UInt8, Value.int .u8 n = u8 x := by
  have := bounds_u8 h
  refine ⟨UInt8.ofNat n.toNat, ?_⟩
  unfold u8
  congr 1
  rw [UInt8.toNat_ofNat']
  omega
end
end Go.Own
set_option linter.unusedSimpArgs false
set_option linter.unusedVariables false
namespace Go.Proofs.YtbknpbihgfphaaaDoor
open Go Go.RowKit Go.Own
open Go.ChangeShapes Go.WideShapes Go.ChangeAt
theorem rdg_field {P : Program} {w : World} {t : TypeId} {cs : List Value} {fs : Array Field} (hu : P.underlying t = some (.struct fs)) (h : Rdg P w t cs) (j : Nat) (ft : TypeId) (off sz : Nat) (hf : (fs[j]?).map (fun f => (f.type, f.offset)) = some (ft, off)) (hs : P.cellsOf ft = sz) : Rdg P w ft ((cs.drop off).take sz) := by
  obtain ⟨_, h2⟩ := rdg_struct hu h
  rw [Option.map_eq_some_iff] at hf
  obtain ⟨f, h3, h4⟩ := hf
  cases h4
  have := h2 j f h3
  rwa [hs] at this
theorem reach_le : reachBytes ≤ 140737488351232 := by decide
end Go.Proofs.YtbknpbihgfphaaaDoor
set_option linter.unusedSimpArgs false
set_option linter.unusedVariables false
namespace Go.Proofs.YtbknpbihgfphaaaDoor
open Go Go.RowKit Go.Own
open Go.ChangeShapes Go.WideShapes Go.ChangeAt
structure Act16 where
  do_ : Int
  n : Int
  at_ : Int
  off : Int
  fill : UInt8
  keepv : Value
  keep : List Bool
def Act16.cells (a : Act16) : List Value := [.int .i64 a.do_, .int .i64 a.n, .int .i64 a.at_, .int .i64 a.off, .int .u8 (a.fill.toNat : Int), a.keepv]
structure Act16.Ok (s : Ro) (a : Act16) : Prop where
  keep : SlS s a.keepv 1 a.keep.length (a.keep.map Value.bool)
  klen : a.keep.length ≤ 140737488351232
  hn : I64 a.n
  ha : I64 a.at_
theorem Act16.Ok.mono {s s' : Ro} {a : Act16} (h : a.Ok s) (hs : s.Le s') : a.Ok s' := ⟨h.keep.mono hs, h.klen, h.hn, h.ha⟩
set_option maxRecDepth 100000 in
theorem act16_of {w : World} (cs : List Value) (hl : cs.length = Tryd.prog.cellsOf 78) (h : Rdg Tryd.prog w 78 cs) : ∃ x : Act16, x.cells = cs ∧ x.Ok (startRo w) := by
  have hl6 : cs.length = 6 := hl.trans (by kernel_rfl)
  match cs, hl6 with
  | [c0, c1, c2, c3, c4, c5], _ =>
    have f0 : Rdg Tryd.prog w 3 [c0] := rdg_field Tryd.underlying78 h 0 3 0 1 rfl (by kernel_rfl)
    have f1 : Rdg Tryd.prog w 3 [c1] := rdg_field Tryd.underlying78 h 1 3 1 1 rfl (by kernel_rfl)
    have f2 : Rdg Tryd.prog w 3 [c2] := rdg_field Tryd.underlying78 h 2 3 2 1 rfl (by kernel_rfl)
    have f3 : Rdg Tryd.prog w 3 [c3] := rdg_field Tryd.underlying78 h 3 3 3 1 rfl (by kernel_rfl)
    have f4 : Rdg Tryd.prog w 5 [c4] := rdg_field Tryd.underlying78 h 4 5 4 1 rfl (by kernel_rfl)
    have f5 : Rdg Tryd.prog w 44 [c5] := rdg_field Tryd.underlying78 h 5 44 5 1 rfl (by kernel_rfl)
    obtain ⟨n0, e0, w0⟩ := rdg_int Tryd.underlying3 f0
    obtain ⟨n1, e1, w1⟩ := rdg_int Tryd.underlying3 f1
    obtain ⟨n2, e2, w2⟩ := rdg_int Tryd.underlying3 f2
    obtain ⟨n3, e3, w3⟩ := rdg_int Tryd.underlying3 f3
    obtain ⟨n4, e4, w4⟩ := rdg_int Tryd.underlying5 f4
    obtain ⟨x, hx⟩ := wf_u8 w4
    obtain ⟨kp, k1, k2⟩ := rdg_bools Tryd.underlying44 Tryd.underlying4 (by kernel_rfl) (by kernel_rfl) f5
    cases e0; cases e1; cases e2; cases e3; cases e4
    refine ⟨⟨n0, n1, n2, n3, x, c5, kp⟩, ?_, SlS.start k1, Nat.le_trans k2 reach_le, wf_i64 w1, wf_i64 w2⟩
    unfold Act16.cells
    rw [hx]; rfl
theorem acts16_of {w : World} {v : Value} (h : Rdg Tryd.prog w 68 [v]) : ∃ l : List Act16, SlS (startRo w) v 6 l.length (l.flatMap Act16.cells) ∧ ∀ a ∈ l, a.Ok (startRo w) := by
  obtain ⟨acts, ha1, ha2, _⟩ := rdg_list Act16.cells (Act16.Ok (startRo w)) Tryd.underlying68 (by rw [show Tryd.prog.cellsOf 78 = 6 by kernel_rfl]; decide) (fun cs' hl h => act16_of cs' hl h) h
  rw [show Tryd.prog.cellsOf 78 = 6 by kernel_rfl] at ha1
  exact ⟨acts, SlS.start ha1, fun a h => (ha2 a h).1⟩
theorem effS_out (f : Nat) {k : Nat} (hk : k < f ∨ f + 52 ≤ k) : ∀ (l : List St) (c : Nat → List UInt8), l.all okS = true → effS f l c k = c k
  | [], c, _ => rfl
  | .w a b :: r, c, h => by
    rw [List.all_cons, Bool.and_eq_true] at h
    have ha := h.1
    unfold okS at ha
    rw [Bool.and_eq_true, decide_eq_true_eq] at ha
    have := effS_out f hk r (fun j => if j = f + a then b else c j) h.2
    refine this.trans ?_
    rw [if_neg (by omega)]
  | .f :: r, c, h => by
    rw [List.all_cons, Bool.and_eq_true] at h
    exact effS_out f hk r c h.2
theorem home_ok {e h : Nat} {ps : List UInt8} (hh : h ≤ 1) (hl : ps.length = 640) : ∀ n i, i + n ≤ 16 → (homeFrom e h ps n i).all okS = true
  | 0, i, _ => by
    have h1 : (headB e h).length = 64 := secW_len (by simp)
    have h2 : e % 2 < 52 := by omega
    simp [homeFrom, okS, h1, h2]
  | n + 1, i, hi => by
    have h1 : (pageB e i ps).length = 64 := secW_len (by rw [List.length_append, getP_len hl (by omega)]; simp)
    have h2 : 2 + 16 * h + i < 52 := by omega
    rw [homeFrom, List.all_cons, home_ok hh hl n (i + 1) (by omega)]
    simp [okS, h1, h2]
theorem rec_ok {e : Nat} : ∀ (l : List Ch) (u : Nat), u + l.length + 1 ≤ 18 → (∀ c ∈ l, c.Ok) → (recSteps e u l).all okS = true
  | [], u, hu, _ => by
    have h1 : (markB e u).length = 64 := secW_len (by simp)
    have h2 : 34 + u < 52 := by simp at hu; omega
    simp [recSteps, okS, h1, h2]
  | c :: r, u, hu, hc => by
    have h0 := hc c (by simp)
    have h1 : (recB e u c).length = 64 := secW_len (by rw [List.length_append, h0.2.2]; simp)
    have h2 : 34 + u < 52 := by rw [List.length_cons] at hu; omega
    rw [recSteps, List.all_cons, rec_ok r (u + 1) (by rw [List.length_cons] at hu; omega) (fun c hc' => hc c (by simp [hc']))]
    simp [okS, h1, h2]
/-- a log without a failure, on a free disk -/
structure GoodW (f : Nat) (d : DM) (m : WL) : Prop where
  fr : Fr0 60 d
  out : ∀ k, k < 60 → (k < f ∨ f + 52 ≤ k) → d.cur k = List.replicate 64 0
  ep : m.epoch < 2 ^ 32
  home : m.home ≤ 1
  used : m.used ≤ 18
  pages : m.pages.length = 640
  dead : m.dead = false
theorem GoodW.record {f : Nat} {d : DM} {m : WL} {l : List Ch} (h : GoodW f d m) (hf : f + 52 ≤ 60) (hu : m.used + l.length + 1 ≤ 18) (hok : ∀ c ∈ l, c.Ok) : GoodW f (recM d ((f : Int), 52) m l).1 (recM d ((f : Int), 52) m l).2.1 := by
  have hr := rec_ok (e := m.epoch) l m.used hu hok
  obtain ⟨h1, h2, h3⟩ := run_free hf _ h.fr hr
  unfold recM
  rw [if_pos h1]
  exact ⟨h2, fun k hk ho => by rw [h3 k hk, effS_out f ho _ _ hr]; exact h.out k hk ho, h.ep, h.home, hu, applyL_len hok h.pages, rfl⟩
theorem GoodW.commit {f : Nat} {d : DM} {m : WL} (l : List Ch) (h : GoodW f d m) (hf : f + 52 ≤ 60) : GoodW f (commitM d ((f : Int), 52) m l).1 (commitM d ((f : Int), 52) m l).2.1 := by
  have hd := h.dead
  unfold commitM
  rw [if_neg (by rw [hd]; decide)]
  by_cases hv : validM l = false
  · rw [if_pos hv]; exact h
  rw [if_neg hv]
  obtain ⟨hv16, hok⟩ := validM_ok (l := l) (by cases hq : validM l with | true => rfl | false => exact absurd hq hv)
  by_cases hl : l.length = 0
  · rw [if_pos hl]; exact h
  rw [if_neg hl]
  by_cases hfull : 18 < m.used + l.length + 1
  · rw [if_pos hfull]
    by_cases hmax : m.epoch = 4294967295
    · rw [if_pos hmax]; exact h
    rw [if_neg hmax]
    have hep := h.ep
    have hr : (homeSteps (m.epoch + 1) (1 - m.home) m.pages).all okS = true := home_ok (by omega) h.pages 16 0 (by decide)
    obtain ⟨h1, h2, h3⟩ := run_free hf _ h.fr hr
    rw [if_pos h1]
    refine GoodW.record ⟨h2, fun k hk ho => by rw [h3 k hk, effS_out f ho _ _ hr]; exact h.out k hk ho, by dsimp only; omega, by dsimp only; omega, Nat.zero_le _, h.pages, rfl⟩ hf (by dsimp only; omega) hok
  · rw [if_neg hfull]
    exact h.record hf (by omega) hok
end Go.Proofs.YtbknpbihgfphaaaDoor
set_option linter.unusedSimpArgs false
set_option linter.unusedVariables false
namespace Go.Proofs.YtbknpbihgfphaaaDoor
open Go Go.RowKit Go.Own
section
variable {s : Ro} {w : World} {R : List Asn}
theorem take_page {ps : List UInt8} {i : Nat} : ps.take (i * 40) ++ getP ps i = ps.take ((i + 1) * 40) := by
  unfold getP
  rw [show (i + 1) * 40 = i * 40 + 40 by omega, List.take_add]
end
end Go.Proofs.YtbknpbihgfphaaaDoor
set_option linter.unusedSimpArgs false
set_option linter.unusedVariables false
namespace Go.Proofs.YtbknpbihgfphaaaDoor
open Go Go.RowKit Go.Own
theorem layS_get : ∀ (s : List (List UInt8)) (ps : List (Nat × List UInt8)) (sv : List Bool) (k : Nat), (layS s ps sv)[k]?.getD [] = s[k]?.getD [] ∨ ∃ b, (k, b) ∈ ps ∧ (layS s ps sv)[k]?.getD [] = b
  | s, [], sv, k => .inl (by rw [layS])
  | s, p :: ps, [], k => .inl (by rw [layS])
  | s, p :: ps, b :: bs, k => by
    rw [layS]
    rcases layS_get (if b then s.set p.1 p.2 else s) ps bs k with h | ⟨x, hx, h⟩
    · rw [h]
      cases b with
      | false => exact .inl rfl
      | true =>
        simp only [if_true]
        by_cases hk : p.1 = k
        · subst hk
          by_cases hl : p.1 < s.length
          · exact .inr ⟨p.2, by simp, by rw [List.getElem?_set_self hl]; rfl⟩
          · exact .inl (by rw [List.set_eq_of_length_le (by omega)])
        · exact .inl (by rw [List.getElem?_set_ne hk])
    · exact .inr ⟨x, List.mem_cons_of_mem _ hx, h⟩
theorem powered_on {d : DM} (h : d.off = false) : (d.powered.2 = true ∧ d.powered.1.off = false ∧ d.powered.1.secs = d.secs ∧ d.powered.1.pend = d.pend) ∨ (d.powered.2 = false ∧ d.powered.1.off = true ∧ d.powered.1.pend = [] ∧ ∃ sv, d.powered.1.secs = layS d.secs d.pend sv) := by
  unfold DM.powered
  cases ha : d.armed with
  | false => simp [h]
  | true =>
    by_cases hl : d.left = 0
    · right; simp [h, hl, DM.crash]; exact ⟨_, rfl⟩
    · left; simp [h, hl]
theorem cur_nil {d : DM} (h : d.pend = []) (k : Nat) : d.cur k = d.sec k := by simp [DM.cur, h]
/-- a write into a part of a disk that is on -/
theorem pwrite_on {N : Nat} {d : DM} (ho : d.off = false) (hl : d.secs.length = N) {f c n : Nat} {l : List UInt8} (hn : n < c) (hf : f + c ≤ N) (hN : N ≤ 1000) (h64 : l.length = 64) :
    ((pwrite d ((f : Int), (c : Int)) (n : Int) l).2 = 0 ∧ (pwrite d ((f : Int), (c : Int)) (n : Int) l).1.off = false ∧ (pwrite d ((f : Int), (c : Int)) (n : Int) l).1.secs = d.secs ∧ (pwrite d ((f : Int), (c : Int)) (n : Int) l).1.pend = d.pend ++ [(f + n, l)]) ∨
    ((pwrite d ((f : Int), (c : Int)) (n : Int) l).2 = 9 ∧ (pwrite d ((f : Int), (c : Int)) (n : Int) l).1.off = true ∧ (pwrite d ((f : Int), (c : Int)) (n : Int) l).1.pend = [] ∧ ∃ sv, (pwrite d ((f : Int), (c : Int)) (n : Int) l).1.secs = layS d.secs d.pend sv) := by
  have hib : d.inB ((f + n : Nat) : Int) = true := by simp only [DM.inB, decide_eq_true_eq]; rw [hl]; omega
  have e : pwrite d ((f : Int), (c : Int)) (n : Int) l = if d.powered.2 then ({ d.powered.1 with pend := d.powered.1.pend ++ [(f + n, l)] }, 0) else (d.powered.1, 9) := by
    unfold Go.Proofs.YtbknpbihgfphaaaDoor.pwrite
    simp only
    rw [place_inN hn (by omega)]
    simp only [if_true]
    unfold DM.write
    rw [if_pos hib, if_pos h64, Int.toNat_natCast]
  rw [e]
  rcases powered_on ho with ⟨h1, h2, h3, h4⟩ | ⟨h1, h2, h3, h4⟩
  · rw [if_pos h1]; exact .inl ⟨rfl, h2, h3, by simp only [h4]⟩
  · rw [if_neg (by rw [h1]; decide)]; exact .inr ⟨rfl, h2, h3, h4⟩
theorem flush_on {d : DM} (ho : d.off = false) :
    (d.flush.2 = 0 ∧ d.flush.1.off = false ∧ d.flush.1.pend = [] ∧ d.flush.1.secs = layAll d.secs d.pend) ∨
    (d.flush.2 = 9 ∧ d.flush.1.off = true ∧ d.flush.1.pend = [] ∧ ∃ sv, d.flush.1.secs = layS d.secs d.pend sv) := by
  unfold DM.flush
  rcases powered_on ho with ⟨h1, h2, h3, h4⟩ | ⟨h1, h2, h3, h4⟩
  · rw [if_pos h1]; exact .inl ⟨rfl, h2, rfl, by simp only [h3, h4]⟩
  · rw [if_neg (by rw [h1]; decide)]; exact .inr ⟨rfl, h2, h3, h4⟩
/-- as it comes out of a power failure, or goes on -/
def calmD (d : DM) : DM := (d.arm (-1) []).power
theorem calm_on {d : DM} (h : d.off = false) (hp : d.pend = []) : d.arm (-1) [] = (d.arm (-1) []).power := by
  unfold DM.arm DM.power DM.disarm
  simp [h, hp]
theorem calm_facts (d : DM) : (calmD d).off = false ∧ (calmD d).armed = false ∧ (calmD d).pend = [] ∧ (calmD d).secs = d.secs := by
  unfold calmD DM.arm DM.power DM.disarm
  refine ⟨rfl, rfl, rfl, ?_⟩
  split
  · rfl
  · simp
theorem Lg.of {N f c : Nat} {d : DM} {l : List En} (h1 : d.off = false) (h2 : d.armed = false) (h3 : d.pend = []) (h4 : d.secs.length = N) (h5 : l.length ≤ c) (h6 : ∀ i (h : i < l.length), d.sec (f + i) = secE i l[i]) (h7 : ∀ k, k < N → (k < f ∨ f + l.length ≤ k) → d.sec k = List.replicate 64 0) : Lg N f c d ⟨l, false⟩ :=
  ⟨⟨h1, h2, h4⟩, h3, rfl, h5, fun i hi => by rw [cur_nil h3]; exact h6 i hi, fun k hk ho => by rw [cur_nil h3]; exact h7 k hk ho⟩
theorem sec_set (s : List (List UInt8)) (n k : Nat) (l : List UInt8) (hn : n < s.length) : (s.set n l)[k]?.getD [] = if n = k then l else s[k]?.getD [] := by
  by_cases h : n = k
  · subst h; rw [if_pos rfl, List.getElem?_set_self hn]; rfl
  · rw [if_neg h, List.getElem?_set_ne h]
theorem Lg.calm {N f c : Nat} {d d' : DM} {m : AL} (h : Lg N f c d m) (hs : d'.secs = d.secs) : Lg N f c (calmD d') m := by
  obtain ⟨ents, dead⟩ := m
  have hdd := h.dead
  dsimp only at hdd
  subst hdd
  obtain ⟨c1, c2, c3, c4⟩ := calm_facts d'
  refine Lg.of c1 c2 c3 (by rw [c4, hs]; exact h.fr.len) h.len (fun i hi => ?_) (fun k hk ho => ?_)
  · have := h.sec i hi
    rw [cur_nil h.pd] at this
    unfold DM.sec at *
    rw [c4, hs]; exact this
  · have := h.out k hk ho
    rw [cur_nil h.pd] at this
    unfold DM.sec at *
    rw [c4, hs]; exact this
theorem Lg.calm1 {N f c : Nat} {d d' : DM} {l : List En} {e : En} (h : Lg N f c d ⟨l, false⟩) (hf : f + c ≤ N) (hl : l.length < c) (hs : ∀ k : Nat, d'.secs[k]?.getD [] = (d.secs.set (f + l.length) (secE l.length e))[k]?.getD []) (hlen : d'.secs.length = N) : Lg N f c (calmD d') ⟨l ++ [e], false⟩ := by
  obtain ⟨c1, c2, c3, c4⟩ := calm_facts d'
  have hn := h.fr.len
  refine Lg.of c1 c2 c3 (by rw [c4]; exact hlen) (by simp; omega) (fun i hi => ?_) (fun k hk ho => ?_)
  · simp only [List.length_append, List.length_cons, List.length_nil] at hi
    unfold DM.sec
    rw [c4, hs, sec_set _ _ _ _ (by omega)]
    by_cases hie : i = l.length
    · subst hie; rw [if_pos rfl]; simp
    · rw [if_neg (by omega), List.getElem_append_left (by omega)]
      have := h.sec i (by simp only; omega)
      rw [cur_nil h.pd] at this
      exact this
  · simp only [List.length_append, List.length_cons, List.length_nil] at ho
    unfold DM.sec
    rw [c4, hs, sec_set _ _ _ _ (by omega), if_neg (by omega)]
    have := h.out k hk (by simp only; omega)
    rw [cur_nil h.pd] at this
    exact this
theorem layS_one (s : List (List UInt8)) (q : Nat × List UInt8) (sv : List Bool) : layS s [q] sv = s ∨ layS s [q] sv = s.set q.1 q.2 := by
  cases sv with
  | nil => exact .inl rfl
  | cons b bs =>
    rw [layS, layS]
    cases b with
    | false => exact .inl rfl
    | true => exact .inr rfl
/-- whatever fails in an Add, and what is there when it is opened again -/
theorem Lg.keep {N f c : Nat} {d d1 : DM} {m : AL} (h : Lg N f c d m) (hf : f + c ≤ N) (hN : N ≤ 1000) (e : En) (ho : d1.off = false) (hs : d1.secs = d.secs) (hp : d1.pend = []) :
    ((addA d1 ((f : Int), (c : Int)) m e).2.2 = 0 ∧ e.valid = true ∧ (addA d1 ((f : Int), (c : Int)) m e).2.1 = ⟨m.ents ++ [e], false⟩ ∧ (addA d1 ((f : Int), (c : Int)) m e).1.arm (-1) [] = (calmD (addA d1 ((f : Int), (c : Int)) m e).1) ∧ Lg N f c (calmD (addA d1 ((f : Int), (c : Int)) m e).1) ⟨m.ents ++ [e], false⟩) ∨
    (((addA d1 ((f : Int), (c : Int)) m e).2.2 = 1 ∨ (addA d1 ((f : Int), (c : Int)) m e).2.2 = 5 ∨ (addA d1 ((f : Int), (c : Int)) m e).2.2 = 9) ∧ (addA d1 ((f : Int), (c : Int)) m e).2.1.ents = m.ents ∧ Lg N f c (calmD (addA d1 ((f : Int), (c : Int)) m e).1) m) ∨
    ((addA d1 ((f : Int), (c : Int)) m e).2.2 = 9 ∧ e.valid = true ∧ (addA d1 ((f : Int), (c : Int)) m e).2.1.ents = m.ents ∧ Lg N f c (calmD (addA d1 ((f : Int), (c : Int)) m e).1) ⟨m.ents ++ [e], false⟩) := by
  obtain ⟨l, dead⟩ := m
  have hd := h.dead
  dsimp only at hd
  subst hd
  have hlen := h.len
  have hNl := h.fr.len
  dsimp only at hlen
  unfold addA
  dsimp only
  rw [if_neg (by decide)]
  by_cases hv : e.valid = false
  · rw [if_pos hv]; exact .inr (.inl ⟨.inl rfl, rfl, h.calm hs⟩)
  have hv' : e.valid = true := by cases hq : e.valid with | true => rfl | false => exact absurd hq hv
  rw [if_neg hv]
  by_cases hfull : (c : Int) ≤ (l.length : Int)
  · rw [if_pos hfull]; exact .inr (.inl ⟨.inr (.inl rfl), rfl, h.calm hs⟩)
  rw [if_neg hfull]
  have h64 := secE_len l.length e
  rcases pwrite_on (l := secE l.length e) ho (by rw [hs]; exact hNl) (n := l.length) (c := c) (by omega) hf hN h64 with ⟨w1, w2, w3, w4⟩ | ⟨w1, w2, w3, sv, w4⟩
  · rw [if_pos w1]
    rw [hp, List.nil_append] at w4
    rcases flush_on w2 with ⟨f1, f2, f3, f4⟩ | ⟨f1, f2, f3, sv, f4⟩
    · rw [if_pos f1]
      rw [w4, w3, hs] at f4
      refine .inl ⟨rfl, hv', rfl, calm_on f2 f3, h.calm1 hf (by omega) (fun k => by rw [f4]; rfl) (by rw [f4, layAll_len]; exact hNl)⟩
    · rw [if_neg (by rw [f1]; decide)]
      rw [w4, w3, hs] at f4
      rcases layS_one d.secs (f + l.length, secE l.length e) sv with h1 | h1
      · rw [h1] at f4
        exact .inr (.inl ⟨.inr (.inr f1), rfl, h.calm f4⟩)
      · rw [h1] at f4
        exact .inr (.inr ⟨f1, hv', rfl, h.calm1 hf (by omega) (fun k => by rw [f4]) (by rw [f4, List.length_set]; exact hNl)⟩)
  · rw [if_neg (by rw [w1]; decide)]
    rw [hp, hs] at w4
    rw [show layS d.secs [] sv = d.secs by rw [layS]] at w4
    exact .inr (.inl ⟨.inr (.inr w1), rfl, h.calm w4⟩)
end Go.Proofs.YtbknpbihgfphaaaDoor

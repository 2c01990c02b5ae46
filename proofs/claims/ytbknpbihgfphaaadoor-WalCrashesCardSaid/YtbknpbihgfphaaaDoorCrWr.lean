/- law16: acts as arguments; WalConfined, plain. -/
import Derived.Test.YtbknpbihgfphaaaDoorCrWp
import Derived.Test.YtbknpbihgfphaaaDoorCrAr
set_option linter.unusedSimpArgs false
set_option linter.unusedVariables false
namespace Go.Proofs.YtbknpbihgfphaaaDoor
open Go Go.RowKit Go.Own
open Go.ChangeShapes Go.WideShapes Go.ChangeAt
structure Act16 where
  do_ : Int
  n : Int
  at_ : Int
  off : Int
  fill : UInt8
  keepv : Value
  keep : List Bool
def Act16.cells (a : Act16) : List Value := [.int .i64 a.do_, .int .i64 a.n, .int .i64 a.at_, .int .i64 a.off, .int .u8 (a.fill.toNat : Int), a.keepv]
structure Act16.Ok (s : Ro) (a : Act16) : Prop where
  keep : SlS s a.keepv 1 a.keep.length (a.keep.map Value.bool)
  klen : a.keep.length ≤ 140737488351232
  hn : I64 a.n
  ha : I64 a.at_
theorem Act16.Ok.mono {s s' : Ro} {a : Act16} (h : a.Ok s) (hs : s.Le s') : a.Ok s' := ⟨h.keep.mono hs, h.klen, h.hn, h.ha⟩
set_option maxRecDepth 100000 in
theorem act16_of {w : World} (cs : List Value) (hl : cs.length = Tryd.prog.cellsOf 78) (h : Rdg Tryd.prog w 78 cs) : ∃ x : Act16, x.cells = cs ∧ x.Ok (startRo w) := by
  have hl6 : cs.length = 6 := hl.trans (by kernel_rfl)
  match cs, hl6 with
  | [c0, c1, c2, c3, c4, c5], _ =>
    have f0 : Rdg Tryd.prog w 3 [c0] := rdg_field Tryd.underlying78 h 0 3 0 1 rfl (by kernel_rfl)
    have f1 : Rdg Tryd.prog w 3 [c1] := rdg_field Tryd.underlying78 h 1 3 1 1 rfl (by kernel_rfl)
    have f2 : Rdg Tryd.prog w 3 [c2] := rdg_field Tryd.underlying78 h 2 3 2 1 rfl (by kernel_rfl)
    have f3 : Rdg Tryd.prog w 3 [c3] := rdg_field Tryd.underlying78 h 3 3 3 1 rfl (by kernel_rfl)
    have f4 : Rdg Tryd.prog w 5 [c4] := rdg_field Tryd.underlying78 h 4 5 4 1 rfl (by kernel_rfl)
    have f5 : Rdg Tryd.prog w 44 [c5] := rdg_field Tryd.underlying78 h 5 44 5 1 rfl (by kernel_rfl)
    obtain ⟨n0, e0, w0⟩ := rdg_int Tryd.underlying3 f0
    obtain ⟨n1, e1, w1⟩ := rdg_int Tryd.underlying3 f1
    obtain ⟨n2, e2, w2⟩ := rdg_int Tryd.underlying3 f2
    obtain ⟨n3, e3, w3⟩ := rdg_int Tryd.underlying3 f3
    obtain ⟨n4, e4, w4⟩ := rdg_int Tryd.underlying5 f4
    obtain ⟨x, hx⟩ := wf_u8 w4
    obtain ⟨kp, k1, k2⟩ := rdg_bools Tryd.underlying44 Tryd.underlying4 (by kernel_rfl) (by kernel_rfl) f5
    cases e0; cases e1; cases e2; cases e3; cases e4
    refine ⟨⟨n0, n1, n2, n3, x, c5, kp⟩, ?_, SlS.start k1, Nat.le_trans k2 reach_le, wf_i64 w1, wf_i64 w2⟩
    unfold Act16.cells
    rw [hx]; rfl
theorem acts16_of {w : World} {v : Value} (h : Rdg Tryd.prog w 68 [v]) : ∃ l : List Act16, SlS (startRo w) v 6 l.length (l.flatMap Act16.cells) ∧ ∀ a ∈ l, a.Ok (startRo w) := by
  obtain ⟨acts, ha1, ha2, _⟩ := rdg_list Act16.cells (Act16.Ok (startRo w)) Tryd.underlying68 (by rw [show Tryd.prog.cellsOf 78 = 6 by kernel_rfl]; decide) (fun cs' hl h => act16_of cs' hl h) h
  rw [show Tryd.prog.cellsOf 78 = 6 by kernel_rfl] at ha1
  exact ⟨acts, SlS.start ha1, fun a h => (ha2 a h).1⟩
theorem effS_out (f : Nat) {k : Nat} (hk : k < f ∨ f + 52 ≤ k) : ∀ (l : List St) (c : Nat → List UInt8), l.all okS = true → effS f l c k = c k
  | [], c, _ => rfl
  | .w a b :: r, c, h => by
    rw [List.all_cons, Bool.and_eq_true] at h
    have ha := h.1
    unfold okS at ha
    rw [Bool.and_eq_true, decide_eq_true_eq] at ha
    have := effS_out f hk r (fun j => if j = f + a then b else c j) h.2
    refine this.trans ?_
    rw [if_neg (by omega)]
  | .f :: r, c, h => by
    rw [List.all_cons, Bool.and_eq_true] at h
    exact effS_out f hk r c h.2
theorem home_ok {e h : Nat} {ps : List UInt8} (hh : h ≤ 1) (hl : ps.length = 640) : ∀ n i, i + n ≤ 16 → (homeFrom e h ps n i).all okS = true
  | 0, i, _ => by
    have h1 : (headB e h).length = 64 := secW_len (by simp)
    have h2 : e % 2 < 52 := by omega
    simp [homeFrom, okS, h1, h2]
  | n + 1, i, hi => by
    have h1 : (pageB e i ps).length = 64 := secW_len (by rw [List.length_append, getP_len hl (by omega)]; simp)
    have h2 : 2 + 16 * h + i < 52 := by omega
    rw [homeFrom, List.all_cons, home_ok hh hl n (i + 1) (by omega)]
    simp [okS, h1, h2]
theorem rec_ok {e : Nat} : ∀ (l : List Ch) (u : Nat), u + l.length + 1 ≤ 18 → (∀ c ∈ l, c.Ok) → (recSteps e u l).all okS = true
  | [], u, hu, _ => by
    have h1 : (markB e u).length = 64 := secW_len (by simp)
    have h2 : 34 + u < 52 := by simp at hu; omega
    simp [recSteps, okS, h1, h2]
  | c :: r, u, hu, hc => by
    have h0 := hc c (by simp)
    have h1 : (recB e u c).length = 64 := secW_len (by rw [List.length_append, h0.2.2]; simp)
    have h2 : 34 + u < 52 := by rw [List.length_cons] at hu; omega
    rw [recSteps, List.all_cons, rec_ok r (u + 1) (by rw [List.length_cons] at hu; omega) (fun c hc' => hc c (by simp [hc']))]
    simp [okS, h1, h2]
/-- a log without a failure, on a free disk -/
structure GoodW (f : Nat) (d : DM) (m : WL) : Prop where
  fr : Fr0 60 d
  out : ∀ k, k < 60 → (k < f ∨ f + 52 ≤ k) → d.cur k = List.replicate 64 0
  ep : m.epoch < 2 ^ 32
  home : m.home ≤ 1
  used : m.used ≤ 18
  pages : m.pages.length = 640
  dead : m.dead = false
theorem GoodW.record {f : Nat} {d : DM} {m : WL} {l : List Ch} (h : GoodW f d m) (hf : f + 52 ≤ 60) (hu : m.used + l.length + 1 ≤ 18) (hok : ∀ c ∈ l, c.Ok) : GoodW f (recM d ((f : Int), 52) m l).1 (recM d ((f : Int), 52) m l).2.1 := by
  have hr := rec_ok (e := m.epoch) l m.used hu hok
  obtain ⟨h1, h2, h3⟩ := run_free hf _ h.fr hr
  unfold recM
  rw [if_pos h1]
  exact ⟨h2, fun k hk ho => by rw [h3 k hk, effS_out f ho _ _ hr]; exact h.out k hk ho, h.ep, h.home, hu, applyL_len hok h.pages, rfl⟩
theorem GoodW.commit {f : Nat} {d : DM} {m : WL} (l : List Ch) (h : GoodW f d m) (hf : f + 52 ≤ 60) : GoodW f (commitM d ((f : Int), 52) m l).1 (commitM d ((f : Int), 52) m l).2.1 := by
  have hd := h.dead
  unfold commitM
  rw [if_neg (by rw [hd]; decide)]
  by_cases hv : validM l = false
  · rw [if_pos hv]; exact h
  rw [if_neg hv]
  obtain ⟨hv16, hok⟩ := validM_ok (l := l) (by cases hq : validM l with | true => rfl | false => exact absurd hq hv)
  by_cases hl : l.length = 0
  · rw [if_pos hl]; exact h
  rw [if_neg hl]
  by_cases hfull : 18 < m.used + l.length + 1
  · rw [if_pos hfull]
    by_cases hmax : m.epoch = 4294967295
    · rw [if_pos hmax]; exact h
    rw [if_neg hmax]
    have hep := h.ep
    have hr : (homeSteps (m.epoch + 1) (1 - m.home) m.pages).all okS = true := home_ok (by omega) h.pages 16 0 (by decide)
    obtain ⟨h1, h2, h3⟩ := run_free hf _ h.fr hr
    rw [if_pos h1]
    refine GoodW.record ⟨h2, fun k hk ho => by rw [h3 k hk, effS_out f ho _ _ hr]; exact h.out k hk ho, by dsimp only; omega, by dsimp only; omega, Nat.zero_le _, h.pages, rfl⟩ hf (by dsimp only; omega) hok
  · rw [if_neg hfull]
    exact h.record hf (by omega) hok
end Go.Proofs.YtbknpbihgfphaaaDoor

/- For all arguments: DiskFlushes returns true, and its arguments read as they did. No condition. -/
import Derived.Test.YteoopnhogfjeaaaFlushes
import Derived.ProofKit
import Derived.OpenShut
import Derived.ShutString
import Derived.ChangeOld
import Derived.SizedLaws
namespace Go.Proofs.Yteoopnhogfjeaaa.diskFlushesDone
open Go Go.ChangeShapes Go.WideShapes Go.ChangeAt Go.RowKit Go.Own
set_option linter.unusedVariables false
set_option linter.unusedSimpArgs false

theorem own : ownKnob Try.prog.godebug = none := by kernel_rfl
theorem laidOut : laidOutB Try.prog = true := by kernel_rfl

theorem reach_eq : reachBytes ≤ 140737488351232 := by decide

theorem rdg_field {P : Program} {w : World} {t : TypeId} {cs : List Value} {fs : Array Field} (hu : P.underlying t = some (.struct fs)) (h : Rdg P w t cs) (j : Nat) (ft : TypeId) (off sz : Nat) (hf : (fs[j]?).map (fun f => (f.type, f.offset)) = some (ft, off)) (hs : P.cellsOf ft = sz) : Rdg P w ft ((cs.drop off).take sz) := by
  obtain ⟨_, h2⟩ := rdg_struct hu h
  rw [Option.map_eq_some_iff] at hf
  obtain ⟨f, h3, h4⟩ := hf
  cases h4
  have := h2 j f h3
  rwa [hs] at this

set_option maxRecDepth 100000 in
theorem act_of {w : World} (cs : List Value) (hl : cs.length = Try.prog.cellsOf 38) (h : Rdg Try.prog w 38 cs) : ∃ x : ActM, x.cells = cs ∧ x.Ok w := by
  have hl5 : cs.length = 5 := hl.trans (by kernel_rfl)
  match cs, hl5 with
  | [c0, c1, c2, c3, c4], _ =>
    have f0 : Rdg Try.prog w 3 [c0] := rdg_field Try.underlying38 h 0 3 0 1 rfl (by kernel_rfl)
    have f1 : Rdg Try.prog w 3 [c1] := rdg_field Try.underlying38 h 1 3 1 1 rfl (by kernel_rfl)
    have f2 : Rdg Try.prog w 3 [c2] := rdg_field Try.underlying38 h 2 3 2 1 rfl (by kernel_rfl)
    have f3 : Rdg Try.prog w 5 [c3] := rdg_field Try.underlying38 h 3 5 3 1 rfl (by kernel_rfl)
    have f4 : Rdg Try.prog w 35 [c4] := rdg_field Try.underlying38 h 4 35 4 1 rfl (by kernel_rfl)
    obtain ⟨n0, e0, w0⟩ := rdg_int Try.underlying3 f0
    obtain ⟨n1, e1, w1⟩ := rdg_int Try.underlying3 f1
    obtain ⟨n2, e2, w2⟩ := rdg_int Try.underlying3 f2
    obtain ⟨n3, e3, w3⟩ := rdg_int Try.underlying5 f3
    obtain ⟨x3, hx3⟩ := wf_u8 w3
    obtain ⟨kp, k1, k2⟩ := rdg_bools Try.underlying35 Try.underlying4 (by kernel_rfl) (by kernel_rfl) f4
    cases e0; cases e1; cases e2; cases e3
    have b0 := wf_i64 w0
    have b1 := wf_i64 w1
    have b2 := wf_i64 w2
    refine ⟨⟨n0, n1, n2, x3, c4, kp⟩, by unfold ActM.cells; rw [hx3], k1, Nat.le_trans k2 reach_eq, b0.2, b0.1, b1.2, b1.1, b2.2, b2.1⟩

set_option maxRecDepth 100000 in
theorem lifted (os : Os) (started : os.Started) (H : Type) (enc : TypeId × Value → H) :
    ReturnsInHanded {} Try.checked os 5 .any (Rows.diskFlushesSpec.pre6 enc Try.prog Try.f5 Rows.diskFlushesRow.domain false) (Rows.diskFlushesSpec.post enc Try.prog Try.f5 false true false false) := by
  refine returnsInHanded_of_change_sized (C := Try.checked) own started (by kernel_rfl) Try.func5
    (ChangeSpec.witness6 (enc := enc) (C := Try.checked) false ⟨#[], #[.slice none 0 0, .slice none 0 0], []⟩ 8 (by kernel_rfl) (by kernel_rfl) (by kernel_rfl) (by kernel_rfl)) ?_
  intro W base args ds gs before hval0 hW hcnd hwt _
  have hval : ∀ (j : Nat) t v, Try.f5.params[j]? = some t → args[j]? = some v → Value.okWide Try.prog W .any base t v := hval0
  have hW' := hW
  obtain ⟨p, q, hA0, hV, rfl, hfz, hnd⟩ := hW
  have hA : DataW.TrodAll enc Try.prog W 0 (fun _ => true) true Try.f5.params.toList args.toList ds p := hA0
  have hwt' : ∀ n ∈ DataW.weightsEach Try.prog (Try.f5.params.toList ++ DataSpec.varTypes Try.prog Rows.diskFlushesSpec.plain) (ds ++ gs), n ≤ reachBytes := by
    intro n hn
    have := List.all_eq_true.1 hwt n hn
    simpa using this
  rw [Try.params5] at hA hval hwt'
  obtain ⟨v0, vs0, d0, ds0, p0, q0, hargs, rfl, rfl, h0, r0⟩ := trodAll_cons hA
  obtain ⟨v2, vs2, d2, ds2, p2, q2, rfl, rfl, rfl, h2, r2⟩ := trodAll_cons r0
  obtain ⟨rfl, rfl, rfl⟩ := trodAll_nil r2
  obtain rfl : args = #[v0, v2] := by cases args; simp_all
  obtain ⟨rfl, rfl⟩ := trodVars_none hV
  obtain ⟨a0, len0, cap0, rfl⟩ := okWide_slice Try.underlying34 (hval 0 34 v0 rfl rfl)
  obtain ⟨a2, len2, cap2, rfl⟩ := okWide_slice Try.underlying35 (hval 1 35 v2 rfl rfl)
  have k0 := h0
  have lt0 : ∀ x ∈ p0, x.block < W.heap.size := by obtain ⟨m, hm⟩ := k0; exact DataW.trod_lt m _ _ _ hm
  have k2 := h2
  have lt2 : ∀ x ∈ p2, x.block < W.heap.size := by obtain ⟨m, hm⟩ := k2; exact DataW.trod_lt m _ _ _ hm
  have g0 : Rdg Try.prog W 34 [.slice a0 len0 cap0] := by
    obtain ⟨m, hm⟩ := h0
    exact ⟨H, enc, m, (d0, p0), hm, fun n hn => hwt' n (DataW.weights_mem_each (j := 0) (t := 34) (d := d0) rfl rfl n hn)⟩
  have g2 : Rdg Try.prog W 35 [.slice a2 len2 cap2] := by
    obtain ⟨m, hm⟩ := h2
    exact ⟨H, enc, m, (d2, p2), hm, fun n hn => hwt' n (DataW.weights_mem_each (j := 1) (t := 35) (d := d2) rfl rfl n hn)⟩
  obtain ⟨acts, ha1, ha2, _⟩ := rdg_list ActM.cells (ActM.Ok W) Try.underlying34 (by rw [show Try.prog.cellsOf 38 = 5 by kernel_rfl]; decide) (fun cs' hl h => act_of cs' hl h) g0
  rw [show Try.prog.cellsOf 38 = 5 by kernel_rfl] at ha1
  obtain ⟨keep, hk1, hk2⟩ := rdg_bools Try.underlying35 Try.underlying4 (by kernel_rfl) (by kernel_rfl) g2
  clear hA0 hval0
  refine (flushes_walk _ acts _ keep W ⟨ha1, fun a h => (ha2 a h).1⟩ hk1 (Nat.le_trans hk2 reach_eq)).mono fun e W' ⟨he, ho⟩ => ?_
  subst he
  have bel := ho.below
  exact ⟨_, rfl, _, _, _, [], _, [], hW', trodAll_mk1 (shut_bool Try.underlying4 _), (trodAll_cons_mk (Below.trod laidOut (by kernel_rfl) (of_decide_eq_true (by kernel_rfl)) k0 bel lt0) (trodAll_cons_mk (Below.trod laidOut (by kernel_rfl) (of_decide_eq_true (by kernel_rfl)) k2 bel lt2) trodAll_mk0)), rfl, bel.frame _, fun h => by cases h⟩

theorem over : Rows.diskFlushesRow.holds Try.pinned (OpenSpec.ofChange Rows.diskFlushesSpec) :=
  OpenClaim.holds_of_wide 5 Try.f5 rfl rfl rfl rfl rfl rfl rfl ⟨rfl, rfl, rfl, rfl, rfl⟩ rfl rfl rfl rfl rfl (by kernel_rfl) Try.func5 (by kernel_rfl)
    (of_decide_eq_true (by kernel_rfl)) (by unfold Func.isWrapper; first | (rw [if_pos (by decide +kernel)]; kernel_rfl) | (rw [if_neg (by decide +kernel)]; exact ⟨rfl, rfl⟩))
    (fun os started H enc _ => lifted os started H enc)

theorem proved : Rows.DiskFlushesSaid := over
#print axioms proved
end Go.Proofs.Yteoopnhogfjeaaa.diskFlushesDone

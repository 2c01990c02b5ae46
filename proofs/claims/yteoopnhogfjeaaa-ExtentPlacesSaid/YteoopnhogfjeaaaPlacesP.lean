/- For all arguments: ExtentPlaces returns true, and its argument reads as it did. No condition. -/
import Derived.Test.YteoopnhogfjeaaaPlaces
import Derived.Test.YteoopnhogfjeaaaExtArg
import Derived.ProofKit
import Derived.OpenShut
import Derived.ShutString
import Derived.ChangeOld
import Derived.SizedLaws
namespace Go.Proofs.Yteoopnhogfjeaaa.extentPlacesDone
open Go Go.ChangeShapes Go.WideShapes Go.ChangeAt Go.RowKit Go.Own
set_option linter.unusedVariables false
set_option linter.unusedSimpArgs false

theorem own : ownKnob Try.prog.godebug = none := by kernel_rfl
theorem laidOut : laidOutB Try.prog = true := by kernel_rfl

set_option maxRecDepth 100000 in
theorem places_of {w : World} (cs : List Value) (hl : cs.length = Try.prog.cellsOf 76) (h : Rdg Try.prog w 76 cs) : ∃ (x y : Ext) (a b n : Int), cs = [.int .i64 x.1, .int .i64 x.2, .int .i64 y.1, .int .i64 y.2, .int .i64 a, .int .i64 b, .int .i64 n] ∧ x.ok ∧ y.ok ∧ I64 a ∧ I64 b ∧ I64 n := by
  have hl7 : cs.length = 7 := hl.trans (by kernel_rfl)
  match cs, hl7 with
  | [c0, c1, c2, c3, c4, c5, c6], _ =>
    have f0 : Rdg Try.prog w 51 [c0, c1] := rdg_field Try.underlying76 h 0 51 0 2 rfl (by kernel_rfl)
    have f1 : Rdg Try.prog w 51 [c2, c3] := rdg_field Try.underlying76 h 1 51 2 2 rfl (by kernel_rfl)
    have f2 : Rdg Try.prog w 3 [c4] := rdg_field Try.underlying76 h 2 3 4 1 rfl (by kernel_rfl)
    have f3 : Rdg Try.prog w 3 [c5] := rdg_field Try.underlying76 h 3 3 5 1 rfl (by kernel_rfl)
    have f4 : Rdg Try.prog w 3 [c6] := rdg_field Try.underlying76 h 4 3 6 1 rfl (by kernel_rfl)
    obtain ⟨x, ex, ox⟩ := ext_of _ (by kernel_rfl) f0
    obtain ⟨y, ey, oy⟩ := ext_of _ (by kernel_rfl) f1
    obtain ⟨n2, e2, w2⟩ := rdg_int Try.underlying3 f2
    obtain ⟨n3, e3, w3⟩ := rdg_int Try.underlying3 f3
    obtain ⟨n4, e4, w4⟩ := rdg_int Try.underlying3 f4
    cases ex; cases ey; cases e2; cases e3; cases e4
    exact ⟨x, y, n2, n3, n4, rfl, ox, oy, wf_i64 w2, wf_i64 w3, wf_i64 w4⟩

set_option maxRecDepth 100000 in
theorem lifted (os : Os) (started : os.Started) (H : Type) (enc : TypeId × Value → H) :
    ReturnsInHanded {} Try.checked os 8 .any (Rows.extentPlacesSpec.pre6 enc Try.prog Try.f8 Rows.extentPlacesRow.domain false) (Rows.extentPlacesSpec.post enc Try.prog Try.f8 false true false false) := by
  refine returnsInHanded_of_change_sized (C := Try.checked) own started (by kernel_rfl) Try.func8
    (ChangeSpec.witness6 (enc := enc) (C := Try.checked) false ⟨#[], #[.agg #[.int .i64 0, .int .i64 0, .int .i64 0, .int .i64 0, .int .i64 0, .int .i64 0, .int .i64 0]], []⟩ 8 (by kernel_rfl) (by kernel_rfl) (by kernel_rfl) (by kernel_rfl)) ?_
  intro W base args ds gs before hval0 hW hcnd hwt _
  have hval : ∀ (j : Nat) t v, Try.f8.params[j]? = some t → args[j]? = some v → Value.okWide Try.prog W .any base t v := hval0
  have hW' := hW
  obtain ⟨p, q, hA0, hV, rfl, hfz, hnd⟩ := hW
  have hA : DataW.TrodAll enc Try.prog W 0 (fun _ => true) true Try.f8.params.toList args.toList ds p := hA0
  have hwt' : ∀ n ∈ DataW.weightsEach Try.prog (Try.f8.params.toList ++ DataSpec.varTypes Try.prog Rows.extentPlacesSpec.plain) (ds ++ gs), n ≤ reachBytes := by
    intro n hn
    have := List.all_eq_true.1 hwt n hn
    simpa using this
  rw [Try.params8] at hA hval hwt'
  obtain ⟨v0, vs0, d0, ds0, p0, q0, hargs, rfl, rfl, h0, r0⟩ := trodAll_cons hA
  obtain ⟨rfl, rfl, rfl⟩ := trodAll_nil r0
  obtain rfl : args = #[v0] := by cases args; simp_all
  obtain ⟨rfl, rfl⟩ := trodVars_none hV
  obtain ⟨cs, rfl, hsz⟩ := okWide_struct Try.underlying76 (hval 0 76 v0 rfl rfl)
  have k0 := h0
  have lt0 : ∀ x ∈ p0, x.block < W.heap.size := by obtain ⟨m, hm⟩ := k0; exact DataW.trod_lt m _ _ _ hm
  have g0 : Rdg Try.prog W 76 cs.toList := by
    obtain ⟨m, hm⟩ := h0
    exact ⟨H, enc, m, (d0, p0), hm, fun n hn => hwt' n (DataW.weights_mem_each (j := 0) (t := 76) (d := d0) rfl rfl n hn)⟩
  obtain ⟨x, y, a, b, n, hcs, hx, hy, ha, hb, hn⟩ := places_of cs.toList (by simpa using hsz) g0
  obtain ⟨cl⟩ := cs
  simp only at hcs
  subst hcs
  clear hA0 hval0
  refine (places_walk x y a b n hx hy ha hb hn W).mono fun e W' ⟨he, ho⟩ => ?_
  subst he
  have bel := ho.below
  exact ⟨_, rfl, _, _, _, [], _, [], hW', trodAll_mk1 (shut_bool Try.underlying4 _), (trodAll_cons_mk (Below.trod laidOut (by kernel_rfl) (of_decide_eq_true (by kernel_rfl)) k0 bel lt0) trodAll_mk0), rfl, bel.frame _, fun h => by cases h⟩

theorem over : Rows.extentPlacesRow.holds Try.pinned (OpenSpec.ofChange Rows.extentPlacesSpec) :=
  OpenClaim.holds_of_wide 8 Try.f8 rfl rfl rfl rfl rfl rfl rfl ⟨rfl, rfl, rfl, rfl, rfl⟩ rfl rfl rfl rfl rfl (by kernel_rfl) Try.func8 (by kernel_rfl)
    (of_decide_eq_true (by kernel_rfl)) (by unfold Func.isWrapper; first | (rw [if_pos (by decide +kernel)]; kernel_rfl) | (rw [if_neg (by decide +kernel)]; exact ⟨rfl, rfl⟩))
    (fun os started H enc _ => lifted os started H enc)

theorem proved : Rows.ExtentPlacesSaid := over
#print axioms proved
end Go.Proofs.Yteoopnhogfjeaaa.extentPlacesDone

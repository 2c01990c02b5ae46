/- For all arguments: PfsCrashes returns true, and its arguments read as they did. No condition. -/
import Derived.Test.YtgilmcpdpggikaaGreatDoorCPo
import Derived.Test.YtgilmcpdpggikaaGreatDoorCards
import Derived.Test.YtgilmcpdpggikaaGreatDoorTie
import Derived.Deep.DeepHandedRow
import Derived.Lib.LaidTab
import Derived.ProofKit
import Derived.OpenShut
import Derived.ShutString
import Derived.ChangeOld
import Derived.SizedLaws
set_option maxRecDepth 100000
set_option maxHeartbeats 1000000
namespace Go.Proofs.YtgilmcpdpggikaaGreatDoor.pfsCrashesDone
open Go Go.ChangeShapes Go.WideShapes Go.ChangeAt Go.RowKit Go.Own
set_option linter.unusedVariables false
set_option linter.unusedSimpArgs false
theorem own : ownKnob Tryz.prog.godebug = none := by kernel_rfl
theorem laidOut : laidOutB Tryz.prog = true := by kernel_rfl
theorem gTab : Tryz.prog.globalNamed "nacelle/crc.nibbles" = some 1 := by kernel_rfl
theorem gTabType : (Tryz.prog.globals[1]?).map (·.type) = some 235 := by kernel_rfl
theorem cellsT : Tryz.prog.cellsOf 235 = 16 := by kernel_rfl
theorem cellsE : Tryz.prog.cellsOf 160 = 1 := by kernel_rfl
theorem table {W : World} (h : laidMetH Tryz.prog Rows.pfsCrashesRow.laid W) : Lib.TabIs Tryz.prog W "nacelle/crc.nibbles" .u32 [0, 274646895, 549293790, 820201905, 1098587580, 1361435347, 1640403810, 1905808397, 2197175160, 2460548119, 2722870694, 2987750089, 3280807620, 3553878443, 3811616794, 4084100981] :=
 Lib.tabIs_of_head (rest := []) gTab gTabType Tryz.underlying235 Tryz.underlying160 cellsE cellsT h
theorem nib_of {W : World} (h : laidMetH Tryz.prog Rows.pfsCrashesRow.laid W) : Nib (startRo W) := by
 intro q hq
 have hc : W.cell? ⟨1, q, none⟩ = some (.int .u32 (nib q : Int)) := by
  have := (table h).cell gTab q (by simpa using hq)
  rw [this]
  have key : ∀ q : Fin 16, ([0, 274646895, 549293790, 820201905, 1098587580, 1361435347, 1640403810, 1905808397, 2197175160, 2460548119, 2722870694, 2987750089, 3280807620, 3553878443, 3811616794, 4084100981] : List Int).getD q.1 0 = (nib q.1 : Int) := by decide
  exact congrArg (fun z => some (Value.int .u32 z)) (key ⟨q, hq⟩)
 obtain ⟨c, t, f, hb⟩ := Go.Own.cells_of_cell hc
 refine ⟨c, t, f, hb, ?_⟩
 unfold World.cell? at hc
 dsimp only at hc hb
 rw [hb] at hc
 simpa using hc
noncomputable def laidWorld (os : Os) : World :=
 { World.holding Tryz.prog os ⟨#[], #[], []⟩ with heap := (World.holding Tryz.prog os ⟨#[], #[], []⟩).heap.modify 1 fun
   | .cells _ t frozen => .cells #[.int .u32 0, .int .u32 274646895, .int .u32 549293790, .int .u32 820201905, .int .u32 1098587580, .int .u32 1361435347, .int .u32 1640403810, .int .u32 1905808397, .int .u32 2197175160, .int .u32 2460548119, .int .u32 2722870694, .int .u32 2987750089, .int .u32 3280807620, .int .u32 3553878443, .int .u32 3811616794, .int .u32 4084100981] t frozen
   | o => o }
theorem laid_met (os : Os) : laidMet Tryz.prog Rows.pfsCrashesRow.laid ((laidWorld os).forCall (fun _ _ => 0) ⟨#[], #[.slice none 0 0], []⟩).memory :=
 laidMet_of_run' 8 (by kernel_rfl) (by kernel_rfl)
theorem lifted (os : Os) (started : os.Started) (H : Type) (enc : TypeId × Value → H) (F : Stop.Interp) :
  ReturnsInHanded {} Tryz.checked os 7 .any ((OpenSpec.ofChange Rows.pfsCrashesSpec).preRow enc Tryz.prog Tryz.f7 Rows.pfsCrashesRow.domain false Rows.pfsCrashesRow.laid) (((OpenSpec.ofChange Rows.pfsCrashesSpec).at F).post enc Tryz.prog Tryz.f7 false true false false) := by
 have hx : DataW.whole enc Tryz.prog ((laidWorld os).forCall (fun _ _ => 0) ⟨#[], #[.slice none 0 0], []⟩).memory Tryz.f7.params.toList Rows.pfsCrashesSpec.vars false (#[.slice none 0 0] : Array Value).toList 8 = some ([.nil], [], []) := by kernel_rfl
 refine returnsInHanded_of_row (C := Tryz.checked) (s := OpenSpec.ofChange Rows.pfsCrashesSpec) own started (by kernel_rfl) Tryz.func7
  (witness_row_at (enc := enc) (C := Tryz.checked) false (laidWorld os) #[.slice none 0 0] rfl (by kernel_rfl) (by kernel_rfl) (by kernel_rfl)
   (OpenSpec.preRow_of_cond 8 hx (by kernel_rfl) (fun k hk => by cases hk) (by kernel_rfl) (laid_met os))) ?_
 intro W base args ds gs before hval0 hW _ _ hwt hL _ _
 have hN := nib_of hL
 have hval : ∀ (j : Nat) t v, Tryz.f7.params[j]? = some t → args[j]? = some v → Value.okWide Tryz.prog W .any base t v := hval0
 have hW' := hW
 obtain ⟨p, q, hA0, hV, rfl, hfz, hnd⟩ := hW
 have hA : DataW.TrodAll enc Tryz.prog W 0 (fun _ => true) true Tryz.f7.params.toList args.toList ds p := hA0
 have hwt' : ∀ n ∈ DataW.weightsEach Tryz.prog (Tryz.f7.params.toList ++ (OpenSpec.ofChange Rows.pfsCrashesSpec).bare.plain.varTypes Tryz.prog) (ds ++ gs), n ≤ reachBytes := by
  intro n hn
  have := List.all_eq_true.1 hwt n hn
  simpa using this
 rw [Tryz.params7] at hA hval hwt'
 obtain ⟨v0, vs0, d0, ds0, p0, q0, hargs, rfl, rfl, h0, r0⟩ := trodAll_cons hA
 obtain ⟨rfl, rfl, rfl⟩ := trodAll_nil r0
 obtain rfl : args = #[v0] := by cases args; simp_all
 obtain ⟨rfl, rfl⟩ := trodVars_none hV
 obtain ⟨a0, len0, cap0, rfl⟩ := okWide_slice Tryz.underlying22 (hval 0 22 v0 rfl rfl)
 have k0 := h0
 have lt0 : ∀ x ∈ p0, x.block < W.heap.size := by obtain ⟨m, hm⟩ := k0; exact DataW.trod_lt m _ _ _ hm
 have g0 : Rdg Tryz.prog W 22 [.slice a0 len0 cap0] := by
  obtain ⟨m, hm⟩ := h0
  exact ⟨H, enc, m, (d0, p0), hm, fun n hn => hwt' n (DataW.weights_mem_each (j := 0) (t := 22) (d := d0) rfl rfl n hn)⟩
 clear hA0 hval0
 refine (crashes_rdg hN g0).mono fun e W' ⟨he, ho⟩ => ?_
 subst he
 have bel := ho.below
 exact ⟨_, rfl, _, _, _, [], _, [], hW', trodAll_mk1 (shut_bool Tryz.underlying4 _), (trodAll_cons_mk (Below.trod laidOut (by kernel_rfl) (of_decide_eq_true (by kernel_rfl)) k0 bel lt0) trodAll_mk0), rfl, bel.frame _, fun h => by cases h⟩
theorem said : Rows.PfsCrashesSaid :=
 OpenClaim.holds_of_cond 7 Tryz.f7 rfl rfl rfl rfl rfl rfl rfl ⟨rfl, rfl, rfl, rfl, rfl⟩ rfl rfl rfl rfl rfl (by kernel_rfl) Tryz.func7 (by kernel_rfl)
  (of_decide_eq_true (by kernel_rfl)) (by unfold Func.isWrapper; first | (rw [if_pos (by decide +kernel)]; kernel_rfl) | (rw [if_neg (by decide +kernel)]; exact ⟨rfl, rfl⟩))
  (fun os started H enc _ F => by rw [OpenClaim.pre_eq_preRow]; exact lifted os started H enc F)
theorem plain (f : FuncId) (fn : Func) (hf : Tryz.pinned.checked.prog.funcNamed "nacelle/nacellelaw18.PfsCrashes" = some f) (hfn : Tryz.pinned.checked.prog.funcs[f]? = some fn) :
  false = Tryz.pinned.checked.prog.looks [] ∧ ∀ (j : Nat) t, fn.params[j]? = some t → Tryz.pinned.checked.prog.wantsStandIn t = false := by
 obtain rfl : f = 7 := Option.some.inj ((show Tryz.prog.funcNamed "nacelle/nacellelaw18.PfsCrashes" = some 7 by kernel_rfl).symm.trans hf) |>.symm
 obtain rfl : fn = Tryz.f7 := (Option.some.inj (Tryz.func7.symm.trans hfn)).symm
 refine ⟨by kernel_rfl, fun j t ht => ?_⟩
 rw [Tryz.params7] at ht
 have hm := Array.mem_of_getElem? ht
 simp only [List.mem_toArray, List.mem_cons, List.not_mem_nil, or_false] at hm
 subst hm
 exact (show Tryz.prog.wantsStandIn _ = false by kernel_rfl)
theorem proved : Rows.PfsCrashesCardSaid :=
 Claim7.holds_tied_plain_at .later [] _ _ _ _ said (fun _ h => by cases h) (by kernel_rfl) (fun _ h => by cases h) pfsCrashes_row_tie rfl ⟨rfl, rfl⟩ (by kernel_rfl) rfl plain (by kernel_rfl)
#print axioms proved
end Go.Proofs.YtgilmcpdpggikaaGreatDoor.pfsCrashesDone

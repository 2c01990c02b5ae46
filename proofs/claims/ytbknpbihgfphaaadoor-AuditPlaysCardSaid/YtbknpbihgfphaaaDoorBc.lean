/- AuditKeeps, walked. -/
import Derived.Test.YtbknpbihgfphaaaDoorBa
import Derived.Test.YtbknpbihgfphaaaDoorBb
import Derived.Test.YtbknpbihgfphaaaDoorK8
import Derived.Test.YtbknpbihgfphaaaDoorAr
set_option linter.unusedSimpArgs false
set_option linter.unusedVariables false
namespace Go.Proofs.YtbknpbihgfphaaaDoor
open Go Go.RowKit Go.Own
open Go.ChangeShapes Go.WideShapes Go.ChangeAt

structure Act20 where
  do_ : Int
  n : Int
  e : En
  keepv : Value
  keep : List Bool
def Act20.cells (a : Act20) : List Value := [.int .i64 a.do_, .int .i64 a.n, .int .i64 a.e.kind, .int .i64 a.e.part, .int .u32 (a.e.ver : Int), .int .i64 a.e.code, a.keepv]
structure Act20.Ok (s : Ro) (a : Act20) : Prop where
  keep : SlS s a.keepv 1 a.keep.length (a.keep.map Value.bool)
  klen : a.keep.length ≤ 140737488351232
  hd : I64 a.do_
  hn : I64 a.n
  he : a.e.Ok
theorem Act20.Ok.mono {s s' : Ro} {a : Act20} (h : a.Ok s) (hs : s.Le s') : a.Ok s' := ⟨h.keep.mono hs, h.klen, h.hd, h.hn, h.he⟩
set_option maxRecDepth 100000 in
theorem act20_of {w : World} (cs : List Value) (hl : cs.length = Tryd.prog.cellsOf 46) (h : Rdg Tryd.prog w 46 cs) : ∃ x : Act20, x.cells = cs ∧ x.Ok (startRo w) := by
  have hl7 : cs.length = 7 := hl.trans (by kernel_rfl)
  match cs, hl7 with
  | [c0, c1, c2, c3, c4, c5, c6], _ =>
    have f0 : Rdg Tryd.prog w 3 [c0] := rdg_field Tryd.underlying46 h 0 3 0 1 rfl (by kernel_rfl)
    have f1 : Rdg Tryd.prog w 3 [c1] := rdg_field Tryd.underlying46 h 1 3 1 1 rfl (by kernel_rfl)
    have f2 : Rdg Tryd.prog w 34 [c2, c3, c4, c5] := rdg_field Tryd.underlying46 h 2 34 2 4 rfl (by kernel_rfl)
    have f3 : Rdg Tryd.prog w 44 [c6] := rdg_field Tryd.underlying46 h 3 44 6 1 rfl (by kernel_rfl)
    obtain ⟨n0, e0, w0⟩ := rdg_int Tryd.underlying3 f0
    obtain ⟨n1, e1, w1⟩ := rdg_int Tryd.underlying3 f1
    obtain ⟨x, hx, ox⟩ := en_of _ (by kernel_rfl) f2
    obtain ⟨kp, k1, k2⟩ := rdg_bools Tryd.underlying44 Tryd.underlying4 (by kernel_rfl) (by kernel_rfl) f3
    cases e0; cases e1; cases hx
    exact ⟨⟨n0, n1, x, c6, kp⟩, rfl, SlS.start k1, Nat.le_trans k2 reach_le, wf_i64 w0, wf_i64 w1, ox⟩
theorem acts20_of {w : World} {v : Value} (h : Rdg Tryd.prog w 43 [v]) : ∃ l : List Act20, SlS (startRo w) v 7 l.length (l.flatMap Act20.cells) ∧ ∀ a ∈ l, a.Ok (startRo w) := by
  obtain ⟨acts, ha1, ha2, _⟩ := rdg_list Act20.cells (Act20.Ok (startRo w)) Tryd.underlying43 (by rw [show Tryd.prog.cellsOf 46 = 7 by kernel_rfl]; decide) (fun cs' hl h => act20_of cs' hl h) h
  rw [show Tryd.prog.cellsOf 46 = 7 by kernel_rfl] at ha1
  exact ⟨acts, SlS.start ha1, fun a h => (ha2 a h).1⟩
theorem arm_facts {d : DM} (ho : d.off = false) (n : Int) (kp : List Bool) : (d.arm n kp).off = false ∧ (d.arm n kp).secs = d.secs ∧ (d.arm n kp).pend = d.pend := by
  unfold DM.arm DM.disarm
  rw [ho]
  simp only [Bool.false_eq_true, if_false]
  split <;> exact ⟨by first | rfl | exact ho, rfl, rfl⟩

section
variable {n : Nat} {ops : Array Oper} {Q : Post} {rest : List Oper} {e : Env} {w : World} {tt : Nat} {pp : String} {af : Array Edge} {g : Option (Nat × Bool)} {d : Nat}
theorem eqE {x y : Operand} {u : TypeId} (X Y : En) (h : L Tryd.prog n ops Q rest (upd e d (.bool (decide (X = Y)))) w) (hw : wg n ops g e = true := by rfl) (hd : Nat.blt d n = true := by rfl) (hx : ev e x = .agg #[.int .i64 X.kind, .int .i64 X.part, .int .u32 (X.ver : Int), .int .i64 X.code] := by rfl) (hy : ev e y = .agg #[.int .i64 Y.kind, .int .i64 Y.part, .int .u32 (Y.ver : Int), .int .i64 Y.code] := by rfl) : L Tryd.prog n ops Q (⟨some d, .binOp .eql 34 x y u, tt, pp, af, g⟩ :: rest) e w :=
  L.val (o := ⟨some d, .binOp .eql 34 x y u, tt, pp, af, g⟩) _ w hw hd (by
    have hq := eq_entry X Y w
    have hg : Tryd.prog.eqGuardType Tryd.prog.depth 34 = false := by kernel_rfl
    unfold execOp
    simp only [hx, hy, Sem.run_bind, run_eqGuard_agg w .eql 34 x y _ _ hg, Result.andThen_ok, run_eql_struct, hq, Sem.run_pure]) h
end
theorem en_at (l : List En) (y : En) : (((l ++ [y]).flatMap En.cells).drop (0 + l.length * 4)).take 4 = y.cells := by
  have h := flatS_part (f := En.cells) (sz := 4) (l ++ [y]) (fun _ _ => rfl) l.length 0 4 (by simp) (by decide)
  rw [Nat.zero_add]
  simpa [En.cells] using h
section
variable {s : Ro} {w : World} {R : List Asn}
set_option maxRecDepth 100000 in
set_option maxHeartbeats 1000000 in
theorem keeps_walk {acts : List Act20} {va : Option Addr} {vc : Nat} (hN : Nib s) (H : Holds s w []) (hl : SlS s (.slice va acts.length vc) 7 acts.length (acts.flatMap Act20.cells)) (hok : ∀ a ∈ acts, a.Ok s) :
    Calls Tryd.prog 4 #[.slice va acts.length vc] w fun e w' => e = .returned (.bool true) ∧ Fin s w' := by
  have hL0 : Lg 12 2 9 (DM.new 12) ⟨[], false⟩ := Lg.new
  have hs0 := hL0.scan (by decide) (by decide) (by simp) 9 0 rfl (by simp)
  rw [List.drop_zero] at hs0
  dsimp only at hs0
  refine enter Tryd.func4 rfl Tryd.ntmps4 rfl ?_
  repeat' (first | refine Z H ?_ | (refine Zc ?_ ?_ <;> intro hc <;> first | (exfalso; omega) | skip) | (refine Y ?_; try change C _ _ _ _ _ _) | (refine Zs H ?_; clear H; (try clear w); intro w H) | (refine Zn H ?_; clear H; (try clear w); (first | ((fail_if_success (have := bl1)); intro bl1 w H) | intro _ w H)) | (refine Ze H ?_; clear H; (try clear w); intro gv w H))
  (refine X.call (part20_s (cnt := 9) H (by decide) (by decide)) ?_; (try clear H); rintro _ w ⟨s1, b, bp, rfl, hle1, hp, H⟩; refine ⟨_, rfl, ?_⟩)
  repeat' (first | refine Z H ?_ | (refine Zc ?_ ?_ <;> intro hc <;> first | (exfalso; omega) | skip) | (refine Y ?_; try change C _ _ _ _ _ _) | (refine Zs H ?_; clear H; (try clear w); intro w H) | (refine Zn H ?_; clear H; (try clear w); (first | ((fail_if_success (have := bl1)); intro bl1 w H) | intro _ w H)) | (refine Ze H ?_; clear H; (try clear w); intro gv w H))
  (refine X.call (OpenA_ok (cnt := 9) (hN.mono hle1) H hp rfl (by decide) hs0) ?_; (try clear H); rintro _ w ⟨s2, bL, aa, cc, rfl, hle2, H⟩; refine ⟨_, rfl, ?_⟩)
  repeat' (first | refine Z H ?_ | (refine Zc ?_ ?_ <;> intro hc <;> first | (exfalso; omega) | skip) | (refine Y ?_; try change C _ _ _ _ _ _) | (refine Zs H ?_; clear H; (try clear w); intro w H) | (refine Zn H ?_; clear H; (try clear w); (first | ((fail_if_success (have := bl1)); intro bl1 w H) | intro _ w H)) | (refine Ze H ?_; clear H; (try clear w); intro gv w H))
  replace H := H.nilRow 34 4
  dsimp only [logP] at H
  have H1 : Holds s2 w (var bL 112 [.pointer (some ⟨bp, 0, none⟩), .slice aa ([] : List En).length cc, .bool false] :: row 34 4 (.slice aa ([] : List En).length cc) ([] : List En).length (([] : List En).flatMap En.cells) :: row 34 4 (.slice none 0 0) 0 [] :: dsk b (DM.new 12) :: []) := H.arr
  have H' : Holds s2 w (logP bL bp aa cc ⟨[], false⟩ (row 34 4 (.slice none ([] : List En).length 0) ([] : List En).length (([] : List En).flatMap En.cells) :: dsk b (DM.new 12) :: [])) := H1
  clear H1
  clear H
  refine C.loopS [2, 6, 8, 9, 10, 11, 12, 13, 14, 29, 30, 31, 32, 33, 34, 35, 36, 37, 38, 39, 40, 41, 42, 43, 44, 45, 46, 47, 48, 49, 50, 51, 52, 53, 54, 55, 56, 57, 58, 59, 60, 61, 62, 63, 64, 65, 66, 67, 68, 69, 70, 71, 72, 73, 74, 75, 76, 77, 78, 79, 80, 81, 82, 83, 84, 85, 86, 87, 88, 89, 90, 91, 92, 93, 94, 95, 96, 97, 98, 99, 100, 101, 102, 103, 104, 105] [6, 8, 9] rfl (fun k vs w => ∃ i : Nat, ∃ s' d m bL aa cc an cn, k = acts.length - i ∧ i ≤ acts.length ∧ i ≤ 20 ∧ vs = [.pointer (some ⟨bL, 0, none⟩), .slice an m.ents.length cn, .int .i64 (i : Int)] ∧ s2.Le s' ∧ Lg 12 2 9 d m ∧ (∀ e ∈ m.ents, e.valid = true ∧ e.ver < 2 ^ 32) ∧ Holds s' w (logP bL bp aa cc m (row 34 4 (.slice an m.ents.length cn) m.ents.length (m.ents.flatMap En.cells) :: dsk b d :: []))) acts.length ⟨0, s2, _, ⟨[], false⟩, bL, aa, cc, none, 0, rfl, Nat.zero_le _, Nat.zero_le _, rfl, Ro.Le.refl _, hL0, by simp, H'⟩ ?_
  clear H' hL0 hs0
  have hle12 := hle2
  replace hle2 := hle1.trans hle2
  clear hle1
  rintro k vs hv w ⟨i, s3, d, m, bL, aa, cc, an, cn, rfl, hi, hi20, rfl, hle3, hL, hval, H⟩
  have hle3'' := hle3
  have hLd : m = ⟨m.ents, false⟩ := by have := hL.dead; cases m; simp at this; subst this; rfl
  have hle3' : s1.Le s3 := hle12.trans hle3
  replace hle3 := hle2.trans hle3
  have hlen := hL.len
  by_cases hlt : i < acts.length ∧ i < 20
  · obtain ⟨hlt, hlt20⟩ := hlt
    obtain ⟨g1, o1, c1, e1, _, _, hp1⟩ := elemS (hl.mono hle3) (fun _ _ => rfl) (by decide) (by omega)
    cases e1
    have q1 : ∀ j v, ([.int .i64 acts[i].do_, .int .i64 acts[i].n, .int .i64 acts[i].e.kind, .int .i64 acts[i].e.part, .int .u32 (acts[i].e.ver : Int), .int .i64 acts[i].e.code, acts[i].keepv] : List Value)[j]? = some v → Pin s3 g1 (o1 + i * 7 + j) v := hp1 i hlt
    obtain ⟨hkeep, hkl, hdo, hn, hye⟩ := (hok acts[i] (List.getElem_mem _)).mono hle3
    generalize acts[i] = a at *
    obtain ⟨ka, kc, hkv, _⟩ := formS hkeep
    rw [hkv] at q1 hkeep
    obtain ⟨ado, an1, y, kv, keep⟩ := a
    simp only at q1 hdo hn hye hkeep hkl hkv
    subst hkv
    repeat' (first | ((fail_if_success (with_reducible show C _ _ _ (Code.seq (Code.seq (Code.region 12 _ _) _) _) _ _)); refine Z H ?_) | (refine Zc ?_ ?_ <;> intro hc <;> first | (exfalso; omega) | skip) | (refine Y ?_; try change C _ _ _ _ _ _) | (refine Zs H ?_; clear H; (try clear w); intro w H) | (refine Zn H ?_; clear H; (try clear w); (first | ((fail_if_success (have := bl1)); intro bl1 w H) | intro _ w H)) | (refine Ze H ?_; clear H; (try clear w); intro gv w H))
    refine C.cut [43, 44, 45, 46, 47, 48, 49, 50, 51] [] rfl (fun vs w => ∃ d1, d1.off = false ∧ d1.secs = d.secs ∧ d1.pend = [] ∧ Holds s3 w (logP bL bp aa cc m (dsk b d1 :: row 34 4 (.slice an m.ents.length cn) m.ents.length (m.ents.flatMap En.cells) :: var bl1 46 [.int .i64 ado, .int .i64 an1, .int .i64 y.kind, .int .i64 y.part, .int .u32 (y.ver : Int), .int .i64 y.code, .slice ka keep.length kc] :: []))) ?_ ?_
    · dsimp only [logP] at H
      by_cases hd3 : 3 ≤ ado
      · repeat' (first | refine Z H ?_ | (refine Zc ?_ ?_ <;> intro hc <;> first | (exfalso; omega) | skip) | (refine Y ?_; try change C _ _ _ _ _ _) | (refine Zs H ?_; clear H; (try clear w); intro w H) | (refine Zn H ?_; clear H; (try clear w); (first | ((fail_if_success (have := bl1)); intro bl1 w H) | intro _ w H)) | (refine Ze H ?_; clear H; (try clear w); intro gv w H))
        first | (have hT : Holds _ _ (dsk b _ :: _) := H; clear hT) | (replace H := H.up 1 rfl; (try simp only [List.set_cons_zero, List.set_cons_succ, List.eraseIdx_cons_zero, List.eraseIdx_cons_succ] at H); have hT : Holds _ _ (dsk b _ :: _) := H; clear hT) | (replace H := H.up 2 rfl; (try simp only [List.set_cons_zero, List.set_cons_succ, List.eraseIdx_cons_zero, List.eraseIdx_cons_succ] at H); have hT : Holds _ _ (dsk b _ :: _) := H; clear hT) | (replace H := H.up 3 rfl; (try simp only [List.set_cons_zero, List.set_cons_succ, List.eraseIdx_cons_zero, List.eraseIdx_cons_succ] at H); have hT : Holds _ _ (dsk b _ :: _) := H; clear hT) | (replace H := H.up 4 rfl; (try simp only [List.set_cons_zero, List.set_cons_succ, List.eraseIdx_cons_zero, List.eraseIdx_cons_succ] at H); have hT : Holds _ _ (dsk b _ :: _) := H; clear hT) | (replace H := H.up 5 rfl; (try simp only [List.set_cons_zero, List.set_cons_succ, List.eraseIdx_cons_zero, List.eraseIdx_cons_succ] at H); have hT : Holds _ _ (dsk b _ :: _) := H; clear hT) | (replace H := H.up 6 rfl; (try simp only [List.set_cons_zero, List.set_cons_succ, List.eraseIdx_cons_zero, List.eraseIdx_cons_succ] at H); have hT : Holds _ _ (dsk b _ :: _) := H; clear hT)
        (refine X.call (Arm_s H (.ro hkeep) hn.2 (by omega)) ?_; (try clear H); rintro _ w ⟨rfl, H⟩; refine ⟨_, rfl, ?_⟩)
        repeat' (first | refine Z H ?_ | (refine Zc ?_ ?_ <;> intro hc <;> first | (exfalso; omega) | skip) | (refine Y ?_; try change C _ _ _ _ _ _) | (refine Zs H ?_; clear H; (try clear w); intro w H) | (refine Zn H ?_; clear H; (try clear w); (first | ((fail_if_success (have := bl1)); intro bl1 w H) | intro _ w H)) | (refine Ze H ?_; clear H; (try clear w); intro gv w H))
        obtain ⟨f1, f2, f3⟩ := arm_facts hL.fr.off an1 keep
        exact ⟨by (repeat (first | exact Agr.refl | exact Agr.hav | refine Agr.upd rfl ?_ | refine Agr.in rfl ?_)), _, f1, f2, by rw [f3]; exact hL.pd, logP_of H⟩
      · repeat' (first | refine Z H ?_ | (refine Zc ?_ ?_ <;> intro hc <;> first | (exfalso; omega) | skip) | (refine Y ?_; try change C _ _ _ _ _ _) | (refine Zs H ?_; clear H; (try clear w); intro w H) | (refine Zn H ?_; clear H; (try clear w); (first | ((fail_if_success (have := bl1)); intro bl1 w H) | intro _ w H)) | (refine Ze H ?_; clear H; (try clear w); intro gv w H))
        exact ⟨by (repeat (first | exact Agr.refl | exact Agr.hav | refine Agr.upd rfl ?_ | refine Agr.in rfl ?_)), d, hL.fr.off, rfl, hL.pd, logP_of H⟩
    · clear H
      rintro vs hv w ⟨d1, ho1, hs1, hp1, H⟩
      have hAd := Add_a (y := y) (m := m) (hN.mono hle3) H (hp.mono hle3') hye (by omega) (by rw [hp1]; decide)
      have hK := hL.keep (by decide) (by decide) y ho1 hs1 hp1
      generalize addA d1 (((2 : Nat) : Int), ((9 : Nat) : Int)) m y = r at *
      obtain ⟨d2, m2, c2⟩ := r
      dsimp only at hK hAd
      have hvy : y.ver < 2 ^ 32 := hye.v
      repeat' (first | (refine X.ldp [.int .i64 y.kind, .int .i64 y.part, .int .u32 (y.ver : Int), .int .i64 y.code] H ?_) | refine Z H ?_ | (refine Zc ?_ ?_ <;> intro hc <;> first | (exfalso; omega) | skip) | (refine Y ?_; try change C _ _ _ _ _ _) | (refine Zs H ?_; clear H; (try clear w); intro w H) | (refine Zn H ?_; clear H; (try clear w); (first | ((fail_if_success (have := bl1)); intro bl1 w H) | intro _ w H)) | (refine Ze H ?_; clear H; (try clear w); intro gv w H))
      (refine X.call (hAd) ?_; (try clear H); rintro _ w ⟨a2, k2, rfl, H⟩; refine ⟨_, rfl, ?_⟩)
      clear hAd
      repeat' (first | refine Z H ?_ | (refine Zc ?_ ?_ <;> intro hc <;> first | (exfalso; omega) | skip) | (refine Y ?_; try change C _ _ _ _ _ _) | (refine Zs H ?_; clear H; (try clear w); intro w H) | (refine Zn H ?_; clear H; (try clear w); (first | ((fail_if_success (have := bl1)); intro bl1 w H) | intro _ w H)) | (refine Ze H ?_; clear H; (try clear w); intro gv w H))
      dsimp only [logP] at H
      first | (have hT : Holds _ _ (dsk b _ :: _) := H; clear hT) | (replace H := H.up 1 rfl; (try simp only [List.set_cons_zero, List.set_cons_succ, List.eraseIdx_cons_zero, List.eraseIdx_cons_succ] at H); have hT : Holds _ _ (dsk b _ :: _) := H; clear hT) | (replace H := H.up 2 rfl; (try simp only [List.set_cons_zero, List.set_cons_succ, List.eraseIdx_cons_zero, List.eraseIdx_cons_succ] at H); have hT : Holds _ _ (dsk b _ :: _) := H; clear hT) | (replace H := H.up 3 rfl; (try simp only [List.set_cons_zero, List.set_cons_succ, List.eraseIdx_cons_zero, List.eraseIdx_cons_succ] at H); have hT : Holds _ _ (dsk b _ :: _) := H; clear hT) | (replace H := H.up 4 rfl; (try simp only [List.set_cons_zero, List.set_cons_succ, List.eraseIdx_cons_zero, List.eraseIdx_cons_succ] at H); have hT : Holds _ _ (dsk b _ :: _) := H; clear hT) | (replace H := H.up 5 rfl; (try simp only [List.set_cons_zero, List.set_cons_succ, List.eraseIdx_cons_zero, List.eraseIdx_cons_succ] at H); have hT : Holds _ _ (dsk b _ :: _) := H; clear hT) | (replace H := H.up 6 rfl; (try simp only [List.set_cons_zero, List.set_cons_succ, List.eraseIdx_cons_zero, List.eraseIdx_cons_succ] at H); have hT : Holds _ _ (dsk b _ :: _) := H; clear hT)
      (refine X.call (Arm_s (n := -1) (sv := []) H (.ro (SlS.nil _ _ )) (by decide) (by decide)) ?_; (try clear H); rintro _ w ⟨rfl, H⟩; refine ⟨_, rfl, ?_⟩)
      have hec : m2.ents = m2.ents := rfl
      rcases hK with ⟨rfl, hvy2, rfl, hcalm, hL2⟩ | ⟨hc, hm2, hL2⟩ | ⟨rfl, hvy2, hm2, hL2⟩
      · -- noted
        rw [hcalm] at H
        repeat' (first | (refine X.ldp [.int .i64 y.kind, .int .i64 y.part, .int .u32 (y.ver : Int), .int .i64 y.code] H ?_) | refine Z H ?_ | (refine Zc ?_ ?_ <;> intro hc <;> first | (exfalso; omega) | skip) | (refine Y ?_; try change C _ _ _ _ _ _) | (refine Zs H ?_; clear H; (try clear w); intro w H) | (refine Zn H ?_; clear H; (try clear w); (first | ((fail_if_success (have := bl1)); intro bl1 w H) | intro _ w H)) | (refine Ze H ?_; clear H; (try clear w); intro gv w H))
        refine K.one H rfl rfl (by conv => lhs; whnf) (by rfl) (by rfl) ?_; clear H; (try clear w); intro g1 w H
        repeat' (first | (refine X.app H ?_; clear H; intro a6 c6 w H) | refine Z H ?_ | (refine Zc ?_ ?_ <;> intro hc <;> first | (exfalso; omega) | skip) | (refine Y ?_; try change C _ _ _ _ _ _) | (refine Zs H ?_; clear H; (try clear w); intro w H) | (refine Zn H ?_; clear H; (try clear w); (first | ((fail_if_success (have := bl1)); intro bl1 w H) | intro _ w H)) | (refine Ze H ?_; clear H; (try clear w); intro gv w H))
        refine ⟨by (repeat (first | exact Agr.refl | exact Agr.hav | refine Agr.upd rfl ?_ | refine Agr.in rfl ?_)), acts.length - (i + 1), by omega, i + 1, s3, _, _, bL, a2, k2, a6, c6, rfl, by omega, by omega, by rw [List.length_append]; rfl, hle3'', hL2, ?_, ?_⟩
        · intro e he
          rcases List.mem_append.1 he with h | h
          · exact hval e h
          · rw [List.mem_singleton] at h; subst h; exact ⟨hvy2, hvy⟩
        · have H1 : Holds s3 w (var bL 112 [.pointer (some ⟨bp, 0, none⟩), .slice a2 (m.ents ++ [y]).length k2, .bool false] :: row 34 4 (.slice a2 (m.ents ++ [y]).length k2) (m.ents ++ [y]).length ((m.ents ++ [y]).flatMap En.cells) :: row 34 4 (.slice a6 (m.ents ++ [y]).length c6) (m.ents ++ [y]).length ((m.ents ++ [y]).flatMap En.cells) :: dsk b (calmD d2) :: []) := by
            simp only [List.length_append, flat_en, List.length_cons, List.length_nil, Nat.zero_add] at H ⊢
            exact H.arr
          exact H1
      · -- not noted
        have hc0 : c2 ≠ 0 := by omega
        have hsc := hL2.scan (by decide) (by decide) hval 9 0 rfl (Nat.zero_le _)
        rw [List.drop_zero] at hsc
        repeat' (first | refine Z H ?_ | (refine Zc ?_ ?_ <;> intro hc <;> first | (exfalso; omega) | skip) | (refine Y ?_; try change C _ _ _ _ _ _) | (refine Zs H ?_; clear H; (try clear w); intro w H) | (refine Zn H ?_; clear H; (try clear w); (first | ((fail_if_success (have := bl1)); intro bl1 w H) | intro _ w H)) | (refine Ze H ?_; clear H; (try clear w); intro gv w H))
        first | (have hT : Holds _ _ (dsk b _ :: _) := H; clear hT) | (replace H := H.up 1 rfl; (try simp only [List.set_cons_zero, List.set_cons_succ, List.eraseIdx_cons_zero, List.eraseIdx_cons_succ] at H); have hT : Holds _ _ (dsk b _ :: _) := H; clear hT) | (replace H := H.up 2 rfl; (try simp only [List.set_cons_zero, List.set_cons_succ, List.eraseIdx_cons_zero, List.eraseIdx_cons_succ] at H); have hT : Holds _ _ (dsk b _ :: _) := H; clear hT) | (replace H := H.up 3 rfl; (try simp only [List.set_cons_zero, List.set_cons_succ, List.eraseIdx_cons_zero, List.eraseIdx_cons_succ] at H); have hT : Holds _ _ (dsk b _ :: _) := H; clear hT) | (replace H := H.up 4 rfl; (try simp only [List.set_cons_zero, List.set_cons_succ, List.eraseIdx_cons_zero, List.eraseIdx_cons_succ] at H); have hT : Holds _ _ (dsk b _ :: _) := H; clear hT) | (replace H := H.up 5 rfl; (try simp only [List.set_cons_zero, List.set_cons_succ, List.eraseIdx_cons_zero, List.eraseIdx_cons_succ] at H); have hT : Holds _ _ (dsk b _ :: _) := H; clear hT) | (replace H := H.up 6 rfl; (try simp only [List.set_cons_zero, List.set_cons_succ, List.eraseIdx_cons_zero, List.eraseIdx_cons_succ] at H); have hT : Holds _ _ (dsk b _ :: _) := H; clear hT)
        (refine X.call (Power_s H) ?_; (try clear H); rintro _ w ⟨rfl, H⟩; refine ⟨_, rfl, ?_⟩)
        replace H : Holds s3 w (dsk b (calmD d2) :: _) := H
        have H1 : Holds s3 w (dsk b (calmD d2) :: row 34 4 (.slice an m.ents.length cn) m.ents.length (m.ents.flatMap En.cells) :: var bl1 46 [.int .i64 ado, .int .i64 an1, .int .i64 y.kind, .int .i64 y.part, .int .u32 (y.ver : Int), .int .i64 y.code, .slice ka keep.length kc] :: []) := H.arr
        clear H
        have H := H1
        clear H1
        repeat' (first | refine Z H ?_ | (refine Zc ?_ ?_ <;> intro hc <;> first | (exfalso; omega) | skip) | (refine Y ?_; try change C _ _ _ _ _ _) | (refine Zs H ?_; clear H; (try clear w); intro w H) | (refine Zn H ?_; clear H; (try clear w); (first | ((fail_if_success (have := bl1)); intro bl1 w H) | intro _ w H)) | (refine Ze H ?_; clear H; (try clear w); intro gv w H))
        (refine X.call (OpenA_ok (cnt := 9) (hN.mono hle3) H (hp.mono hle3') rfl (by decide) hsc) ?_; (try clear H); rintro _ w ⟨s4, bM, a3, c3, rfl, hle4, H⟩; refine ⟨_, rfl, ?_⟩)
        repeat' (first | refine Z H ?_ | (refine Zc ?_ ?_ <;> intro hc <;> first | (exfalso; omega) | skip) | (refine Y ?_; try change C _ _ _ _ _ _) | (refine Zs H ?_; clear H; (try clear w); intro w H) | (refine Zn H ?_; clear H; (try clear w); (first | ((fail_if_success (have := bl1)); intro bl1 w H) | intro _ w H)) | (refine Ze H ?_; clear H; (try clear w); intro gv w H))
        have hE := Entries_s (m := ⟨m.ents, false⟩) H (by dsimp only; omega)
        dsimp only at hE
        (refine X.call (hE) ?_; (try clear H); rintro _ w ⟨a4, c4, rfl, H⟩; refine ⟨_, rfl, ?_⟩)
        clear hE
        repeat' (first | refine Z H ?_ | (refine Zc ?_ ?_ <;> intro hc <;> first | (exfalso; omega) | skip) | (refine Y ?_; try change C _ _ _ _ _ _) | (refine Zs H ?_; clear H; (try clear w); intro w H) | (refine Zn H ?_; clear H; (try clear w); (first | ((fail_if_success (have := bl1)); intro bl1 w H) | intro _ w H)) | (refine Ze H ?_; clear H; (try clear w); intro gv w H))
        refine C.drawn1 [0, 0, 0, 0, 0, 0, 0, 0, 0, 0, 0, 0, 0, 0, 0, 1, 0, 1, 0, 0] [0, 1, 0, 4, 12, 31, 63, 127, 255, 511, 1023, 2047, 2047, 6143, 16383, 32767, 2047, 67583, 262143, 524287] (by kernel_rfl) ?_; replace H := H.drew
        dsimp only [logP] at H
        repeat' (first | refine Z H ?_ | (refine Zc ?_ ?_ <;> intro hc <;> first | (exfalso; omega) | skip) | (refine Y ?_; try change C _ _ _ _ _ _) | (refine Zs H ?_; clear H; (try clear w); intro w H) | (refine Zn H ?_; clear H; (try clear w); (first | ((fail_if_success (have := bl1)); intro bl1 w H) | intro _ w H)) | (refine Ze H ?_; clear H; (try clear w); intro gv w H))
        have hS := same_e (l := m.ents) (m := m.ents) (v := .slice a4 m.ents.length c4) (u := .slice an m.ents.length cn) H (.own 0 _ rfl) (.own 4 _ rfl) (by omega) (by omega)
        rw [decide_eq_true rfl] at hS
        (refine X.call (hS) ?_; (try clear H); rintro _ w ⟨rfl, ho, H⟩; refine ⟨_, rfl, ?_⟩)
        clear ho hS
        repeat' (first | refine Z H ?_ | (refine Zc ?_ ?_ <;> intro hc <;> first | (exfalso; omega) | skip) | (refine Y ?_; try change C _ _ _ _ _ _) | (refine Zs H ?_; clear H; (try clear w); intro w H) | (refine Zn H ?_; clear H; (try clear w); (first | ((fail_if_success (have := bl1)); intro bl1 w H) | intro _ w H)) | (refine Ze H ?_; clear H; (try clear w); intro gv w H))
        exact ⟨by (repeat (first | exact Agr.refl | exact Agr.hav | refine Agr.upd rfl ?_ | refine Agr.in rfl ?_)), acts.length - (i + 1), by omega, i + 1, s4, _, ⟨m.ents, false⟩, bM, a3, c3, an, cn, rfl, by omega, by omega, rfl, hle3''.trans hle4, hLd ▸ hL2, hval, logP_of H⟩
      · -- it stands there all the same
        have hval2 : ∀ e ∈ m.ents ++ [y], e.valid = true ∧ e.ver < 2 ^ 32 := by
          intro e he
          rcases List.mem_append.1 he with h | h
          · exact hval e h
          · rw [List.mem_singleton] at h; subst h; exact ⟨hvy2, hvy⟩
        have hsc := hL2.scan (by decide) (by decide) hval2 9 0 rfl (Nat.zero_le _)
        rw [List.drop_zero] at hsc
        have hl2 := hL2.len
        dsimp only at hl2
        have hln : (m.ents ++ [y]).length = m.ents.length + 1 := by simp
        repeat' (first | refine Z H ?_ | (refine Zc ?_ ?_ <;> intro hc <;> first | (exfalso; omega) | skip) | (refine Y ?_; try change C _ _ _ _ _ _) | (refine Zs H ?_; clear H; (try clear w); intro w H) | (refine Zn H ?_; clear H; (try clear w); (first | ((fail_if_success (have := bl1)); intro bl1 w H) | intro _ w H)) | (refine Ze H ?_; clear H; (try clear w); intro gv w H))
        first | (have hT : Holds _ _ (dsk b _ :: _) := H; clear hT) | (replace H := H.up 1 rfl; (try simp only [List.set_cons_zero, List.set_cons_succ, List.eraseIdx_cons_zero, List.eraseIdx_cons_succ] at H); have hT : Holds _ _ (dsk b _ :: _) := H; clear hT) | (replace H := H.up 2 rfl; (try simp only [List.set_cons_zero, List.set_cons_succ, List.eraseIdx_cons_zero, List.eraseIdx_cons_succ] at H); have hT : Holds _ _ (dsk b _ :: _) := H; clear hT) | (replace H := H.up 3 rfl; (try simp only [List.set_cons_zero, List.set_cons_succ, List.eraseIdx_cons_zero, List.eraseIdx_cons_succ] at H); have hT : Holds _ _ (dsk b _ :: _) := H; clear hT) | (replace H := H.up 4 rfl; (try simp only [List.set_cons_zero, List.set_cons_succ, List.eraseIdx_cons_zero, List.eraseIdx_cons_succ] at H); have hT : Holds _ _ (dsk b _ :: _) := H; clear hT) | (replace H := H.up 5 rfl; (try simp only [List.set_cons_zero, List.set_cons_succ, List.eraseIdx_cons_zero, List.eraseIdx_cons_succ] at H); have hT : Holds _ _ (dsk b _ :: _) := H; clear hT) | (replace H := H.up 6 rfl; (try simp only [List.set_cons_zero, List.set_cons_succ, List.eraseIdx_cons_zero, List.eraseIdx_cons_succ] at H); have hT : Holds _ _ (dsk b _ :: _) := H; clear hT)
        (refine X.call (Power_s H) ?_; (try clear H); rintro _ w ⟨rfl, H⟩; refine ⟨_, rfl, ?_⟩)
        replace H : Holds s3 w (dsk b (calmD d2) :: _) := H
        have H1 : Holds s3 w (dsk b (calmD d2) :: row 34 4 (.slice an m.ents.length cn) m.ents.length (m.ents.flatMap En.cells) :: var bl1 46 [.int .i64 ado, .int .i64 an1, .int .i64 y.kind, .int .i64 y.part, .int .u32 (y.ver : Int), .int .i64 y.code, .slice ka keep.length kc] :: []) := H.arr
        clear H
        have H := H1
        clear H1
        repeat' (first | refine Z H ?_ | (refine Zc ?_ ?_ <;> intro hc <;> first | (exfalso; omega) | skip) | (refine Y ?_; try change C _ _ _ _ _ _) | (refine Zs H ?_; clear H; (try clear w); intro w H) | (refine Zn H ?_; clear H; (try clear w); (first | ((fail_if_success (have := bl1)); intro bl1 w H) | intro _ w H)) | (refine Ze H ?_; clear H; (try clear w); intro gv w H))
        (refine X.call (OpenA_ok (cnt := 9) (hN.mono hle3) H (hp.mono hle3') rfl (by decide) hsc) ?_; (try clear H); rintro _ w ⟨s4, bM, a3, c3, rfl, hle4, H⟩; refine ⟨_, rfl, ?_⟩)
        repeat' (first | refine Z H ?_ | (refine Zc ?_ ?_ <;> intro hc <;> first | (exfalso; omega) | skip) | (refine Y ?_; try change C _ _ _ _ _ _) | (refine Zs H ?_; clear H; (try clear w); intro w H) | (refine Zn H ?_; clear H; (try clear w); (first | ((fail_if_success (have := bl1)); intro bl1 w H) | intro _ w H)) | (refine Ze H ?_; clear H; (try clear w); intro gv w H))
        have hE := Entries_s (m := ⟨m.ents ++ [y], false⟩) H (by dsimp only; omega)
        dsimp only at hE
        (refine X.call (hE) ?_; (try clear H); rintro _ w ⟨a4, c4, rfl, H⟩; refine ⟨_, rfl, ?_⟩)
        clear hE
        obtain ⟨g4, rfl, _⟩ := H.form (i := 0) rfl (by omega)
        repeat' (first | refine Z H ?_ | (refine Zc ?_ ?_ <;> intro hc <;> first | (exfalso; omega) | skip) | (refine Y ?_; try change C _ _ _ _ _ _) | (refine Zs H ?_; clear H; (try clear w); intro w H) | (refine Zn H ?_; clear H; (try clear w); (first | ((fail_if_success (have := bl1)); intro bl1 w H) | intro _ w H)) | (refine Ze H ?_; clear H; (try clear w); intro gv w H))
        refine C.drawn1 [0, 0, 0, 0, 0, 0, 0, 0, 0, 0, 0, 0, 0, 0, 0, 1, 0, 1, 3, 0] [0, 1, 0, 4, 12, 31, 63, 127, 255, 511, 1023, 2047, 2047, 6143, 16383, 32767, 2047, 67583, 262143, 524287] (by kernel_rfl) ?_
        replace H := H.drew
        dsimp only [logP] at H
        have hat := en_at m.ents y
        dsimp only [En.cells] at hat
        rw [hln] at H ⊢
        repeat' (first | (refine X.ldp [.int .i64 y.kind, .int .i64 y.part, .int .u32 (y.ver : Int), .int .i64 y.code] H ?_) | (refine X.rdp H ?_) | (refine eqE y y ?_; rw [decide_eq_true rfl]) | refine Z H ?_ | (refine Zc ?_ ?_ <;> intro hc <;> first | (exfalso; omega) | skip) | (refine Y ?_; try change C _ _ _ _ _ _) | (refine Zs H ?_; clear H; (try clear w); intro w H) | (refine Zn H ?_; clear H; (try clear w); (first | ((fail_if_success (have := bl1)); intro bl1 w H) | intro _ w H)) | (refine Ze H ?_; clear H; (try clear w); intro gv w H))
        refine K.one H rfl rfl (by conv => lhs; whnf) (by rfl) (by rfl) ?_; clear H; (try clear w); intro g1 w H
        repeat' (first | (refine X.app H ?_; clear H; intro a6 c6 w H) | refine Z H ?_ | (refine Zc ?_ ?_ <;> intro hc <;> first | (exfalso; omega) | skip) | (refine Y ?_; try change C _ _ _ _ _ _) | (refine Zs H ?_; clear H; (try clear w); intro w H) | (refine Zn H ?_; clear H; (try clear w); (first | ((fail_if_success (have := bl1)); intro bl1 w H) | intro _ w H)) | (refine Ze H ?_; clear H; (try clear w); intro gv w H))
        have hS := same_e (l := m.ents ++ [y]) (m := m.ents ++ [y]) (v := .slice (some ⟨g4, 0, none⟩) (m.ents ++ [y]).length c4) (u := .slice a6 (m.ents ++ [y]).length c6) H (by rw [hln]; exact .own 1 _ rfl) (by rw [hln, flat_en]; exact .own 5 _ rfl) (by omega) (by omega)
        rw [decide_eq_true rfl, hln] at hS
        (refine X.call (hS) ?_; (try clear H); rintro _ w ⟨rfl, ho, H⟩; refine ⟨_, rfl, ?_⟩)
        clear ho hS
        repeat' (first | refine Z H ?_ | (refine Zc ?_ ?_ <;> intro hc <;> first | (exfalso; omega) | skip) | (refine Y ?_; try change C _ _ _ _ _ _) | (refine Zs H ?_; clear H; (try clear w); intro w H) | (refine Zn H ?_; clear H; (try clear w); (first | ((fail_if_success (have := bl1)); intro bl1 w H) | intro _ w H)) | (refine Ze H ?_; clear H; (try clear w); intro gv w H))
        refine ⟨by (repeat (first | exact Agr.refl | exact Agr.hav | refine Agr.upd rfl ?_ | refine Agr.in rfl ?_)), acts.length - (i + 1), by omega, i + 1, s4, _, ⟨m.ents ++ [y], false⟩, bM, a3, c3, a6, c6, rfl, by omega, by omega, by rw [hln]; rfl, hle3''.trans hle4, hL2, hval2, ?_⟩
        have H1 : Holds s4 w (var bM 112 [.pointer (some ⟨bp, 0, none⟩), .slice a3 (m.ents ++ [y]).length c3, .bool false] :: row 34 4 (.slice a3 (m.ents ++ [y]).length c3) (m.ents ++ [y]).length ((m.ents ++ [y]).flatMap En.cells) :: row 34 4 (.slice a6 (m.ents ++ [y]).length c6) (m.ents ++ [y]).length ((m.ents ++ [y]).flatMap En.cells) :: dsk b (calmD d2) :: []) := by
          simp only [List.length_append, flat_en, List.length_cons, List.length_nil, Nat.zero_add] at H ⊢
          exact H.arr
        exact H1
  · dsimp only [logP] at H
    have hlen2 : m.ents.length ≤ 1000 := by omega
    repeat' (first | refine Z H ?_ | (refine Zc ?_ ?_ <;> intro hc <;> first | (exfalso; omega) | skip) | (refine Y ?_; try change C _ _ _ _ _ _) | (refine Zs H ?_; clear H; (try clear w); intro w H) | (refine Zn H ?_; clear H; (try clear w); (first | ((fail_if_success (have := bl1)); intro bl1 w H) | intro _ w H)) | (refine Ze H ?_; clear H; (try clear w); intro gv w H))
    all_goals
      have hE := Entries_s (m := m) (bp := bp) (R := row 34 4 (.slice an m.ents.length cn) m.ents.length (m.ents.flatMap En.cells) :: dsk b d :: []) H hlen2
      (refine X.call (hE) ?_; (try clear H); rintro _ w ⟨a4, c4, rfl, H⟩; refine ⟨_, rfl, ?_⟩)
      clear hE
      repeat' (first | refine Z H ?_ | (refine Zc ?_ ?_ <;> intro hc <;> first | (exfalso; omega) | skip) | (refine Y ?_; try change C _ _ _ _ _ _) | (refine Zs H ?_; clear H; (try clear w); intro w H) | (refine Zn H ?_; clear H; (try clear w); (first | ((fail_if_success (have := bl1)); intro bl1 w H) | intro _ w H)) | (refine Ze H ?_; clear H; (try clear w); intro gv w H))
      have hS := same_e (l := m.ents) (m := m.ents) (v := .slice a4 m.ents.length c4) (u := .slice an m.ents.length cn) H (.own 0 _ rfl) (.own 3 _ rfl) (by omega) (by omega)
      rw [decide_eq_true rfl] at hS
      (refine X.call (hS) ?_; (try clear H); rintro _ w ⟨rfl, ho, H⟩; refine ⟨_, rfl, ?_⟩)
      clear ho hS
      repeat' (first | refine Z H ?_ | (refine Zc ?_ ?_ <;> intro hc <;> first | (exfalso; omega) | skip) | (refine Y ?_; try change C _ _ _ _ _ _) | (refine Zs H ?_; clear H; (try clear w); intro w H) | (refine Zn H ?_; clear H; (try clear w); (first | ((fail_if_success (have := bl1)); intro bl1 w H) | intro _ w H)) | (refine Ze H ?_; clear H; (try clear w); intro gv w H))
      (refine X.call (awake20 (hN.mono hle3) H) ?_; (try clear H); rintro _ w ⟨s5, rfl, hle5, H⟩; refine ⟨_, rfl, ?_⟩)
      repeat' (first | refine Z H ?_ | (refine Zc ?_ ?_ <;> intro hc <;> first | (exfalso; omega) | skip) | (refine Y ?_; try change C _ _ _ _ _ _) | (refine Zs H ?_; clear H; (try clear w); intro w H) | (refine Zn H ?_; clear H; (try clear w); (first | ((fail_if_success (have := bl1)); intro bl1 w H) | intro _ w H)) | (refine Ze H ?_; clear H; (try clear w); intro gv w H))
      exact ⟨_, resT rfl, rfl, H.done (hle3.trans hle5)⟩
theorem keeps_rdg {w : World} {a : Option Addr} {n c : Nat} (hN : Nib (startRo w)) (g : Rdg Tryd.prog w 43 [.slice a n c]) : Calls Tryd.prog 4 #[.slice a n c] w fun e w' => e = .returned (.bool true) ∧ Only [] w w' := by
  obtain ⟨l, h1, h2⟩ := acts20_of g
  obtain ⟨va, vc, hv, _⟩ := formS h1
  cases hv
  exact (keeps_walk hN (Holds.start w) h1 h2).mono fun e w' h => ⟨h.1, h.2.only⟩
end
end Go.Proofs.YtbknpbihgfphaaaDoor

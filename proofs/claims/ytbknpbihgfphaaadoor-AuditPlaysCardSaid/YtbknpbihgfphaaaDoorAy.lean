/- Layer 20's helpers: same, part, May, awake. -/
import Derived.Test.YtbknpbihgfphaaaDoorAw
import Derived.Test.YtbknpbihgfphaaaDoorK7
import Derived.Laws.StructEq
set_option linter.unusedSimpArgs false
set_option linter.unusedVariables false
namespace Go.Proofs.YtbknpbihgfphaaaDoor
open Go Go.RowKit Go.Own

theorem eq_entry (x y : En) (w : World) : (Op.equalIn 10000 34 (.agg #[.int .i64 x.kind, .int .i64 x.part, .int .u32 (x.ver : Int), .int .i64 x.code]) (.agg #[.int .i64 y.kind, .int .i64 y.part, .int .u32 (y.ver : Int), .int .i64 y.code])).run Tryd.prog w = .ok (decide (x = y)) w := by
  have u3 := Tryd.underlying3
  have a3 := Tryd.isAgg3
  have z3 := Tryd.sizeOf3
  have u4 := Tryd.underlying32
  have a4 := Tryd.isAgg32
  have z4 := Tryd.sizeOf32
  have hS : Tryd.prog.underlying 34 = some (.struct (Tryd.prog.fieldsOf 34)) := by kernel_rfl
  have hp : Tryd.prog.stoodInHeld 34 = false := by kernel_rfl
  rw [show (10000 : Nat) = 9999 + 1 from rfl, run_equalIn_agg w 9999 34 _ _ hS hp]
  simp only [Program.fieldsOf, Tryd.underlying34]
  go_simp
  obtain ⟨k, p, v, c⟩ := x
  obtain ⟨k', p', v', c'⟩ := y
  simp only [En.mk.injEq]
  by_cases h1 : k = k' <;> by_cases h2 : p = p' <;> by_cases h3 : v = v' <;> by_cases h4 : c = c' <;> simp [h1, h2, h3, h4] <;> omega
section
variable {n : Nat} {ops : Array Oper} {Q : Post} {rest : List Oper} {e : Env} {w : World} {tt : Nat} {pp : String} {af : Array Edge} {g : Option (Nat × Bool)} {d : Nat}
theorem neqE {x y : Operand} {u : TypeId} (X Y : En) (h : L Tryd.prog n ops Q rest (upd e d (.bool (!decide (X = Y)))) w) (hw : wg n ops g e = true := by rfl) (hd : Nat.blt d n = true := by rfl) (hx : ev e x = .agg #[.int .i64 X.kind, .int .i64 X.part, .int .u32 (X.ver : Int), .int .i64 X.code] := by rfl) (hy : ev e y = .agg #[.int .i64 Y.kind, .int .i64 Y.part, .int .u32 (Y.ver : Int), .int .i64 Y.code] := by rfl) : L Tryd.prog n ops Q (⟨some d, .binOp .neq 34 x y u, tt, pp, af, g⟩ :: rest) e w :=
  L.val (o := ⟨some d, .binOp .neq 34 x y u, tt, pp, af, g⟩) _ w hw hd (by
    have hq := eq_entry X Y w
    have hg : Tryd.prog.eqGuardType Tryd.prog.depth 34 = false := by kernel_rfl
    unfold execOp
    simp only [hx, hy, Sem.run_bind, run_eqGuard_agg w .neq 34 x y _ _ hg, Result.andThen_ok, run_neq_struct, hq, Sem.run_pure]) h
end
section
variable {s : Ro} {w : World} {R : List Asn}
set_option maxRecDepth 100000 in
set_option maxHeartbeats 1000000 in
theorem same_s {l m : List En} {a a' : Option Addr} {c c' : Nat} (H : Holds s w R) (h : SlS s (.slice a l.length c) 4 l.length (l.flatMap En.cells)) (k : SlS s (.slice a' m.length c') 4 m.length (m.flatMap En.cells)) (hl : l.length ≤ 1000) (hm : m.length ≤ 1000) : Calls Tryd.prog 22 #[.slice a l.length c, .slice a' m.length c'] w fun e w' => e = .returned (.bool (decide (l = m))) ∧ Holds s w' R := by
  refine enter Tryd.func22 rfl Tryd.ntmps22 rfl ?_
  by_cases hlm : l.length = m.length
  rotate_left
  · repeat' (first | refine Z H ?_ | (refine Zc ?_ ?_ <;> intro hc <;> first | (exfalso; omega) | skip) | (refine Y ?_; try change C _ _ _ _ _ _) | (refine Zs H ?_; clear H; (try clear w); intro w H) | (refine Zn H ?_; clear H; (try clear w); intro _ w H) | (refine Ze H ?_; clear H; (try clear w); intro gv w H))
    exact ⟨_, resT rfl, by rw [decide_eq_false (fun h => hlm (by rw [h]))]; rfl, H⟩
  repeat' (first | refine Z H ?_ | (refine Zc ?_ ?_ <;> intro hc <;> first | (exfalso; omega) | skip) | (refine Y ?_; try change C _ _ _ _ _ _) | (refine Zs H ?_; clear H; (try clear w); intro w H) | (refine Zn H ?_; clear H; (try clear w); intro _ w H) | (refine Ze H ?_; clear H; (try clear w); intro gv w H))
  refine C.loopH H [4, 5, 11, 12, 13, 14, 15, 16, 17, 18, 19, 20, 21, 22, 23, 24, 25] [5] rfl (fun j vs => ∃ i : Nat, j = l.length - i ∧ i ≤ l.length ∧ vs = [.int .i64 (i : Int)] ∧ l.take i = m.take i) l.length ⟨0, rfl, Nat.zero_le _, rfl, rfl⟩ ?_
  clear H
  rintro j vs hv w ⟨i, rfl, hi, rfl, heq⟩ H
  by_cases hlt : i < l.length
  · obtain ⟨g1, o1, c1, e1, _, _, hp1⟩ := elemS h (fun _ _ => rfl) (by decide) (by omega)
    obtain ⟨g2, o2, c2, e2, _, _, hp2⟩ := elemS k (fun _ _ => rfl) (by decide) (by omega)
    cases e1
    cases e2
    have hlt2 : i < m.length := by omega
    have q1 : ∀ j v, ([.int .i64 l[i].kind, .int .i64 l[i].part, .int .u32 (l[i].ver : Int), .int .i64 l[i].code] : List Value)[j]? = some v → Pin s g1 (o1 + i * 4 + j) v := hp1 i hlt
    have q2 : ∀ j v, ([.int .i64 m[i].kind, .int .i64 m[i].part, .int .u32 (m[i].ver : Int), .int .i64 m[i].code] : List Value)[j]? = some v → Pin s g2 (o2 + i * 4 + j) v := hp2 i hlt2
    repeat' (first | refine Z H ?_ | (refine Zc ?_ ?_ <;> intro hc <;> first | (exfalso; omega) | skip) | (refine Y ?_; try change C _ _ _ _ _ _) | (refine Zs H ?_; clear H; (try clear w); intro w H) | (refine Zn H ?_; clear H; (try clear w); intro _ w H) | (refine Ze H ?_; clear H; (try clear w); intro gv w H))
    refine C.drawn1 [0, 0, 0, 1, 0, 0, 0, 1, 3] [0, 0, 3, 7, 0, 0, 48, 112, 255] (by kernel_rfl) ?_
    replace H := H.drew
    by_cases hx : l[i] = m[i]
    · repeat' (first | (refine neqE l[i] m[i] ?_; rw [decide_eq_true hx]) | refine Z H ?_ | (refine Zc ?_ ?_ <;> intro hc <;> first | (exfalso; omega) | skip) | (refine Y ?_; try change C _ _ _ _ _ _) | (refine Zs H ?_; clear H; (try clear w); intro w H) | (refine Zn H ?_; clear H; (try clear w); intro _ w H) | (refine Ze H ?_; clear H; (try clear w); intro gv w H))
      exact ⟨by (repeat (first | exact Agr.refl | exact Agr.hav | refine Agr.upd rfl ?_ | refine Agr.in rfl ?_)), l.length - (i + 1), by omega, ⟨i + 1, rfl, by omega, rfl, by rw [List.take_succ_eq_append_getElem hlt, List.take_succ_eq_append_getElem hlt2, heq, hx]⟩, H⟩
    · repeat' (first | (refine neqE l[i] m[i] ?_; rw [decide_eq_false hx]) | refine Z H ?_ | (refine Zc ?_ ?_ <;> intro hc <;> first | (exfalso; omega) | skip) | (refine Y ?_; try change C _ _ _ _ _ _) | (refine Zs H ?_; clear H; (try clear w); intro w H) | (refine Zn H ?_; clear H; (try clear w); intro _ w H) | (refine Ze H ?_; clear H; (try clear w); intro gv w H))
      refine ⟨_, resT rfl, ?_, H⟩
      rw [decide_eq_false (fun h => hx (by subst h; rfl))]
      rfl
  · have hie : i = l.length := by omega
    subst hie
    rw [List.take_length, hlm, List.take_length] at heq
    repeat' (first | refine Z H ?_ | (refine Zc ?_ ?_ <;> intro hc <;> first | (exfalso; omega) | skip) | (refine Y ?_; try change C _ _ _ _ _ _) | (refine Zs H ?_; clear H; (try clear w); intro w H) | (refine Zn H ?_; clear H; (try clear w); intro _ w H) | (refine Ze H ?_; clear H; (try clear w); intro gv w H))
    exact ⟨_, resT rfl, by rw [decide_eq_true heq]; rfl, H⟩
theorem same_e {l m : List En} {v u : Value} (H : Holds s w R) (h : Src s R v 4 l.length (l.flatMap En.cells)) (k : Src s R u 4 m.length (m.flatMap En.cells)) (hl : l.length ≤ 1000) (hm : m.length ≤ 1000) : Calls Tryd.prog 22 #[v, u] w fun e w' => e = .returned (.bool (decide (l = m))) ∧ Only [] w w' ∧ Holds s w' R := by
  obtain ⟨_, _, rfl, _⟩ := h.form H
  obtain ⟨_, _, rfl, _⟩ := k.form H
  exact (same_s H.full (h.full H) (k.full H) hl hm).mono fun e w' ⟨he, H'⟩ => ⟨he, H.pure0 H'⟩
set_option maxRecDepth 100000 in
set_option maxHeartbeats 1000000 in
theorem May20_s {x : En} (H : Holds s w R) : Calls Tryd.prog 15 #[.agg #[.int .i64 x.kind, .int .i64 x.part, .int .u32 (x.ver : Int), .int .i64 x.code]] w fun e w' => e = .returned (.bool x.valid) ∧ Holds s w' R := by
  refine enter Tryd.func15 rfl Tryd.ntmps15 rfl ?_
  repeat' (first | refine Z H ?_ | (refine Zc ?_ ?_ <;> intro hc <;> first | (exfalso; omega) | skip) | (refine Y ?_; try change C _ _ _ _ _ _) | (refine Zs H ?_; clear H; (try clear w); intro w H) | (refine Zn H ?_; clear H; (try clear w); intro _ w H) | (refine Ze H ?_; clear H; (try clear w); intro gv w H))
  all_goals
    refine ⟨_, resT rfl, ?_, H.tail⟩
    unfold En.valid
    first
      | rw [decide_eq_true (by omega)]; rfl
      | rw [decide_eq_false (by omega)]; rfl
theorem part20_s {cnt : Nat} (H : Holds s w R) (h1 : 1 ≤ cnt) (h2 : cnt ≤ 10) : Calls Tryd.prog 12 #[.int .i64 (cnt : Int)] w fun e w' => ∃ s' b bp, e = .returned (.tuple #[.pointer (some ⟨b, 0, none⟩), .pointer (some ⟨bp, 0, none⟩), .bool true]) ∧ s.Le s' ∧ PartS s' bp b (((2 : Nat) : Int), (cnt : Int)) ∧ Holds s' w' (dsk b (DM.new 12) :: R) := by
  refine enter Tryd.func12 rfl Tryd.ntmps12 rfl ?_
  repeat' (first | refine Z H ?_ | (refine Zc ?_ ?_ <;> intro hc <;> first | (exfalso; omega) | skip) | (refine Y ?_; try change C _ _ _ _ _ _) | (refine Zs H ?_; clear H; (try clear w); intro w H) | (refine Zn H ?_; clear H; (try clear w); intro _ w H) | (refine Ze H ?_; clear H; (try clear w); intro gv w H))
  (refine X.call (New_s (n := 12) H (by decide) (by decide)) ?_; (try clear H); rintro _ w ⟨b, rfl, H⟩; refine ⟨_, rfl, ?_⟩)
  repeat' (first | (refine K.build [(0, .int .i64 _), (1, .int .i64 _)] (.agg #[.int .i64 _, .int .i64 _]) (build_ext' _ _) rfl rfl rfl ?_) | refine Z H ?_ | (refine Zc ?_ ?_ <;> intro hc <;> first | (exfalso; omega) | skip) | (refine Y ?_; try change C _ _ _ _ _ _) | (refine Zs H ?_; clear H; (try clear w); intro w H) | (refine Zn H ?_; clear H; (try clear w); intro _ w H) | (refine Ze H ?_; clear H; (try clear w); intro gv w H))
  have hNw := New_p1 (x := (((2 : Nat) : Int), (cnt : Int))) H (by unfold I64; simp only; omega) (by unfold liesM; simp [DM.new]; omega)
  (refine X.call (hNw) ?_; (try clear H); rintro _ w ⟨s1, bp, rfl, hs1, hp, H⟩; refine ⟨_, rfl, ?_⟩)
  repeat' (first | refine Z H ?_ | (refine Zc ?_ ?_ <;> intro hc <;> first | (exfalso; omega) | skip) | (refine Y ?_; try change C _ _ _ _ _ _) | (refine Zs H ?_; clear H; (try clear w); intro w H) | (refine Zn H ?_; clear H; (try clear w); intro _ w H) | (refine Ze H ?_; clear H; (try clear w); intro gv w H))
  exact ⟨_, resTTT rfl, s1, b, bp, rfl, hs1, hp, H⟩
end
end Go.Proofs.YtbknpbihgfphaaaDoor

/- extent.Place, extent.Lies, the document's Lies, Place, Meet; the comparison of extents. -/
import Derived.Test.YtmcojfpomejnnaaEngP
import Derived.Test.YtmcojfpomejnnaaTy
set_option linter.unusedSimpArgs false
set_option linter.unusedVariables false
namespace Go.Proofs.Ytmcojfpomejnnaa
open Go Go.RowKit Go.Own

def I64 (x : Int) : Prop := -9223372036854775808 ≤ x ∧ x ≤ 9223372036854775807
/-- an extent: From, Count -/
abbrev Ext := Int × Int
def Ext.ok (x : Ext) : Prop := I64 x.1 ∧ I64 x.2
def Ext.cells (x : Ext) : List Value := [.int .i64 x.1, .int .i64 x.2]
def placeM (f c a : Int) : Int × Int := if a < 0 ∨ c ≤ a then (0, 4) else if 9223372036854775807 - a < f then (0, 4) else (f + a, 0)
def liesM (f c n : Int) : Bool := decide (1 ≤ c ∧ 0 ≤ f ∧ f ≤ n ∧ c ≤ n - f)
/-- the later one's beginning -/
def meetM (f c g d : Int) : Bool := decide (1 ≤ c ∧ 1 ≤ d ∧ (f = g ∨ f < g ∧ g - f < c ∨ g < f ∧ f - g < d))

section
variable {s : Ro} {w : World} {R : List Asn} {f c a g d n : Int}

theorem Place_s (H : Holds s w R) (hf : I64 f) (hc : I64 c) (ha : I64 a) : Calls Try.prog 75 #[.agg #[.int .i64 f, .int .i64 c], .int .i64 a] w fun e w' => e = .returned (.tuple #[.int .i64 (placeM f c a).1, .int .i64 (placeM f c a).2]) ∧ Holds s w' R := by
  unfold I64 at hf hc ha
  unfold placeM
  refine enter Try.func75 rfl Try.ntmps75 rfl ?_
  repeat' (first | (refine C.seq ?_) | (refine C.region ?_) | (refine C.block ?_) | ((first | refine C.skip ?_ | refine C.exit ?_ | refine J.nil ?_ | refine L.nil ?_); (try change C _ _ _ _ _ _)) | (refine C.ret ?_) | (refine J.tru ?_) | (refine J.fls ?_) | (refine J.mv ?_) | (refine J.asg ?_) | (refine J.fa0 ?_) | (refine J.load 0 H ?_) | (refine J.load 1 H ?_) | (refine J.load 2 H ?_) | (refine J.load 3 H ?_) | (refine J.loadA 0 H ?_) | (refine J.loadA 1 H ?_) | (refine J.loadA 2 H ?_) | (refine J.loadA 3 H ?_) | (refine J.len ?_) | (refine J.lenS ?_) | ((first | refine J.lt ?_ ?_ | refine J.ge ?_ ?_ | refine J.le ?_ ?_ | refine J.gt ?_ ?_ | refine J.eq ?_ ?_ | refine J.ne ?_ ?_ | refine J.eqS ?_ ?_ | refine J.neS ?_ ?_) <;> intro hc <;> (first | (exfalso; omega) | skip)) | (refine J.pickT ?_) | (refine J.pickF ?_) | (refine J.ext ?_) | (refine J.neg ?_) | (refine J.add ?_) | (refine J.sub ?_) | (refine J.fa ?_) | (refine J.cat ?_) | (refine J.nilP ?_) | (refine J.ia ?_) | (refine J.chk ?_) | (refine J.arr ?_) | (refine J.iaA ?_) | ((first | refine J.store 0 H ?_ | refine J.store 1 H ?_ | refine J.store 2 H ?_ | refine J.store 3 H ?_ | refine J.storeA 0 H ?_ | refine J.storeA 1 H ?_ | refine J.storeA 2 H ?_ | refine J.storeA 3 H ?_); clear H; (try clear w); intro w H; (try simp only [List.set_cons_zero, List.set_cons_succ, List.eraseIdx_cons_zero, List.eraseIdx_cons_succ] at H)) | ((first | refine J.box H ?_ | refine J.box1 H ?_ | refine J.new H ?_); clear H; (try clear w); (first | ((fail_if_success (have := bl1)); intro bl1 w H) | ((fail_if_success (have := bl2)); intro bl2 w H) | ((fail_if_success (have := bl3)); intro bl3 w H) | ((fail_if_success (have := bl4)); intro bl4 w H) | ((fail_if_success (have := bl5)); intro bl5 w H) | ((fail_if_success (have := bl6)); intro bl6 w H))) | (refine J.empty H ?_; clear H; (try clear w); intro gv w H) | (refine J.not ?_) | (refine J.not0 ?_))
  all_goals
    refine ⟨_, resTT rfl, ?_, H.tail⟩
    first
      | rw [if_pos (by omega)]; rfl
      | rw [if_neg (by omega), if_pos (by omega)]; rfl
      | rw [if_neg (by omega), if_neg (by omega)]; rfl

theorem Lies_s (H : Holds s w R) (hf : I64 f) (hc : I64 c) (hn : I64 n) : Calls Try.prog 50 #[.agg #[.int .i64 f, .int .i64 c], .int .i64 n] w fun e w' => e = .returned (.bool (liesM f c n)) ∧ Holds s w' R := by
  unfold I64 at hf hc hn
  unfold liesM
  refine enter Try.func50 rfl Try.ntmps50 rfl ?_
  repeat' (first | (refine C.seq ?_) | (refine C.region ?_) | (refine C.block ?_) | ((first | refine C.skip ?_ | refine C.exit ?_ | refine J.nil ?_ | refine L.nil ?_); (try change C _ _ _ _ _ _)) | (refine C.ret ?_) | (refine J.tru ?_) | (refine J.fls ?_) | (refine J.mv ?_) | (refine J.asg ?_) | (refine J.fa0 ?_) | (refine J.load 0 H ?_) | (refine J.load 1 H ?_) | (refine J.load 2 H ?_) | (refine J.load 3 H ?_) | (refine J.loadA 0 H ?_) | (refine J.loadA 1 H ?_) | (refine J.loadA 2 H ?_) | (refine J.loadA 3 H ?_) | (refine J.len ?_) | (refine J.lenS ?_) | ((first | refine J.lt ?_ ?_ | refine J.ge ?_ ?_ | refine J.le ?_ ?_ | refine J.gt ?_ ?_ | refine J.eq ?_ ?_ | refine J.ne ?_ ?_ | refine J.eqS ?_ ?_ | refine J.neS ?_ ?_) <;> intro hc <;> (first | (exfalso; omega) | skip)) | (refine J.pickT ?_) | (refine J.pickF ?_) | (refine J.ext ?_) | (refine J.neg ?_) | (refine J.add ?_) | (refine J.sub ?_) | (refine J.fa ?_) | (refine J.cat ?_) | (refine J.nilP ?_) | (refine J.ia ?_) | (refine J.chk ?_) | (refine J.arr ?_) | (refine J.iaA ?_) | ((first | refine J.store 0 H ?_ | refine J.store 1 H ?_ | refine J.store 2 H ?_ | refine J.store 3 H ?_ | refine J.storeA 0 H ?_ | refine J.storeA 1 H ?_ | refine J.storeA 2 H ?_ | refine J.storeA 3 H ?_); clear H; (try clear w); intro w H; (try simp only [List.set_cons_zero, List.set_cons_succ, List.eraseIdx_cons_zero, List.eraseIdx_cons_succ] at H)) | ((first | refine J.box H ?_ | refine J.box1 H ?_ | refine J.new H ?_); clear H; (try clear w); (first | ((fail_if_success (have := bl1)); intro bl1 w H) | ((fail_if_success (have := bl2)); intro bl2 w H) | ((fail_if_success (have := bl3)); intro bl3 w H) | ((fail_if_success (have := bl4)); intro bl4 w H) | ((fail_if_success (have := bl5)); intro bl5 w H) | ((fail_if_success (have := bl6)); intro bl6 w H))) | (refine J.empty H ?_; clear H; (try clear w); intro gv w H) | (refine J.not ?_) | (refine J.not0 ?_))
  all_goals
    refine ⟨_, resT rfl, ?_, H.tail⟩
    first
      | rw [decide_eq_true (by omega)]; rfl
      | rw [decide_eq_false (by omega)]; rfl

theorem Lies_r (H : Holds s w R) (hf : I64 f) (hc : I64 c) (hn : I64 n) : Calls Try.prog 55 #[.int .i64 f, .int .i64 c, .int .i64 n] w fun e w' => e = .returned (.bool (liesM f c n)) ∧ Holds s w' R := by
  unfold I64 at hf hc hn
  unfold liesM
  refine enter Try.func55 rfl Try.ntmps55 rfl ?_
  repeat' (first | (refine C.seq ?_) | (refine C.region ?_) | (refine C.block ?_) | ((first | refine C.skip ?_ | refine C.exit ?_ | refine J.nil ?_ | refine L.nil ?_); (try change C _ _ _ _ _ _)) | (refine C.ret ?_) | (refine J.tru ?_) | (refine J.fls ?_) | (refine J.mv ?_) | (refine J.asg ?_) | (refine J.fa0 ?_) | (refine J.load 0 H ?_) | (refine J.load 1 H ?_) | (refine J.load 2 H ?_) | (refine J.load 3 H ?_) | (refine J.loadA 0 H ?_) | (refine J.loadA 1 H ?_) | (refine J.loadA 2 H ?_) | (refine J.loadA 3 H ?_) | (refine J.len ?_) | (refine J.lenS ?_) | ((first | refine J.lt ?_ ?_ | refine J.ge ?_ ?_ | refine J.le ?_ ?_ | refine J.gt ?_ ?_ | refine J.eq ?_ ?_ | refine J.ne ?_ ?_ | refine J.eqS ?_ ?_ | refine J.neS ?_ ?_) <;> intro hc <;> (first | (exfalso; omega) | skip)) | (refine J.pickT ?_) | (refine J.pickF ?_) | (refine J.ext ?_) | (refine J.neg ?_) | (refine J.add ?_) | (refine J.sub ?_) | (refine J.fa ?_) | (refine J.cat ?_) | (refine J.nilP ?_) | (refine J.ia ?_) | (refine J.chk ?_) | (refine J.arr ?_) | (refine J.iaA ?_) | ((first | refine J.store 0 H ?_ | refine J.store 1 H ?_ | refine J.store 2 H ?_ | refine J.store 3 H ?_ | refine J.storeA 0 H ?_ | refine J.storeA 1 H ?_ | refine J.storeA 2 H ?_ | refine J.storeA 3 H ?_); clear H; (try clear w); intro w H; (try simp only [List.set_cons_zero, List.set_cons_succ, List.eraseIdx_cons_zero, List.eraseIdx_cons_succ] at H)) | ((first | refine J.box H ?_ | refine J.box1 H ?_ | refine J.new H ?_); clear H; (try clear w); (first | ((fail_if_success (have := bl1)); intro bl1 w H) | ((fail_if_success (have := bl2)); intro bl2 w H) | ((fail_if_success (have := bl3)); intro bl3 w H) | ((fail_if_success (have := bl4)); intro bl4 w H) | ((fail_if_success (have := bl5)); intro bl5 w H) | ((fail_if_success (have := bl6)); intro bl6 w H))) | (refine J.empty H ?_; clear H; (try clear w); intro gv w H) | (refine J.not ?_) | (refine J.not0 ?_))
  all_goals
    refine ⟨_, resT rfl, ?_, H⟩
    first
      | rw [decide_eq_true (by omega)]; rfl
      | rw [decide_eq_false (by omega)]; rfl

theorem Place_r (H : Holds s w R) (hf : I64 f) (hc : I64 c) (ha : I64 a) : Calls Try.prog 56 #[.int .i64 f, .int .i64 c, .int .i64 a] w fun e w' => e = .returned (.tuple #[.int .i64 (placeM f c a).1, .bool (decide ((placeM f c a).2 = 0))]) ∧ Holds s w' R := by
  unfold I64 at hf hc ha
  unfold placeM
  refine enter Try.func56 rfl Try.ntmps56 rfl ?_
  repeat' (first | (refine C.seq ?_) | (refine C.region ?_) | (refine C.block ?_) | ((first | refine C.skip ?_ | refine C.exit ?_ | refine J.nil ?_ | refine L.nil ?_); (try change C _ _ _ _ _ _)) | (refine C.ret ?_) | (refine J.tru ?_) | (refine J.fls ?_) | (refine J.mv ?_) | (refine J.asg ?_) | (refine J.fa0 ?_) | (refine J.load 0 H ?_) | (refine J.load 1 H ?_) | (refine J.load 2 H ?_) | (refine J.load 3 H ?_) | (refine J.loadA 0 H ?_) | (refine J.loadA 1 H ?_) | (refine J.loadA 2 H ?_) | (refine J.loadA 3 H ?_) | (refine J.len ?_) | (refine J.lenS ?_) | ((first | refine J.lt ?_ ?_ | refine J.ge ?_ ?_ | refine J.le ?_ ?_ | refine J.gt ?_ ?_ | refine J.eq ?_ ?_ | refine J.ne ?_ ?_ | refine J.eqS ?_ ?_ | refine J.neS ?_ ?_) <;> intro hc <;> (first | (exfalso; omega) | skip)) | (refine J.pickT ?_) | (refine J.pickF ?_) | (refine J.ext ?_) | (refine J.neg ?_) | (refine J.add ?_) | (refine J.sub ?_) | (refine J.fa ?_) | (refine J.cat ?_) | (refine J.nilP ?_) | (refine J.ia ?_) | (refine J.chk ?_) | (refine J.arr ?_) | (refine J.iaA ?_) | ((first | refine J.store 0 H ?_ | refine J.store 1 H ?_ | refine J.store 2 H ?_ | refine J.store 3 H ?_ | refine J.storeA 0 H ?_ | refine J.storeA 1 H ?_ | refine J.storeA 2 H ?_ | refine J.storeA 3 H ?_); clear H; (try clear w); intro w H; (try simp only [List.set_cons_zero, List.set_cons_succ, List.eraseIdx_cons_zero, List.eraseIdx_cons_succ] at H)) | ((first | refine J.box H ?_ | refine J.box1 H ?_ | refine J.new H ?_); clear H; (try clear w); (first | ((fail_if_success (have := bl1)); intro bl1 w H) | ((fail_if_success (have := bl2)); intro bl2 w H) | ((fail_if_success (have := bl3)); intro bl3 w H) | ((fail_if_success (have := bl4)); intro bl4 w H) | ((fail_if_success (have := bl5)); intro bl5 w H) | ((fail_if_success (have := bl6)); intro bl6 w H))) | (refine J.empty H ?_; clear H; (try clear w); intro gv w H) | (refine J.not ?_) | (refine J.not0 ?_))
  all_goals
    refine ⟨_, resTT rfl, ?_, H⟩
    first
      | rw [if_pos (by omega)]; rfl
      | rw [if_neg (by omega), if_pos (by omega)]; rfl
      | rw [if_neg (by omega), if_neg (by omega)]; rfl

theorem Meet_r (H : Holds s w R) (hf : I64 f) (hc : I64 c) (hg : I64 g) (hd : I64 d) : Calls Try.prog 74 #[.int .i64 f, .int .i64 c, .int .i64 g, .int .i64 d] w fun e w' => e = .returned (.bool (meetM f c g d)) ∧ Holds s w' R := by
  unfold I64 at hf hc hg hd
  unfold meetM
  refine enter Try.func74 rfl Try.ntmps74 rfl ?_
  repeat' (first | (refine C.seq ?_) | (refine C.region ?_) | (refine C.block ?_) | ((first | refine C.skip ?_ | refine C.exit ?_ | refine J.nil ?_ | refine L.nil ?_); (try change C _ _ _ _ _ _)) | (refine C.ret ?_) | (refine J.tru ?_) | (refine J.fls ?_) | (refine J.mv ?_) | (refine J.asg ?_) | (refine J.fa0 ?_) | (refine J.load 0 H ?_) | (refine J.load 1 H ?_) | (refine J.load 2 H ?_) | (refine J.load 3 H ?_) | (refine J.loadA 0 H ?_) | (refine J.loadA 1 H ?_) | (refine J.loadA 2 H ?_) | (refine J.loadA 3 H ?_) | (refine J.len ?_) | (refine J.lenS ?_) | ((first | refine J.lt ?_ ?_ | refine J.ge ?_ ?_ | refine J.le ?_ ?_ | refine J.gt ?_ ?_ | refine J.eq ?_ ?_ | refine J.ne ?_ ?_ | refine J.eqS ?_ ?_ | refine J.neS ?_ ?_) <;> intro hc <;> (first | (exfalso; omega) | skip)) | (refine J.pickT ?_) | (refine J.pickF ?_) | (refine J.ext ?_) | (refine J.neg ?_) | (refine J.add ?_) | (refine J.sub ?_) | (refine J.fa ?_) | (refine J.cat ?_) | (refine J.nilP ?_) | (refine J.ia ?_) | (refine J.chk ?_) | (refine J.arr ?_) | (refine J.iaA ?_) | ((first | refine J.store 0 H ?_ | refine J.store 1 H ?_ | refine J.store 2 H ?_ | refine J.store 3 H ?_ | refine J.storeA 0 H ?_ | refine J.storeA 1 H ?_ | refine J.storeA 2 H ?_ | refine J.storeA 3 H ?_); clear H; (try clear w); intro w H; (try simp only [List.set_cons_zero, List.set_cons_succ, List.eraseIdx_cons_zero, List.eraseIdx_cons_succ] at H)) | ((first | refine J.box H ?_ | refine J.box1 H ?_ | refine J.new H ?_); clear H; (try clear w); (first | ((fail_if_success (have := bl1)); intro bl1 w H) | ((fail_if_success (have := bl2)); intro bl2 w H) | ((fail_if_success (have := bl3)); intro bl3 w H) | ((fail_if_success (have := bl4)); intro bl4 w H) | ((fail_if_success (have := bl5)); intro bl5 w H) | ((fail_if_success (have := bl6)); intro bl6 w H))) | (refine J.empty H ?_; clear H; (try clear w); intro gv w H) | (refine J.not ?_) | (refine J.not0 ?_))
  all_goals
    refine ⟨_, resT rfl, ?_, H⟩
    first
      | rw [decide_eq_true (by omega)]; rfl
      | rw [decide_eq_false (by omega)]; rfl

theorem isNaN_s (H : Holds s w R) : Calls Try.prog 82 #[.int .i64 f] w fun e w' => e = .returned (.bool false) ∧ Holds s w' R := by
  refine enter Try.func82 rfl Try.ntmps82 rfl ?_
  repeat' (first | (refine C.seq ?_) | (refine C.region ?_) | (refine C.block ?_) | ((first | refine C.skip ?_ | refine C.exit ?_ | refine J.nil ?_ | refine L.nil ?_); (try change C _ _ _ _ _ _)) | (refine C.ret ?_) | (refine J.tru ?_) | (refine J.fls ?_) | (refine J.mv ?_) | (refine J.asg ?_) | (refine J.fa0 ?_) | (refine J.load 0 H ?_) | (refine J.load 1 H ?_) | (refine J.load 2 H ?_) | (refine J.load 3 H ?_) | (refine J.loadA 0 H ?_) | (refine J.loadA 1 H ?_) | (refine J.loadA 2 H ?_) | (refine J.loadA 3 H ?_) | (refine J.len ?_) | (refine J.lenS ?_) | ((first | refine J.lt ?_ ?_ | refine J.ge ?_ ?_ | refine J.le ?_ ?_ | refine J.gt ?_ ?_ | refine J.eq ?_ ?_ | refine J.ne ?_ ?_ | refine J.eqS ?_ ?_ | refine J.neS ?_ ?_) <;> intro hc <;> (first | (exfalso; omega) | skip)) | (refine J.pickT ?_) | (refine J.pickF ?_) | (refine J.ext ?_) | (refine J.neg ?_) | (refine J.add ?_) | (refine J.sub ?_) | (refine J.fa ?_) | (refine J.cat ?_) | (refine J.nilP ?_) | (refine J.ia ?_) | (refine J.chk ?_) | (refine J.arr ?_) | (refine J.iaA ?_) | ((first | refine J.store 0 H ?_ | refine J.store 1 H ?_ | refine J.store 2 H ?_ | refine J.store 3 H ?_ | refine J.storeA 0 H ?_ | refine J.storeA 1 H ?_ | refine J.storeA 2 H ?_ | refine J.storeA 3 H ?_); clear H; (try clear w); intro w H; (try simp only [List.set_cons_zero, List.set_cons_succ, List.eraseIdx_cons_zero, List.eraseIdx_cons_succ] at H)) | ((first | refine J.box H ?_ | refine J.box1 H ?_ | refine J.new H ?_); clear H; (try clear w); (first | ((fail_if_success (have := bl1)); intro bl1 w H) | ((fail_if_success (have := bl2)); intro bl2 w H) | ((fail_if_success (have := bl3)); intro bl3 w H) | ((fail_if_success (have := bl4)); intro bl4 w H) | ((fail_if_success (have := bl5)); intro bl5 w H) | ((fail_if_success (have := bl6)); intro bl6 w H))) | (refine J.empty H ?_; clear H; (try clear w); intro gv w H) | (refine J.not ?_) | (refine J.not0 ?_))
  all_goals exact ⟨_, resT rfl, rfl, H⟩
end
end Go.Proofs.Ytmcojfpomejnnaa

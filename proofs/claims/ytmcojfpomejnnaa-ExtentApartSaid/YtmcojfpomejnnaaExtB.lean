/- slices.SortFunc at extents, as pieces. -/
import Derived.Test.YtmcojfpomejnnaaExtA
import Derived.Test.YtmcojfpomejnnaaShelf
set_option linter.unusedSimpArgs false
set_option linter.unusedVariables false
namespace Go.Proofs.Ytmcojfpomejnnaa
open Go Go.RowKit Go.Own

theorem ext_flat_get (l : List Ext) (j : Nat) (h : j < l.length * 2) : (l.flatMap Ext.cells)[j]? = some (Sort.flatK Ext.cells 2 l.toArray)[j]! := by
  rw [Sort.get_flatK _ _ _ _ (by simpa using h)]
  induction l generalizing j with
  | nil => simp at h
  | cons x l ih =>
    rcases j with _ | _ | j
    · rfl
    · rfl
    · have := ih j (by simp at h; omega)
      rw [List.flatMap_cons]
      show (l.flatMap Ext.cells)[j]? = _
      rw [this, show (j + 1 + 1) / 2 = j / 2 + 1 by omega, show (j + 1 + 1) % 2 = j % 2 by omega]
      have hj : j / 2 < l.length := by simp at h; omega
      simp [hj]
theorem ext_flat_len (l : List Ext) : (l.flatMap Ext.cells).length = l.length * 2 := by
  induction l with
  | nil => rfl
  | cons x l ih => simp only [List.flatMap_cons, List.length_append, ih, List.length_cons]; show 2 + _ = _; omega
theorem ext_flat_eq (l : List Ext) : (Sort.flatK Ext.cells 2 l.toArray).toList = l.flatMap Ext.cells := by
  apply List.ext_getElem?
  intro j
  by_cases h : j < l.length * 2
  · rw [ext_flat_get l j h]
    have hs : j < (Sort.flatK Ext.cells 2 l.toArray).size := by simpa using h
    rw [Array.getElem?_toList, getElem!_pos _ j hs, Array.getElem?_eq_getElem hs]
  · rw [List.getElem?_eq_none (by simp; omega), List.getElem?_eq_none (by rw [ext_flat_len]; omega)]

section
variable {s : Ro} {w : World} {R : List Asn}
theorem holdsK_of {g cap : Nat} {cur : Array Value} {t : TypeId} {l : List Ext} (hg : w.heap[g]? = some (.cells cur t (0, 0))) (hc : l.length ≤ cap) (hs : cur.size = cap * 2) (ht : cur.toList.take (l.length * 2) = l.flatMap Ext.cells) :
    Sort.HoldsK Ext.cells 2 w g 0 l.toArray := by
  intro j hj
  have hj2 : j < l.length * 2 := by simpa using hj
  have h1 := ext_flat_get l j hj2
  rw [← ht, List.getElem?_take_of_lt hj2, Array.getElem?_toList] at h1
  constructor
  · simp only [World.cell?, Nat.zero_add, hg, id]
    exact h1
  · simp [World.frozen?, hg]

theorem sorted_row {g cap n : Nat} {os : Array Obj} {cur : Array Value} {t : TypeId} {l l' : List Ext} (hl : l'.length = l.length) (hg : w.heap[g]? = some (.cells cur t (0, 0))) (hc : l.length ≤ cap) (hs : cur.size = cap * 2) (hm : cap ≤ maxLen) :
    (sortWorldK Ext.cells 2 w g 0 n l'.toArray os).ownsRow 0 t 2 (.slice (some ⟨g, 0, none⟩) l.length cap) l.length (l'.flatMap Ext.cells) ∧ Only [g] w (sortWorldK Ext.cells 2 w g 0 n l'.toArray os) := by
  have hlt := lt_of_heap hg
  have hh : (sortWorldK Ext.cells 2 w g 0 n l'.toArray os).heap = w.heap.modify g (Sort.onCells (Sort.putCells id 0 (Sort.flatK Ext.cells 2 l'.toArray))) ++ os := rfl
  refine ⟨⟨by rw [ext_flat_len, hl], .inr ⟨g, cap, Sort.putCells id 0 (Sort.flatK Ext.cells 2 l'.toArray) cur, rfl, Nat.zero_le _, ?_, hc, hm, by simp [Sort.putCells, hs], ?_⟩⟩, ⟨rfl, rfl, rfl, by rw [hh]; simp, fun k hk hn => ?_⟩⟩
  · rw [hh, Array.getElem?_append_left (by simpa using hlt), Array.getElem?_modify, if_pos rfl, hg]
    rfl
  · rw [← ext_flat_eq l']
    apply List.ext_getElem?
    intro j
    by_cases hj : j < l.length * 2
    · have hjc : j < cur.size := by omega
      have hjf : j < l'.length * 2 := by omega
      rw [List.getElem?_take_of_lt hj]
      simp [Sort.putCells, hjc, hjf]
    · rw [List.getElem?_eq_none (by simp; omega), List.getElem?_eq_none (by simp; omega)]
  · have hgk : ¬ g = k := fun h => hn (by simp [h])
    rw [hh, Array.getElem?_append_left (by simpa using hk), Array.getElem?_modify, if_neg hgk]
end

theorem ltFrom (x y : Ext) : ltOf (fun x y : Ext => Lib.compareInt x.1 y.1) x y = decide (x.1 < y.1) := by
  unfold ltOf Lib.compareInt
  by_cases h1 : x.1 < y.1
  · simp [h1]
  · by_cases h2 : y.1 < x.1 <;> simp [h1, h2]
theorem swoFrom : Sort.SWO (ltOf fun x y : Ext => Lib.compareInt x.1 y.1) where
  irrefl x := by rw [ltFrom]; simp
  trans x y z h1 h2 := by rw [ltFrom] at *; simp at *; omega
  ntrans x y z h1 h2 := by rw [ltFrom] at *; simp at *; omega

set_option maxHeartbeats 1000000 in
theorem apart1 (x y : Ext) (W : World) : Calls Try.prog 72 #[.agg #[.int .i64 x.1, .int .i64 x.2], .agg #[.int .i64 y.1, .int .i64 y.2]] W fun e w' => e = .returned (.int .i64 (Lib.compareInt x.1 y.1)) ∧ ∃ q os', w' = Sort.grow (W.drewN q) os' := by
  have hcon := fun W' => AnyG.cmp_Compare_int Try.cmpInt x.1 y.1 W'
  change ∀ W', Calls Try.prog 73 _ _ _ at hcon
  generalize Lib.compareInt x.1 y.1 = r at hcon ⊢
  go_enter Try.func72, Try.ntmps72
  go_wp2_with (go_at_call 73; refine (hcon _).mono ?_; rintro e w' ⟨rfl, rfl⟩)
  go_ret
  exact ⟨rfl, 0, _, by rw [Sort.alloc_eq_grow, Sort.alloc_eq_grow, Sort.grow_grow]; rfl⟩

abbrev byFrom : Value := .func (.func 72) #[] #[]
section
variable {s : Ro} {w : World} {R : List Asn}
theorem insNil (H : Holds s w R) : Calls Try.prog 83 #[.slice none 0 0, .int .i64 0, .int .i64 0, byFrom] w fun e w' => e = .returned (.tuple #[]) ∧ Holds s w' R := by
  refine enter Try.func83 rfl Try.ntmps83 rfl ?_
  repeat' (first | (refine C.seq ?_) | (refine C.region ?_) | (refine C.block ?_) | ((first | refine C.skip ?_ | refine C.exit ?_ | refine J.nil ?_ | refine L.nil ?_); (try change C _ _ _ _ _ _)) | (refine C.ret ?_) | (refine J.tru ?_) | (refine J.fls ?_) | (refine J.mv ?_) | (refine J.asg ?_) | (refine J.fa0 ?_) | (refine J.load 0 H ?_) | (refine J.load 1 H ?_) | (refine J.load 2 H ?_) | (refine J.load 3 H ?_) | (refine J.loadA 0 H ?_) | (refine J.loadA 1 H ?_) | (refine J.loadA 2 H ?_) | (refine J.loadA 3 H ?_) | (refine J.len ?_) | (refine J.lenS ?_) | ((first | refine J.lt ?_ ?_ | refine J.ge ?_ ?_ | refine J.le ?_ ?_ | refine J.gt ?_ ?_ | refine J.eq ?_ ?_ | refine J.ne ?_ ?_ | refine J.eqS ?_ ?_ | refine J.neS ?_ ?_) <;> intro hc <;> (first | (exfalso; omega) | skip)) | (refine J.pickT ?_) | (refine J.pickF ?_) | (refine J.ext ?_) | (refine J.neg ?_) | (refine J.add ?_) | (refine J.sub ?_) | (refine J.fa ?_) | (refine J.cat ?_) | (refine J.nilP ?_) | (refine J.ia ?_) | (refine J.chk ?_) | (refine J.arr ?_) | (refine J.iaA ?_) | ((first | refine J.store 0 H ?_ | refine J.store 1 H ?_ | refine J.store 2 H ?_ | refine J.store 3 H ?_ | refine J.storeA 0 H ?_ | refine J.storeA 1 H ?_ | refine J.storeA 2 H ?_ | refine J.storeA 3 H ?_); clear H; (try clear w); intro w H; (try simp only [List.set_cons_zero, List.set_cons_succ, List.eraseIdx_cons_zero, List.eraseIdx_cons_succ] at H)) | ((first | refine J.box H ?_ | refine J.box1 H ?_ | refine J.new H ?_); clear H; (try clear w); (first | ((fail_if_success (have := bl1)); intro bl1 w H) | ((fail_if_success (have := bl2)); intro bl2 w H) | ((fail_if_success (have := bl3)); intro bl3 w H) | ((fail_if_success (have := bl4)); intro bl4 w H) | ((fail_if_success (have := bl5)); intro bl5 w H) | ((fail_if_success (have := bl6)); intro bl6 w H))) | (refine J.empty H ?_; clear H; (try clear w); intro gv w H) | (refine J.not ?_) | (refine J.not0 ?_))
  refine C.loopH H [8, 9, 12, 13, 14, 15, 16, 17, 18, 19, 20, 21, 22, 23, 24, 25, 26, 27, 28, 29, 30, 31, 32, 33, 34, 35, 36, 37, 38, 39, 40, 41, 42, 43, 44, 45, 46, 47, 48, 49, 50, 51, 52] [8] rfl (fun m vs => vs = [.int .i64 (0 + 1)]) 0 rfl ?_
  clear H
  rintro m vs hv w rfl H
  repeat' (first | (refine C.seq ?_) | (refine C.region ?_) | (refine C.block ?_) | ((first | refine C.skip ?_ | refine C.exit ?_ | refine J.nil ?_ | refine L.nil ?_); (try change C _ _ _ _ _ _)) | (refine C.ret ?_) | (refine J.tru ?_) | (refine J.fls ?_) | (refine J.mv ?_) | (refine J.asg ?_) | (refine J.fa0 ?_) | (refine J.load 0 H ?_) | (refine J.load 1 H ?_) | (refine J.load 2 H ?_) | (refine J.load 3 H ?_) | (refine J.loadA 0 H ?_) | (refine J.loadA 1 H ?_) | (refine J.loadA 2 H ?_) | (refine J.loadA 3 H ?_) | (refine J.len ?_) | (refine J.lenS ?_) | ((first | refine J.lt ?_ ?_ | refine J.ge ?_ ?_ | refine J.le ?_ ?_ | refine J.gt ?_ ?_ | refine J.eq ?_ ?_ | refine J.ne ?_ ?_ | refine J.eqS ?_ ?_ | refine J.neS ?_ ?_) <;> intro hc <;> (first | (exfalso; omega) | skip)) | (refine J.pickT ?_) | (refine J.pickF ?_) | (refine J.ext ?_) | (refine J.neg ?_) | (refine J.add ?_) | (refine J.sub ?_) | (refine J.fa ?_) | (refine J.cat ?_) | (refine J.nilP ?_) | (refine J.ia ?_) | (refine J.chk ?_) | (refine J.arr ?_) | (refine J.iaA ?_) | ((first | refine J.store 0 H ?_ | refine J.store 1 H ?_ | refine J.store 2 H ?_ | refine J.store 3 H ?_ | refine J.storeA 0 H ?_ | refine J.storeA 1 H ?_ | refine J.storeA 2 H ?_ | refine J.storeA 3 H ?_); clear H; (try clear w); intro w H; (try simp only [List.set_cons_zero, List.set_cons_succ, List.eraseIdx_cons_zero, List.eraseIdx_cons_succ] at H)) | ((first | refine J.box H ?_ | refine J.box1 H ?_ | refine J.new H ?_); clear H; (try clear w); (first | ((fail_if_success (have := bl1)); intro bl1 w H) | ((fail_if_success (have := bl2)); intro bl2 w H) | ((fail_if_success (have := bl3)); intro bl3 w H) | ((fail_if_success (have := bl4)); intro bl4 w H) | ((fail_if_success (have := bl5)); intro bl5 w H) | ((fail_if_success (have := bl6)); intro bl6 w H))) | (refine J.empty H ?_; clear H; (try clear w); intro gv w H) | (refine J.not ?_) | (refine J.not0 ?_))
  exact ⟨_, res0 rfl, rfl, H⟩

theorem pdqNil (H : Holds s w R) : Calls Try.prog 80 #[.slice none 0 0, .int .i64 0, .int .i64 0, .int .i64 0, byFrom] w fun e w' => e = .returned (.tuple #[]) ∧ Holds s w' R := by
  refine enter Try.func80 rfl Try.ntmps80 rfl ?_
  repeat' (first | (refine C.seq ?_) | (refine C.region ?_) | (refine C.block ?_) | ((first | refine C.skip ?_ | refine C.exit ?_ | refine J.nil ?_ | refine L.nil ?_); (try change C _ _ _ _ _ _)) | (refine C.ret ?_) | (refine J.tru ?_) | (refine J.fls ?_) | (refine J.mv ?_) | (refine J.asg ?_) | (refine J.fa0 ?_) | (refine J.load 0 H ?_) | (refine J.load 1 H ?_) | (refine J.load 2 H ?_) | (refine J.load 3 H ?_) | (refine J.loadA 0 H ?_) | (refine J.loadA 1 H ?_) | (refine J.loadA 2 H ?_) | (refine J.loadA 3 H ?_) | (refine J.len ?_) | (refine J.lenS ?_) | ((first | refine J.lt ?_ ?_ | refine J.ge ?_ ?_ | refine J.le ?_ ?_ | refine J.gt ?_ ?_ | refine J.eq ?_ ?_ | refine J.ne ?_ ?_ | refine J.eqS ?_ ?_ | refine J.neS ?_ ?_) <;> intro hc <;> (first | (exfalso; omega) | skip)) | (refine J.pickT ?_) | (refine J.pickF ?_) | (refine J.ext ?_) | (refine J.neg ?_) | (refine J.add ?_) | (refine J.sub ?_) | (refine J.fa ?_) | (refine J.cat ?_) | (refine J.nilP ?_) | (refine J.ia ?_) | (refine J.chk ?_) | (refine J.arr ?_) | (refine J.iaA ?_) | ((first | refine J.store 0 H ?_ | refine J.store 1 H ?_ | refine J.store 2 H ?_ | refine J.store 3 H ?_ | refine J.storeA 0 H ?_ | refine J.storeA 1 H ?_ | refine J.storeA 2 H ?_ | refine J.storeA 3 H ?_); clear H; (try clear w); intro w H; (try simp only [List.set_cons_zero, List.set_cons_succ, List.eraseIdx_cons_zero, List.eraseIdx_cons_succ] at H)) | ((first | refine J.box H ?_ | refine J.box1 H ?_ | refine J.new H ?_); clear H; (try clear w); (first | ((fail_if_success (have := bl1)); intro bl1 w H) | ((fail_if_success (have := bl2)); intro bl2 w H) | ((fail_if_success (have := bl3)); intro bl3 w H) | ((fail_if_success (have := bl4)); intro bl4 w H) | ((fail_if_success (have := bl5)); intro bl5 w H) | ((fail_if_success (have := bl6)); intro bl6 w H))) | (refine J.empty H ?_; clear H; (try clear w); intro gv w H) | (refine J.not ?_) | (refine J.not0 ?_))
  refine C.loopH H [] [] rfl (fun m vs => vs = []) 0 rfl ?_
  clear H
  rintro m vs hv w rfl H
  repeat' (first | (refine C.seq ?_) | (refine C.region ?_) | (refine C.block ?_) | ((first | refine C.skip ?_ | refine C.exit ?_ | refine J.nil ?_ | refine L.nil ?_); (try change C _ _ _ _ _ _)) | (refine C.ret ?_) | (refine J.tru ?_) | (refine J.fls ?_) | (refine J.mv ?_) | (refine J.asg ?_) | (refine J.fa0 ?_) | (refine J.load 0 H ?_) | (refine J.load 1 H ?_) | (refine J.load 2 H ?_) | (refine J.load 3 H ?_) | (refine J.loadA 0 H ?_) | (refine J.loadA 1 H ?_) | (refine J.loadA 2 H ?_) | (refine J.loadA 3 H ?_) | (refine J.len ?_) | (refine J.lenS ?_) | ((first | refine J.lt ?_ ?_ | refine J.ge ?_ ?_ | refine J.le ?_ ?_ | refine J.gt ?_ ?_ | refine J.eq ?_ ?_ | refine J.ne ?_ ?_ | refine J.eqS ?_ ?_ | refine J.neS ?_ ?_) <;> intro hc <;> (first | (exfalso; omega) | skip)) | (refine J.pickT ?_) | (refine J.pickF ?_) | (refine J.ext ?_) | (refine J.neg ?_) | (refine J.add ?_) | (refine J.sub ?_) | (refine J.fa ?_) | (refine J.cat ?_) | (refine J.nilP ?_) | (refine J.ia ?_) | (refine J.chk ?_) | (refine J.arr ?_) | (refine J.iaA ?_) | ((first | refine J.store 0 H ?_ | refine J.store 1 H ?_ | refine J.store 2 H ?_ | refine J.store 3 H ?_ | refine J.storeA 0 H ?_ | refine J.storeA 1 H ?_ | refine J.storeA 2 H ?_ | refine J.storeA 3 H ?_); clear H; (try clear w); intro w H; (try simp only [List.set_cons_zero, List.set_cons_succ, List.eraseIdx_cons_zero, List.eraseIdx_cons_succ] at H)) | ((first | refine J.box H ?_ | refine J.box1 H ?_ | refine J.new H ?_); clear H; (try clear w); (first | ((fail_if_success (have := bl1)); intro bl1 w H) | ((fail_if_success (have := bl2)); intro bl2 w H) | ((fail_if_success (have := bl3)); intro bl3 w H) | ((fail_if_success (have := bl4)); intro bl4 w H) | ((fail_if_success (have := bl5)); intro bl5 w H) | ((fail_if_success (have := bl6)); intro bl6 w H))) | (refine J.empty H ?_; clear H; (try clear w); intro gv w H) | (refine J.not ?_) | (refine J.not0 ?_))
  (refine K.call rfl rfl rfl ?_; refine (insNil H).mono ?_; (try clear H); rintro _ w ⟨rfl, H⟩; refine ⟨_, rfl, ?_⟩)
  repeat' (first | (refine C.seq ?_) | (refine C.region ?_) | (refine C.block ?_) | ((first | refine C.skip ?_ | refine C.exit ?_ | refine J.nil ?_ | refine L.nil ?_); (try change C _ _ _ _ _ _)) | (refine C.ret ?_) | (refine J.tru ?_) | (refine J.fls ?_) | (refine J.mv ?_) | (refine J.asg ?_) | (refine J.fa0 ?_) | (refine J.load 0 H ?_) | (refine J.load 1 H ?_) | (refine J.load 2 H ?_) | (refine J.load 3 H ?_) | (refine J.loadA 0 H ?_) | (refine J.loadA 1 H ?_) | (refine J.loadA 2 H ?_) | (refine J.loadA 3 H ?_) | (refine J.len ?_) | (refine J.lenS ?_) | ((first | refine J.lt ?_ ?_ | refine J.ge ?_ ?_ | refine J.le ?_ ?_ | refine J.gt ?_ ?_ | refine J.eq ?_ ?_ | refine J.ne ?_ ?_ | refine J.eqS ?_ ?_ | refine J.neS ?_ ?_) <;> intro hc <;> (first | (exfalso; omega) | skip)) | (refine J.pickT ?_) | (refine J.pickF ?_) | (refine J.ext ?_) | (refine J.neg ?_) | (refine J.add ?_) | (refine J.sub ?_) | (refine J.fa ?_) | (refine J.cat ?_) | (refine J.nilP ?_) | (refine J.ia ?_) | (refine J.chk ?_) | (refine J.arr ?_) | (refine J.iaA ?_) | ((first | refine J.store 0 H ?_ | refine J.store 1 H ?_ | refine J.store 2 H ?_ | refine J.store 3 H ?_ | refine J.storeA 0 H ?_ | refine J.storeA 1 H ?_ | refine J.storeA 2 H ?_ | refine J.storeA 3 H ?_); clear H; (try clear w); intro w H; (try simp only [List.set_cons_zero, List.set_cons_succ, List.eraseIdx_cons_zero, List.eraseIdx_cons_succ] at H)) | ((first | refine J.box H ?_ | refine J.box1 H ?_ | refine J.new H ?_); clear H; (try clear w); (first | ((fail_if_success (have := bl1)); intro bl1 w H) | ((fail_if_success (have := bl2)); intro bl2 w H) | ((fail_if_success (have := bl3)); intro bl3 w H) | ((fail_if_success (have := bl4)); intro bl4 w H) | ((fail_if_success (have := bl5)); intro bl5 w H) | ((fail_if_success (have := bl6)); intro bl6 w H))) | (refine J.empty H ?_; clear H; (try clear w); intro gv w H) | (refine J.not ?_) | (refine J.not0 ?_))
  exact ⟨_, res0 rfl, rfl, H⟩

instance : FunC Try.prog 81 := ⟨⟨_, _, Try.func81, by kernel_rfl, rfl⟩⟩
theorem bitsNil (H : Holds s w R) : Calls Try.prog 81 #[.int .u64 0] w fun e w' => e = .returned (.int .i64 0) ∧ Holds s w' R :=
  (Any.bits_Len Try.bitsLen 0 w (by omega) (by omega)).mono fun _ _ ⟨he, hw⟩ => ⟨he, by rw [hw]; exact H⟩

theorem sortNil (H : Holds s w R) : Calls Try.prog 71 #[.slice none 0 0, byFrom] w fun e w' => e = .returned (.tuple #[]) ∧ Holds s w' R := by
  refine enter Try.func71 rfl Try.ntmps71 rfl ?_
  repeat' (first | (refine C.seq ?_) | (refine C.region ?_) | (refine C.block ?_) | ((first | refine C.skip ?_ | refine C.exit ?_ | refine J.nil ?_ | refine L.nil ?_); (try change C _ _ _ _ _ _)) | (refine C.ret ?_) | (refine J.tru ?_) | (refine J.fls ?_) | (refine J.mv ?_) | (refine J.asg ?_) | (refine J.fa0 ?_) | (refine J.load 0 H ?_) | (refine J.load 1 H ?_) | (refine J.load 2 H ?_) | (refine J.load 3 H ?_) | (refine J.loadA 0 H ?_) | (refine J.loadA 1 H ?_) | (refine J.loadA 2 H ?_) | (refine J.loadA 3 H ?_) | (refine J.len ?_) | (refine J.lenS ?_) | ((first | refine J.lt ?_ ?_ | refine J.ge ?_ ?_ | refine J.le ?_ ?_ | refine J.gt ?_ ?_ | refine J.eq ?_ ?_ | refine J.ne ?_ ?_ | refine J.eqS ?_ ?_ | refine J.neS ?_ ?_) <;> intro hc <;> (first | (exfalso; omega) | skip)) | (refine J.pickT ?_) | (refine J.pickF ?_) | (refine J.ext ?_) | (refine J.neg ?_) | (refine J.add ?_) | (refine J.sub ?_) | (refine J.fa ?_) | (refine J.cat ?_) | (refine J.nilP ?_) | (refine J.ia ?_) | (refine J.chk ?_) | (refine J.arr ?_) | (refine J.iaA ?_) | ((first | refine J.store 0 H ?_ | refine J.store 1 H ?_ | refine J.store 2 H ?_ | refine J.store 3 H ?_ | refine J.storeA 0 H ?_ | refine J.storeA 1 H ?_ | refine J.storeA 2 H ?_ | refine J.storeA 3 H ?_); clear H; (try clear w); intro w H; (try simp only [List.set_cons_zero, List.set_cons_succ, List.eraseIdx_cons_zero, List.eraseIdx_cons_succ] at H)) | ((first | refine J.box H ?_ | refine J.box1 H ?_ | refine J.new H ?_); clear H; (try clear w); (first | ((fail_if_success (have := bl1)); intro bl1 w H) | ((fail_if_success (have := bl2)); intro bl2 w H) | ((fail_if_success (have := bl3)); intro bl3 w H) | ((fail_if_success (have := bl4)); intro bl4 w H) | ((fail_if_success (have := bl5)); intro bl5 w H) | ((fail_if_success (have := bl6)); intro bl6 w H))) | (refine J.empty H ?_; clear H; (try clear w); intro gv w H) | (refine J.not ?_) | (refine J.not0 ?_))
  refine K.convI Try.underlying3 rfl rfl rfl ?_
  repeat' (first | (refine C.seq ?_) | (refine C.region ?_) | (refine C.block ?_) | ((first | refine C.skip ?_ | refine C.exit ?_ | refine J.nil ?_ | refine L.nil ?_); (try change C _ _ _ _ _ _)) | (refine C.ret ?_) | (refine J.tru ?_) | (refine J.fls ?_) | (refine J.mv ?_) | (refine J.asg ?_) | (refine J.fa0 ?_) | (refine J.load 0 H ?_) | (refine J.load 1 H ?_) | (refine J.load 2 H ?_) | (refine J.load 3 H ?_) | (refine J.loadA 0 H ?_) | (refine J.loadA 1 H ?_) | (refine J.loadA 2 H ?_) | (refine J.loadA 3 H ?_) | (refine J.len ?_) | (refine J.lenS ?_) | ((first | refine J.lt ?_ ?_ | refine J.ge ?_ ?_ | refine J.le ?_ ?_ | refine J.gt ?_ ?_ | refine J.eq ?_ ?_ | refine J.ne ?_ ?_ | refine J.eqS ?_ ?_ | refine J.neS ?_ ?_) <;> intro hc <;> (first | (exfalso; omega) | skip)) | (refine J.pickT ?_) | (refine J.pickF ?_) | (refine J.ext ?_) | (refine J.neg ?_) | (refine J.add ?_) | (refine J.sub ?_) | (refine J.fa ?_) | (refine J.cat ?_) | (refine J.nilP ?_) | (refine J.ia ?_) | (refine J.chk ?_) | (refine J.arr ?_) | (refine J.iaA ?_) | ((first | refine J.store 0 H ?_ | refine J.store 1 H ?_ | refine J.store 2 H ?_ | refine J.store 3 H ?_ | refine J.storeA 0 H ?_ | refine J.storeA 1 H ?_ | refine J.storeA 2 H ?_ | refine J.storeA 3 H ?_); clear H; (try clear w); intro w H; (try simp only [List.set_cons_zero, List.set_cons_succ, List.eraseIdx_cons_zero, List.eraseIdx_cons_succ] at H)) | ((first | refine J.box H ?_ | refine J.box1 H ?_ | refine J.new H ?_); clear H; (try clear w); (first | ((fail_if_success (have := bl1)); intro bl1 w H) | ((fail_if_success (have := bl2)); intro bl2 w H) | ((fail_if_success (have := bl3)); intro bl3 w H) | ((fail_if_success (have := bl4)); intro bl4 w H) | ((fail_if_success (have := bl5)); intro bl5 w H) | ((fail_if_success (have := bl6)); intro bl6 w H))) | (refine J.empty H ?_; clear H; (try clear w); intro gv w H) | (refine J.not ?_) | (refine J.not0 ?_))
  (refine K.call rfl rfl rfl ?_; refine (bitsNil H).mono ?_; (try clear H); rintro _ w ⟨rfl, H⟩; refine ⟨_, rfl, ?_⟩)
  repeat' (first | (refine C.seq ?_) | (refine C.region ?_) | (refine C.block ?_) | ((first | refine C.skip ?_ | refine C.exit ?_ | refine J.nil ?_ | refine L.nil ?_); (try change C _ _ _ _ _ _)) | (refine C.ret ?_) | (refine J.tru ?_) | (refine J.fls ?_) | (refine J.mv ?_) | (refine J.asg ?_) | (refine J.fa0 ?_) | (refine J.load 0 H ?_) | (refine J.load 1 H ?_) | (refine J.load 2 H ?_) | (refine J.load 3 H ?_) | (refine J.loadA 0 H ?_) | (refine J.loadA 1 H ?_) | (refine J.loadA 2 H ?_) | (refine J.loadA 3 H ?_) | (refine J.len ?_) | (refine J.lenS ?_) | ((first | refine J.lt ?_ ?_ | refine J.ge ?_ ?_ | refine J.le ?_ ?_ | refine J.gt ?_ ?_ | refine J.eq ?_ ?_ | refine J.ne ?_ ?_ | refine J.eqS ?_ ?_ | refine J.neS ?_ ?_) <;> intro hc <;> (first | (exfalso; omega) | skip)) | (refine J.pickT ?_) | (refine J.pickF ?_) | (refine J.ext ?_) | (refine J.neg ?_) | (refine J.add ?_) | (refine J.sub ?_) | (refine J.fa ?_) | (refine J.cat ?_) | (refine J.nilP ?_) | (refine J.ia ?_) | (refine J.chk ?_) | (refine J.arr ?_) | (refine J.iaA ?_) | ((first | refine J.store 0 H ?_ | refine J.store 1 H ?_ | refine J.store 2 H ?_ | refine J.store 3 H ?_ | refine J.storeA 0 H ?_ | refine J.storeA 1 H ?_ | refine J.storeA 2 H ?_ | refine J.storeA 3 H ?_); clear H; (try clear w); intro w H; (try simp only [List.set_cons_zero, List.set_cons_succ, List.eraseIdx_cons_zero, List.eraseIdx_cons_succ] at H)) | ((first | refine J.box H ?_ | refine J.box1 H ?_ | refine J.new H ?_); clear H; (try clear w); (first | ((fail_if_success (have := bl1)); intro bl1 w H) | ((fail_if_success (have := bl2)); intro bl2 w H) | ((fail_if_success (have := bl3)); intro bl3 w H) | ((fail_if_success (have := bl4)); intro bl4 w H) | ((fail_if_success (have := bl5)); intro bl5 w H) | ((fail_if_success (have := bl6)); intro bl6 w H))) | (refine J.empty H ?_; clear H; (try clear w); intro gv w H) | (refine J.not ?_) | (refine J.not0 ?_))
  (refine K.call rfl rfl rfl ?_; refine (pdqNil H).mono ?_; (try clear H); rintro _ w ⟨rfl, H⟩; refine ⟨_, rfl, ?_⟩)
  repeat' (first | (refine C.seq ?_) | (refine C.region ?_) | (refine C.block ?_) | ((first | refine C.skip ?_ | refine C.exit ?_ | refine J.nil ?_ | refine L.nil ?_); (try change C _ _ _ _ _ _)) | (refine C.ret ?_) | (refine J.tru ?_) | (refine J.fls ?_) | (refine J.mv ?_) | (refine J.asg ?_) | (refine J.fa0 ?_) | (refine J.load 0 H ?_) | (refine J.load 1 H ?_) | (refine J.load 2 H ?_) | (refine J.load 3 H ?_) | (refine J.loadA 0 H ?_) | (refine J.loadA 1 H ?_) | (refine J.loadA 2 H ?_) | (refine J.loadA 3 H ?_) | (refine J.len ?_) | (refine J.lenS ?_) | ((first | refine J.lt ?_ ?_ | refine J.ge ?_ ?_ | refine J.le ?_ ?_ | refine J.gt ?_ ?_ | refine J.eq ?_ ?_ | refine J.ne ?_ ?_ | refine J.eqS ?_ ?_ | refine J.neS ?_ ?_) <;> intro hc <;> (first | (exfalso; omega) | skip)) | (refine J.pickT ?_) | (refine J.pickF ?_) | (refine J.ext ?_) | (refine J.neg ?_) | (refine J.add ?_) | (refine J.sub ?_) | (refine J.fa ?_) | (refine J.cat ?_) | (refine J.nilP ?_) | (refine J.ia ?_) | (refine J.chk ?_) | (refine J.arr ?_) | (refine J.iaA ?_) | ((first | refine J.store 0 H ?_ | refine J.store 1 H ?_ | refine J.store 2 H ?_ | refine J.store 3 H ?_ | refine J.storeA 0 H ?_ | refine J.storeA 1 H ?_ | refine J.storeA 2 H ?_ | refine J.storeA 3 H ?_); clear H; (try clear w); intro w H; (try simp only [List.set_cons_zero, List.set_cons_succ, List.eraseIdx_cons_zero, List.eraseIdx_cons_succ] at H)) | ((first | refine J.box H ?_ | refine J.box1 H ?_ | refine J.new H ?_); clear H; (try clear w); (first | ((fail_if_success (have := bl1)); intro bl1 w H) | ((fail_if_success (have := bl2)); intro bl2 w H) | ((fail_if_success (have := bl3)); intro bl3 w H) | ((fail_if_success (have := bl4)); intro bl4 w H) | ((fail_if_success (have := bl5)); intro bl5 w H) | ((fail_if_success (have := bl6)); intro bl6 w H))) | (refine J.empty H ?_; clear H; (try clear w); intro gv w H) | (refine J.not ?_) | (refine J.not0 ?_))
  exact ⟨_, res0 rfl, rfl, H⟩

theorem Sort_s {v : Value} {l : List Ext} (H : Holds s w (row 33 2 v l.length (l.flatMap Ext.cells) :: R)) (hll : l.length < 4611686018427387904) : Calls Try.prog 71 #[v, byFrom] w fun e w' => ∃ l' : List Ext, e = .returned (.tuple #[]) ∧ l'.Perm l ∧ l'.Pairwise (fun x y => x.1 ≤ y.1) ∧ Holds s w' (row 33 2 v l.length (l'.flatMap Ext.cells) :: R) := by
  have H0 := H
  obtain ⟨F, ⟨rfl, hlen, ho⟩, hnew⟩ := H.call
  rcases ho with ⟨rfl, hn⟩ | ⟨g, cap, cur, rfl, _, hg, hc, hm, hs, ht⟩
  · have : l = [] := List.length_eq_zero_iff.1 hn
    subst this
    exact (sortNil H0).mono fun _ _ ⟨he, H⟩ => ⟨[], he, .refl _, .nil, H⟩
  · have hH := holdsK_of hg hc hs ht
    have eg : ∀ args w, (callFunc 72 args).run Try.prog w = .ok (.enter 72 args) w := enters_of Try.func72 (by kernel_rfl) rfl
    have hcon := AnyQ.slices_SortFunc Try.sortExt 2 Try.isAgg33 Try.sizeOf33 Ext.cells (fun _ => rfl) (fun x v hv => by simp [Ext.cells] at hv; rcases hv with rfl | rfl <;> rfl) (fun x y => Lib.compareInt x.1 y.1) swoFrom 72 #[] g 0 cap l.toArray w eg (fun _ _ _ _ x y => apart1 x y _) hH (lt_of_heap hg) (by simpa using hll)
    refine hcon.mono ?_
    rintro e w' ⟨rfl, d', n, os, hp, hso, rfl⟩
    obtain ⟨hsz, _, hpm⟩ := hp
    have hsz' : d'.toList.length = l.length := by simpa using hsz
    obtain ⟨r1, r2⟩ := sorted_row (n := n) (os := os) hsz' hg hc hs hm
    rw [Array.toArray_toList] at r1 r2
    refine ⟨d'.toList, rfl, ?_, ?_, hnew _ _ [g] ⟨rfl, r1⟩ r2 (fun k hk => .inl hk)⟩
    · rw [Array.extract_eq_self_of_le (by omega), Array.extract_eq_self_of_le (by omega)] at hpm
      exact hpm
    · rw [List.pairwise_iff_getElem]
      intro i j hi hj hij
      have := hso i j (Nat.zero_le _) hij (by simpa [hsz'] using hj)
      rw [ltFrom] at this
      simp at hi hj
      simp [hi, hj] at this
      simpa using this
end
end Go.Proofs.Ytmcojfpomejnnaa

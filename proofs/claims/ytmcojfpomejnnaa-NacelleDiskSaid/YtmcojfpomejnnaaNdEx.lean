/- extent.Place, extent.Lies, the document's Lies, Place, Meet; the comparison of extents. slices.SortFunc at extents, as pieces. The plain laws of extents that are apart. extent.Apart, the document's Apart, and the examples of layer 6. The examples of layer 6; ExtentPlaces, walked. extent.New, and the calls of a part of a disk. Plain laws of the disk: while it has power and is not armed. -/
import Derived.Test.YtmcojfpomejnnaaNdK3
import Derived.Test.YtmcojfpomejnnaaNdK4
import Derived.Test.YtmcojfpomejnnaaNdRf
set_option linter.unusedSimpArgs false
set_option linter.unusedVariables false
namespace Go.Proofs.Ytmcojfpomejnnaa
open Go Go.RowKit Go.Own
def I64 (x : Int) : Prop := -9223372036854775808 ≤ x ∧ x ≤ 9223372036854775807
/-- an extent: From, Count -/
abbrev Ext := Int × Int
def Ext.ok (x : Ext) : Prop := I64 x.1 ∧ I64 x.2
def Ext.cells (x : Ext) : List Value := [.int .i64 x.1, .int .i64 x.2]
def placeM (f c a : Int) : Int × Int := if a < 0 ∨ c ≤ a then (0, 4) else if 9223372036854775807 - a < f then (0, 4) else (f + a, 0)
def liesM (f c n : Int) : Bool := decide (1 ≤ c ∧ 0 ≤ f ∧ f ≤ n ∧ c ≤ n - f)
/-- the later one's beginning -/
def meetM (f c g d : Int) : Bool := decide (1 ≤ c ∧ 1 ≤ d ∧ (f = g ∨ f < g ∧ g - f < c ∨ g < f ∧ f - g < d))
section
variable {s : Ro} {w : World} {R : List Asn} {f c a g d n : Int}
theorem Place_s (H : Holds s w R) (hf : I64 f) (hc : I64 c) (ha : I64 a) : Calls Try.prog 75 #[.agg #[.int .i64 f, .int .i64 c], .int .i64 a] w fun e w' => e = .returned (.tuple #[.int .i64 (placeM f c a).1, .int .i64 (placeM f c a).2]) ∧ Holds s w' R := by
  unfold I64 at hf hc ha
  unfold placeM
  refine enter Try.func75 rfl Try.ntmps75 rfl ?_
  repeat' (first | refine Z H ?_ | (refine Zc ?_ ?_ <;> intro hc <;> first | (exfalso; omega) | skip) | (refine Y ?_; try change C _ _ _ _ _ _) | (refine Zs H ?_; clear H; (try clear w); intro w H) | (refine Zn H ?_; clear H; (try clear w); intro _ w H) | (refine Ze H ?_; clear H; (try clear w); intro gv w H))
  all_goals
    refine ⟨_, resTT rfl, ?_, H.tail⟩
    first
      | rw [if_pos (by omega)]; rfl
      | rw [if_neg (by omega), if_pos (by omega)]; rfl
      | rw [if_neg (by omega), if_neg (by omega)]; rfl
theorem Lies_s (H : Holds s w R) (hf : I64 f) (hc : I64 c) (hn : I64 n) : Calls Try.prog 50 #[.agg #[.int .i64 f, .int .i64 c], .int .i64 n] w fun e w' => e = .returned (.bool (liesM f c n)) ∧ Holds s w' R := by
  unfold I64 at hf hc hn
  unfold liesM
  refine enter Try.func50 rfl Try.ntmps50 rfl ?_
  repeat' (first | refine Z H ?_ | (refine Zc ?_ ?_ <;> intro hc <;> first | (exfalso; omega) | skip) | (refine Y ?_; try change C _ _ _ _ _ _) | (refine Zs H ?_; clear H; (try clear w); intro w H) | (refine Zn H ?_; clear H; (try clear w); intro _ w H) | (refine Ze H ?_; clear H; (try clear w); intro gv w H))
  all_goals
    refine ⟨_, resT rfl, ?_, H.tail⟩
    first
      | rw [decide_eq_true (by omega)]; rfl
      | rw [decide_eq_false (by omega)]; rfl
end
end Go.Proofs.Ytmcojfpomejnnaa
set_option linter.unusedSimpArgs false
set_option linter.unusedVariables false
namespace Go.Proofs.Ytmcojfpomejnnaa
open Go Go.RowKit Go.Own
theorem ext_flat_get (l : List Ext) (j : Nat) (h : j < l.length * 2) : (l.flatMap Ext.cells)[j]? = some (Sort.flatK Ext.cells 2 l.toArray)[j]! := by
  rw [Sort.get_flatK _ _ _ _ (by simpa using h)]
  induction l generalizing j with
  | nil => simp at h
  | cons x l ih =>
    rcases j with _ | _ | j
    · rfl
    · rfl
    · have := ih j (by simp at h; omega)
      rw [List.flatMap_cons]
      show (l.flatMap Ext.cells)[j]? = _
      rw [this, show (j + 1 + 1) / 2 = j / 2 + 1 by omega, show (j + 1 + 1) % 2 = j % 2 by omega]
      have hj : j / 2 < l.length := by simp at h; omega
      simp [hj]
theorem ext_flat_len (l : List Ext) : (l.flatMap Ext.cells).length = l.length * 2 := by
  induction l with
  | nil => rfl
  | cons x l ih => simp only [List.flatMap_cons, List.length_append, ih, List.length_cons]; show 2 + _ = _; omega
theorem ext_flat_eq (l : List Ext) : (Sort.flatK Ext.cells 2 l.toArray).toList = l.flatMap Ext.cells := by
  apply List.ext_getElem?
  intro j
  by_cases h : j < l.length * 2
  · rw [ext_flat_get l j h]
    have hs : j < (Sort.flatK Ext.cells 2 l.toArray).size := by simpa using h
    rw [Array.getElem?_toList, getElem!_pos _ j hs, Array.getElem?_eq_getElem hs]
  · rw [List.getElem?_eq_none (by simp; omega), List.getElem?_eq_none (by rw [ext_flat_len]; omega)]
section
variable {s : Ro} {w : World} {R : List Asn}
theorem holdsK_of {g cap : Nat} {cur : Array Value} {t : TypeId} {l : List Ext} (hg : w.heap[g]? = some (.cells cur t (0, 0))) (hc : l.length ≤ cap) (hs : cur.size = cap * 2) (ht : cur.toList.take (l.length * 2) = l.flatMap Ext.cells) :
    Sort.HoldsK Ext.cells 2 w g 0 l.toArray := by
  intro j hj
  have hj2 : j < l.length * 2 := by simpa using hj
  have h1 := ext_flat_get l j hj2
  rw [← ht, List.getElem?_take_of_lt hj2, Array.getElem?_toList] at h1
  constructor
  · simp only [World.cell?, Nat.zero_add, hg, id]
    exact h1
  · simp [World.frozen?, hg]
theorem sorted_row {g cap n : Nat} {os : Array Obj} {cur : Array Value} {t : TypeId} {l l' : List Ext} (hl : l'.length = l.length) (hg : w.heap[g]? = some (.cells cur t (0, 0))) (hc : l.length ≤ cap) (hs : cur.size = cap * 2) (hm : cap ≤ maxLen) :
    (sortWorldK Ext.cells 2 w g 0 n l'.toArray os).ownsRow 0 t 2 (.slice (some ⟨g, 0, none⟩) l.length cap) l.length (l'.flatMap Ext.cells) ∧ Only [g] w (sortWorldK Ext.cells 2 w g 0 n l'.toArray os) := by
  have hlt := lt_of_heap hg
  have hh : (sortWorldK Ext.cells 2 w g 0 n l'.toArray os).heap = w.heap.modify g (Sort.onCells (Sort.putCells id 0 (Sort.flatK Ext.cells 2 l'.toArray))) ++ os := rfl
  refine ⟨⟨by rw [ext_flat_len, hl], .inr ⟨g, cap, Sort.putCells id 0 (Sort.flatK Ext.cells 2 l'.toArray) cur, rfl, Nat.zero_le _, ?_, hc, hm, by simp [Sort.putCells, hs], ?_⟩⟩, ⟨rfl, rfl, rfl, by rw [hh]; simp, fun k hk hn => ?_⟩⟩
  · rw [hh, Array.getElem?_append_left (by simpa using hlt), Array.getElem?_modify, if_pos rfl, hg]
    rfl
  · rw [← ext_flat_eq l']
    apply List.ext_getElem?
    intro j
    by_cases hj : j < l.length * 2
    · have hjc : j < cur.size := by omega
      have hjf : j < l'.length * 2 := by omega
      rw [List.getElem?_take_of_lt hj]
      simp [Sort.putCells, hjc, hjf]
    · rw [List.getElem?_eq_none (by simp; omega), List.getElem?_eq_none (by simp; omega)]
  · have hgk : ¬ g = k := fun h => hn (by simp [h])
    rw [hh, Array.getElem?_append_left (by simpa using hk), Array.getElem?_modify, if_neg hgk]
end
theorem ltFrom (x y : Ext) : ltOf (fun x y : Ext => Lib.compareInt x.1 y.1) x y = decide (x.1 < y.1) := by
  unfold ltOf Lib.compareInt
  by_cases h1 : x.1 < y.1
  · simp [h1]
  · by_cases h2 : y.1 < x.1 <;> simp [h1, h2]
theorem swoFrom : Sort.SWO (ltOf fun x y : Ext => Lib.compareInt x.1 y.1) where
  irrefl x := by rw [ltFrom]; simp
  trans x y z h1 h2 := by rw [ltFrom] at *; simp at *; omega
  ntrans x y z h1 h2 := by rw [ltFrom] at *; simp at *; omega
set_option maxHeartbeats 1000000 in
theorem apart1 (x y : Ext) (W : World) : Calls Try.prog 72 #[.agg #[.int .i64 x.1, .int .i64 x.2], .agg #[.int .i64 y.1, .int .i64 y.2]] W fun e w' => e = .returned (.int .i64 (Lib.compareInt x.1 y.1)) ∧ ∃ q os', w' = Sort.grow (W.drewN q) os' := by
  have hcon := fun W' => AnyG.cmp_Compare_int Try.cmpInt x.1 y.1 W'
  change ∀ W', Calls Try.prog 73 _ _ _ at hcon
  generalize Lib.compareInt x.1 y.1 = r at hcon ⊢
  go_enter Try.func72, Try.ntmps72
  go_wp2_with (go_at_call 73; refine (hcon _).mono ?_; rintro e w' ⟨rfl, rfl⟩)
  go_ret
  exact ⟨rfl, 0, _, by rw [Sort.alloc_eq_grow, Sort.alloc_eq_grow, Sort.grow_grow]; rfl⟩
abbrev byFrom : Value := .func (.func 72) #[] #[]
section
variable {s : Ro} {w : World} {R : List Asn}
theorem insNil (H : Holds s w R) : Calls Try.prog 83 #[.slice none 0 0, .int .i64 0, .int .i64 0, byFrom] w fun e w' => e = .returned (.tuple #[]) ∧ Holds s w' R := by
  refine enter Try.func83 rfl Try.ntmps83 rfl ?_
  repeat' (first | refine Z H ?_ | (refine Zc ?_ ?_ <;> intro hc <;> first | (exfalso; omega) | skip) | (refine Y ?_; try change C _ _ _ _ _ _) | (refine Zs H ?_; clear H; (try clear w); intro w H) | (refine Zn H ?_; clear H; (try clear w); intro _ w H) | (refine Ze H ?_; clear H; (try clear w); intro gv w H))
  refine C.loopH H [8, 9, 12, 13, 14, 15, 16, 17, 18, 19, 20, 21, 22, 23, 24, 25, 26, 27, 28, 29, 30, 31, 32, 33, 34, 35, 36, 37, 38, 39, 40, 41, 42, 43, 44, 45, 46, 47, 48, 49, 50, 51, 52] [8] rfl (fun m vs => vs = [.int .i64 (0 + 1)]) 0 rfl ?_
  clear H
  rintro m vs hv w rfl H
  repeat' (first | refine Z H ?_ | (refine Zc ?_ ?_ <;> intro hc <;> first | (exfalso; omega) | skip) | (refine Y ?_; try change C _ _ _ _ _ _) | (refine Zs H ?_; clear H; (try clear w); intro w H) | (refine Zn H ?_; clear H; (try clear w); intro _ w H) | (refine Ze H ?_; clear H; (try clear w); intro gv w H))
  exact ⟨_, res0 rfl, rfl, H⟩
theorem pdqNil (H : Holds s w R) : Calls Try.prog 80 #[.slice none 0 0, .int .i64 0, .int .i64 0, .int .i64 0, byFrom] w fun e w' => e = .returned (.tuple #[]) ∧ Holds s w' R := by
  refine enter Try.func80 rfl Try.ntmps80 rfl ?_
  repeat' (first | refine Z H ?_ | (refine Zc ?_ ?_ <;> intro hc <;> first | (exfalso; omega) | skip) | (refine Y ?_; try change C _ _ _ _ _ _) | (refine Zs H ?_; clear H; (try clear w); intro w H) | (refine Zn H ?_; clear H; (try clear w); intro _ w H) | (refine Ze H ?_; clear H; (try clear w); intro gv w H))
  refine C.loopH H [] [] rfl (fun m vs => vs = []) 0 rfl ?_
  clear H
  rintro m vs hv w rfl H
  repeat' (first | refine Z H ?_ | (refine Zc ?_ ?_ <;> intro hc <;> first | (exfalso; omega) | skip) | (refine Y ?_; try change C _ _ _ _ _ _) | (refine Zs H ?_; clear H; (try clear w); intro w H) | (refine Zn H ?_; clear H; (try clear w); intro _ w H) | (refine Ze H ?_; clear H; (try clear w); intro gv w H))
  (refine K.call rfl rfl rfl ?_; refine (insNil H).mono ?_; (try clear H); rintro _ w ⟨rfl, H⟩; refine ⟨_, rfl, ?_⟩)
  repeat' (first | refine Z H ?_ | (refine Zc ?_ ?_ <;> intro hc <;> first | (exfalso; omega) | skip) | (refine Y ?_; try change C _ _ _ _ _ _) | (refine Zs H ?_; clear H; (try clear w); intro w H) | (refine Zn H ?_; clear H; (try clear w); intro _ w H) | (refine Ze H ?_; clear H; (try clear w); intro gv w H))
  exact ⟨_, res0 rfl, rfl, H⟩
instance : FunC Try.prog 81 := ⟨⟨_, _, Try.func81, by kernel_rfl, rfl⟩⟩
theorem bitsNil (H : Holds s w R) : Calls Try.prog 81 #[.int .u64 0] w fun e w' => e = .returned (.int .i64 0) ∧ Holds s w' R :=
  (Any.bits_Len Try.bitsLen 0 w (by omega) (by omega)).mono fun _ _ ⟨he, hw⟩ => ⟨he, by rw [hw]; exact H⟩
theorem sortNil (H : Holds s w R) : Calls Try.prog 71 #[.slice none 0 0, byFrom] w fun e w' => e = .returned (.tuple #[]) ∧ Holds s w' R := by
  refine enter Try.func71 rfl Try.ntmps71 rfl ?_
  repeat' (first | refine Z H ?_ | (refine Zc ?_ ?_ <;> intro hc <;> first | (exfalso; omega) | skip) | (refine Y ?_; try change C _ _ _ _ _ _) | (refine Zs H ?_; clear H; (try clear w); intro w H) | (refine Zn H ?_; clear H; (try clear w); intro _ w H) | (refine Ze H ?_; clear H; (try clear w); intro gv w H))
  refine K.convI Try.underlying3 rfl rfl rfl ?_
  repeat' (first | refine Z H ?_ | (refine Zc ?_ ?_ <;> intro hc <;> first | (exfalso; omega) | skip) | (refine Y ?_; try change C _ _ _ _ _ _) | (refine Zs H ?_; clear H; (try clear w); intro w H) | (refine Zn H ?_; clear H; (try clear w); intro _ w H) | (refine Ze H ?_; clear H; (try clear w); intro gv w H))
  (refine K.call rfl rfl rfl ?_; refine (bitsNil H).mono ?_; (try clear H); rintro _ w ⟨rfl, H⟩; refine ⟨_, rfl, ?_⟩)
  repeat' (first | refine Z H ?_ | (refine Zc ?_ ?_ <;> intro hc <;> first | (exfalso; omega) | skip) | (refine Y ?_; try change C _ _ _ _ _ _) | (refine Zs H ?_; clear H; (try clear w); intro w H) | (refine Zn H ?_; clear H; (try clear w); intro _ w H) | (refine Ze H ?_; clear H; (try clear w); intro gv w H))
  (refine K.call rfl rfl rfl ?_; refine (pdqNil H).mono ?_; (try clear H); rintro _ w ⟨rfl, H⟩; refine ⟨_, rfl, ?_⟩)
  repeat' (first | refine Z H ?_ | (refine Zc ?_ ?_ <;> intro hc <;> first | (exfalso; omega) | skip) | (refine Y ?_; try change C _ _ _ _ _ _) | (refine Zs H ?_; clear H; (try clear w); intro w H) | (refine Zn H ?_; clear H; (try clear w); intro _ w H) | (refine Ze H ?_; clear H; (try clear w); intro gv w H))
  exact ⟨_, res0 rfl, rfl, H⟩
theorem Sort_s {v : Value} {l : List Ext} (H : Holds s w (row 33 2 v l.length (l.flatMap Ext.cells) :: R)) (hll : l.length < 4611686018427387904) : Calls Try.prog 71 #[v, byFrom] w fun e w' => ∃ l' : List Ext, e = .returned (.tuple #[]) ∧ l'.Perm l ∧ l'.Pairwise (fun x y => x.1 ≤ y.1) ∧ Holds s w' (row 33 2 v l.length (l'.flatMap Ext.cells) :: R) := by
  have H0 := H
  obtain ⟨F, ⟨rfl, hlen, ho⟩, hnew⟩ := H.call
  rcases ho with ⟨rfl, hn⟩ | ⟨g, cap, cur, rfl, _, hg, hc, hm, hs, ht⟩
  · have : l = [] := List.length_eq_zero_iff.1 hn
    subst this
    exact (sortNil H0).mono fun _ _ ⟨he, H⟩ => ⟨[], he, .refl _, .nil, H⟩
  · have hH := holdsK_of hg hc hs ht
    have eg : ∀ args w, (callFunc 72 args).run Try.prog w = .ok (.enter 72 args) w := enters_of Try.func72 (by kernel_rfl) rfl
    have hcon := AnyQ.slices_SortFunc Try.sortExt 2 Try.isAgg33 Try.sizeOf33 Ext.cells (fun _ => rfl) (fun x v hv => by simp [Ext.cells] at hv; rcases hv with rfl | rfl <;> rfl) (fun x y => Lib.compareInt x.1 y.1) swoFrom 72 #[] g 0 cap l.toArray w eg (fun _ _ _ _ x y => apart1 x y _) hH (lt_of_heap hg) (by simpa using hll)
    refine hcon.mono ?_
    rintro e w' ⟨rfl, d', n, os, hp, hso, rfl⟩
    obtain ⟨hsz, _, hpm⟩ := hp
    have hsz' : d'.toList.length = l.length := by simpa using hsz
    obtain ⟨r1, r2⟩ := sorted_row (n := n) (os := os) hsz' hg hc hs hm
    rw [Array.toArray_toList] at r1 r2
    refine ⟨d'.toList, rfl, ?_, ?_, hnew _ _ [g] ⟨rfl, r1⟩ r2 (fun k hk => .inl hk)⟩
    · rw [Array.extract_eq_self_of_le (by omega), Array.extract_eq_self_of_le (by omega)] at hpm
      exact hpm
    · rw [List.pairwise_iff_getElem]
      intro i j hi hj hij
      have := hso i j (Nat.zero_le _) hij (by simpa [hsz'] using hj)
      rw [ltFrom] at this
      simp at hi hj
      simp [hi, hj] at this
      simpa using this
end
end Go.Proofs.Ytmcojfpomejnnaa
set_option linter.unusedSimpArgs false
set_option linter.unusedVariables false
namespace Go.Proofs.Ytmcojfpomejnnaa
open Go Go.RowKit Go.Own
def NoMeet (x y : Ext) : Prop := meetM x.1 x.2 y.1 y.2 = false
theorem NoMeet.symm {x y : Ext} (h : NoMeet x y) : NoMeet y x := by
  unfold NoMeet meetM at *
  simp only [decide_eq_false_iff_not] at *
  omega
/-- are they apart, two by two -/
def apartM (l : List Ext) : Bool := decide (l.Pairwise fun x y => meetM x.1 x.2 y.1 y.2 = false)
def big (l : List Ext) : List Ext := l.filter fun x => decide (1 ≤ x.2)
theorem pair_big : ∀ l : List Ext, (big l).Pairwise NoMeet ↔ l.Pairwise NoMeet
  | [] => by simp [big]
  | x :: l => by
    have ih := pair_big l
    unfold big at *
    rw [List.filter_cons]
    by_cases h : 1 ≤ x.2
    · rw [if_pos (by simpa using h), List.pairwise_cons, List.pairwise_cons, ih]
      refine and_congr_left fun _ => ⟨fun h' y hy => ?_, fun h' y hy => h' y (List.mem_filter.1 hy).1⟩
      by_cases hy2 : 1 ≤ y.2
      · exact h' y (List.mem_filter.2 ⟨hy, by simpa using hy2⟩)
      · unfold NoMeet meetM; simp only [decide_eq_false_iff_not]; omega
    · rw [if_neg (by simpa using h), List.pairwise_cons, ih]
      refine ⟨fun h' => ⟨fun y _ => ?_, h'⟩, fun h' => h'.2⟩
      unfold NoMeet meetM; simp only [decide_eq_false_iff_not]; omega
theorem pair_perm {l l' : List Ext} (h : l'.Perm l) : l'.Pairwise NoMeet ↔ l.Pairwise NoMeet := h.pairwise_iff fun h => NoMeet.symm h
theorem adj_pair {l : List Ext} (hs : l.Pairwise fun x y => x.1 ≤ y.1) (h1 : ∀ x ∈ l, 1 ≤ x.2) : l.Pairwise NoMeet ↔ ∀ j (h : j + 1 < l.length), l[j].2 ≤ l[j + 1].1 - l[j].1 := by
  rw [List.pairwise_iff_getElem] at hs
  constructor
  · intro h j hj
    rw [List.pairwise_iff_getElem] at h
    have a := h j (j + 1) (by omega) hj (by omega)
    have b := hs j (j + 1) (by omega) hj (by omega)
    have c := h1 l[j] (List.getElem_mem _)
    have c' := h1 l[j + 1] (List.getElem_mem _)
    unfold NoMeet meetM at a
    simp only [decide_eq_false_iff_not] at a
    omega
  · intro h
    rw [List.pairwise_iff_getElem]
    intro i j hi hj hij
    have a := h i (by omega)
    have b : l[i + 1].1 ≤ l[j].1 := by
      rcases Nat.lt_or_ge (i + 1) j with h' | h'
      · exact hs (i + 1) j (by omega) hj h'
      · have : j = i + 1 := by omega
        subst this; exact Int.le_refl _
    have c := h1 l[i] (List.getElem_mem _)
    unfold NoMeet meetM
    simp only [decide_eq_false_iff_not]
    omega
/-- what extent.Apart answers, by what it finds -/
theorem apart_of {l s : List Ext} (hp : s.Perm (big l)) (hs : s.Pairwise fun x y => x.1 ≤ y.1) : apartM l = true ↔ ∀ j (h : j + 1 < s.length), s[j].2 ≤ s[j + 1].1 - s[j].1 := by
  have h1 : ∀ x ∈ s, 1 ≤ x.2 := fun x hx => by
    have := (hp.mem_iff).1 hx
    simpa using (List.mem_filter.1 this).2
  unfold apartM
  rw [decide_eq_true_iff]
  show l.Pairwise NoMeet ↔ _
  rw [← pair_big, ← pair_perm hp, adj_pair hs h1]
theorem big_take_succ (l : List Ext) (i : Nat) (h : i < l.length) : big (l.take (i + 1)) = big (l.take i) ++ if 1 ≤ l[i].2 then [l[i]] else [] := by
  unfold big
  rw [List.take_succ_eq_append_getElem h, List.filter_append]
  congr 1
  by_cases h' : 1 ≤ l[i].2 <;> simp [h']
theorem big_len (l : List Ext) (i : Nat) : (big (l.take i)).length ≤ i := Nat.le_trans (List.length_filter_le _ _) (by simp; omega)
end Go.Proofs.Ytmcojfpomejnnaa
set_option linter.unusedSimpArgs false
set_option linter.unusedVariables false
namespace Go.Proofs.Ytmcojfpomejnnaa
open Go Go.RowKit Go.Own
theorem weaken {s s' : Ro} {w : World} {rs : List Asn} (hs : s.Le s') (H : Holds s' w rs) : Holds s w rs :=
  ⟨⟨fun k o h => H.fits.mem k o (hs.mem k o h), by rw [← hs.cst]; exact H.fits.os, by rw [← hs.cst]; exact H.fits.tape, by rw [← hs.cst]; exact H.fits.output⟩, by
    obtain ⟨F, h1, h2⟩ := H.sep
    refine ⟨F, h1, fun k hk => ?_⟩
    cases e : s.mem k with
    | none => rfl
    | some o => have := hs.mem k o e; rw [h2 k hk] at this; cases this⟩
theorem wrap_id {x : Int} (h : 0 ≤ x) (h' : x ≤ 9223372036854775807) : IntKind.u64.wrap x = x := by
  simp [IntKind.wrap, IntKind.bits, IntKind.signed]; omega
theorem wrap_dist {x y : Int} (hx : I64 x) (hy : I64 y) (h : x ≤ y) : IntKind.u64.wrap (IntKind.u64.wrap y - IntKind.u64.wrap x) = y - x := by
  unfold I64 at *
  simp [IntKind.wrap, IntKind.bits, IntKind.signed]; omega
section
variable {s : Ro} {w : World} {R : List Asn}
set_option maxRecDepth 100000 in
set_option maxHeartbeats 1000000 in
theorem Apart_s {v : Value} {l : List Ext} (H : Holds s w R) (hl : SlS s v 2 l.length (l.flatMap Ext.cells)) (hok : ∀ x ∈ l, I64 x.1 ∧ I64 x.2) (hn : l.length ≤ 1000) :
    Calls Try.prog 44 #[v] w fun e w' => e = .returned (.bool (apartM l)) ∧ Holds s w' R := by
  obtain ⟨va, vc, rfl, _⟩ := formS hl
  have H := H.nilRow 33 2
  refine enter Try.func44 rfl Try.ntmps44 rfl ?_
  repeat' (first | refine Z H ?_ | (refine Zc ?_ ?_ <;> intro hc <;> first | (exfalso; omega) | skip) | (refine Y ?_; try change C _ _ _ _ _ _) | (refine Zs H ?_; clear H; (try clear w); intro w H) | (refine Zn H ?_; clear H; (try clear w); intro _ w H) | (refine Ze H ?_; clear H; (try clear w); intro gv w H))
  refine C.loopR H [3, 5, 11, 12, 13, 14, 15, 16, 17, 18, 19, 20, 21, 22] [3, 11] rfl (fun m vs A => ∃ i : Nat, ∃ aa cc, m = l.length - i ∧ i ≤ l.length ∧ vs = [.slice aa (big (l.take i)).length cc, .int .i64 (i : Int)] ∧ A = row 33 2 (.slice aa (big (l.take i)).length cc) (big (l.take i)).length ((big (l.take i)).flatMap Ext.cells)) l.length ⟨0, none, 0, rfl, Nat.zero_le _, rfl, rfl⟩ ?_
  clear H
  rintro m vs hv w A ⟨i, aa, cc, rfl, hi, rfl, rfl⟩ H
  have hbl := big_len l i
  by_cases hlt : i < l.length
  · obtain ⟨gl, ol, cl, hv2, _, _, hpin⟩ := elemS hl (fun _ _ => rfl) (by decide) (by omega)
    cases hv2
    have pa : ∀ j v, [Value.int .i64 l[i].1, .int .i64 l[i].2][j]? = some v → Pin s gl (ol + i * 2 + j) v := hpin i hlt
    have hsn := big_take_succ l i hlt
    obtain ⟨hx1, hx2⟩ := hok l[i] (List.getElem_mem _)
    unfold I64 at hx1 hx2
    generalize l[i] = x at *
    repeat' (first | (refine K.loadAllS H pa rfl rfl rfl (by omega) rfl ?_) | refine Z H ?_ | (refine Zc ?_ ?_ <;> intro hc <;> first | (exfalso; omega) | skip) | (refine Y ?_; try change C _ _ _ _ _ _) | (refine Zs H ?_; clear H; (try clear w); intro w H) | (refine Zn H ?_; clear H; (try clear w); intro _ w H) | (refine Ze H ?_; clear H; (try clear w); intro gv w H))
    · refine K.one H rfl rfl (by conv => lhs; whnf) (by rfl) (by rfl) ?_; clear H; (try clear w); intro g1 w H
      refine K.app 2 H rfl (.own 0 _ rfl) (by simp [Value.oneCell']) (by unfold maxLen; omega) (by omega) rfl rfl rfl ?_; clear H; intro a2 c2 w H; (try simp only [List.set_cons_zero, List.set_cons_succ, List.eraseIdx_cons_zero, List.eraseIdx_cons_succ] at H)
      repeat' (first | refine Z H ?_ | (refine Zc ?_ ?_ <;> intro hc <;> first | (exfalso; omega) | skip) | (refine Y ?_; try change C _ _ _ _ _ _) | (refine Zs H ?_; clear H; (try clear w); intro w H) | (refine Zn H ?_; clear H; (try clear w); intro _ w H) | (refine Ze H ?_; clear H; (try clear w); intro gv w H))
      rw [if_pos (by omega)] at hsn
      refine ⟨by (repeat (first | exact Agr.refl | exact Agr.hav | refine Agr.upd rfl ?_ | refine Agr.in rfl ?_)), l.length - (i + 1), by omega, _, ⟨i + 1, a2, c2, rfl, by omega, ?_, rfl⟩, ?_⟩
      · rw [hsn, List.length_append]; rfl
      · rw [hsn, List.length_append, List.flatMap_append]; exact H.tail.tail
    · rw [if_neg (by omega), List.append_nil] at hsn
      refine ⟨by (repeat (first | exact Agr.refl | exact Agr.hav | refine Agr.upd rfl ?_ | refine Agr.in rfl ?_)), l.length - (i + 1), by omega, _, ⟨i + 1, aa, cc, rfl, by omega, ?_, rfl⟩, ?_⟩
      · rw [hsn]; rfl
      · rw [hsn]; exact H.tail
  · have : i = l.length := by omega
    subst this
    rw [List.take_length] at H hbl ⊢
    repeat' (first | refine Z H ?_ | (refine Zc ?_ ?_ <;> intro hc <;> first | (exfalso; omega) | skip) | (refine Y ?_; try change C _ _ _ _ _ _) | (refine Zs H ?_; clear H; (try clear w); intro w H) | (refine Zn H ?_; clear H; (try clear w); intro _ w H) | (refine Ze H ?_; clear H; (try clear w); intro gv w H))
    (refine K.call rfl rfl rfl ?_; refine (Sort_s H (by omega)).mono ?_; (try clear H); rintro _ w ⟨l', rfl, hp, hs, H⟩; refine ⟨_, rfl, ?_⟩)
    have HH := H.fixRow
    clear H
    obtain ⟨s2, hs2, H, hrow⟩ := HH
    have hap := apart_of hp hs
    have hln := hp.length_eq
    have hok' : ∀ x ∈ l', I64 x.1 ∧ I64 x.2 := fun x hx => hok x (List.mem_filter.1 (hp.mem_iff.1 hx)).1
    have h1' : ∀ x ∈ l', 1 ≤ x.2 := fun x hx => by simpa using (List.mem_filter.1 (hp.mem_iff.1 hx)).2
    rw [List.pairwise_iff_getElem] at hs
    generalize (big l).length = nn at *
    subst hln
    repeat' (first | refine Z H ?_ | (refine Zc ?_ ?_ <;> intro hc <;> first | (exfalso; omega) | skip) | (refine Y ?_; try change C _ _ _ _ _ _) | (refine Zs H ?_; clear H; (try clear w); intro w H) | (refine Zn H ?_; clear H; (try clear w); intro _ w H) | (refine Ze H ?_; clear H; (try clear w); intro gv w H))
    refine C.loopH H [2, 6, 7, 8, 25, 26, 27, 28, 29, 30, 31, 32, 33, 34, 35, 36, 37, 38, 39, 40, 41, 42, 43, 44, 45, 46, 47, 48, 49, 50] [6] rfl (fun m vs => ∃ i : Nat, m = l'.length + 1 - i ∧ 1 ≤ i ∧ i ≤ l'.length + 1 ∧ vs = [.int .i64 (i : Int)] ∧ ∀ j (h : j + 1 < l'.length), j + 1 < i → l'[j].2 ≤ l'[j + 1].1 - l'[j].1) (l'.length) ⟨1, by omega, by omega, by omega, rfl, fun j _ h => by omega⟩ ?_
    clear H
    rintro m vs hv w ⟨i, rfl, hi1, hi, rfl, hadj⟩ H
    by_cases hlt' : i < l'.length
    · obtain ⟨k, rfl⟩ : ∃ k, i = k + 1 := ⟨i - 1, by omega⟩
      obtain ⟨gs, os, cs, hv2, _, _, hpin⟩ := elemS hrow (fun _ _ => rfl) (by decide) (by omega)
      cases hv2
      have px : ∀ j v, [Value.int .i64 l'[k].1, .int .i64 l'[k].2][j]? = some v → Pin s2 gs (os + k * 2 + j) v := hpin k (by omega)
      have py : ∀ j v, [Value.int .i64 l'[k + 1].1, .int .i64 l'[k + 1].2][j]? = some v → Pin s2 gs (os + (k + 1) * 2 + j) v := hpin (k + 1) hlt'
      have hkx := hok' l'[k] (List.getElem_mem _)
      have hky := hok' l'[k + 1] (List.getElem_mem _)
      have hk1 := h1' l'[k] (List.getElem_mem _)
      have hsk := hs k (k + 1) (by omega) hlt' (by omega)
      have e1 := wrap_dist hkx.1 hky.1 hsk
      have e2 := wrap_id (by omega) hkx.2.2
      have hstep : l'[k].2 ≤ l'[k + 1].1 - l'[k].1 → ∀ j (h : j + 1 < l'.length), j + 1 < k + 1 + 1 → l'[j].2 ≤ l'[j + 1].1 - l'[j].1 := fun h0 j h hj => by
        rcases Nat.lt_or_ge (j + 1) (k + 1) with h' | h'
        · exact hadj j h h'
        · have : j = k := by omega
          subst this; exact h0
      have hbad : ¬ l'[k].2 ≤ l'[k + 1].1 - l'[k].1 → apartM l = false := fun h0 => by
        cases he : apartM l with
        | false => rfl
        | true => exact absurd (hap.1 he k hlt') h0
      generalize l'[k] = x at *
      generalize l'[k + 1] = y at *
      repeat' (first | refine Z H ?_ | (refine Zc ?_ ?_ <;> intro hc <;> first | (exfalso; omega) | skip) | (refine Y ?_; try change C _ _ _ _ _ _) | (refine Zs H ?_; clear H; (try clear w); intro w H) | (refine Zn H ?_; clear H; (try clear w); intro _ w H) | (refine Ze H ?_; clear H; (try clear w); intro gv w H))
      refine C.drawnX [gs] [0, 0, 0, 0, 1, 0, 0, 0, 1, 2, 2, 2, 3] [10, 1, 1] [0, 0, 2, 7, 15, 0, 0, 96, 224, 0, 0, 1567, 4095] [10] [1] 9 10 (by kernel_rfl) ?_ ?_
      · replace H := H.drew
        simp only [segL, List.take_succ_cons, List.take_zero, List.drop_succ_cons, List.drop_zero]
        have H0 := H
        repeat' (first | (refine K.ia (i := k) rfl rfl rfl rfl (by omega) (by omega) ?_) | (refine K.loadAllS H px rfl rfl rfl (by omega) rfl ?_) | (refine K.loadAllS H py rfl rfl rfl (by omega) rfl ?_) | refine Z H ?_ | (refine Zc ?_ ?_ <;> intro hc <;> first | (exfalso; omega) | skip) | (refine Y ?_; try change C _ _ _ _ _ _) | (refine Zs H ?_; clear H; (try clear w); intro w H) | (refine Zn H ?_; clear H; (try clear w); intro _ w H) | (refine Ze H ?_; clear H; (try clear w); intro gv w H))
        refine ⟨rfl, rfl, (by intro q hq; first | exact hq | exact (List.not_mem_nil hq).elim | (have hq' : q ∈ ([gs, gs] : List Nat) := hq; simpa using hq')), keep_pin H0 H (Ro.Le.refl _) (px 0 _ rfl), ?_⟩
        clear H0
        have H0 := H
        repeat' (first | refine Z H ?_ | (refine Zc ?_ ?_ <;> intro hc <;> first | (exfalso; omega) | skip) | (refine Y ?_; try change C _ _ _ _ _ _) | (refine Zs H ?_; clear H; (try clear w); intro w H) | (refine Zn H ?_; clear H; (try clear w); intro _ w H) | (refine Ze H ?_; clear H; (try clear w); intro gv w H))
        refine ⟨rfl, rfl, (by intro q hq; first | exact hq | exact (List.not_mem_nil hq).elim), keep_pin H0 H (Ro.Le.refl _) (px 0 _ rfl), ?_⟩
        clear H0
        have H0 := H
        repeat' (first | refine Z H ?_ | (refine Zc ?_ ?_ <;> intro hc <;> first | (exfalso; omega) | skip) | (refine Y ?_; try change C _ _ _ _ _ _) | (refine Zs H ?_; clear H; (try clear w); intro w H) | (refine Zn H ?_; clear H; (try clear w); intro _ w H) | (refine Ze H ?_; clear H; (try clear w); intro gv w H))
        refine ⟨rfl, rfl, (by intro q hq; first | exact hq | exact (List.not_mem_nil hq).elim), keep_pin H0 H (Ro.Le.refl _) (px 0 _ rfl), ?_⟩
        clear H0
        repeat' (first | refine Z H ?_ | (refine Zc ?_ ?_ <;> intro hc <;> first | (exfalso; omega) | skip) | (refine Y ?_; try change C _ _ _ _ _ _) | (refine Zs H ?_; clear H; (try clear w); intro w H) | (refine Zn H ?_; clear H; (try clear w); intro _ w H) | (refine Ze H ?_; clear H; (try clear w); intro gv w H))
        refine ⟨rfl, rfl, (by intro q hq; first | exact hq | exact (List.not_mem_nil hq).elim), keep_same, ?_⟩
        repeat' (first | (refine K.convI Try.underlying3 rfl rfl rfl ?_) | (refine K.arith _ rfl rfl rfl rfl rfl ?_) | (refine K.cmp (r := decide (_ < _)) rfl rfl rfl rfl rfl ?_) | refine Z H ?_ | (refine Zc ?_ ?_ <;> intro hc <;> first | (exfalso; omega) | skip) | (refine Y ?_; try change C _ _ _ _ _ _) | (refine Zs H ?_; clear H; (try clear w); intro w H) | (refine Zn H ?_; clear H; (try clear w); intro _ w H) | (refine Ze H ?_; clear H; (try clear w); intro gv w H))
        refine C.ite rfl (fun hb => ?_) (fun hb => ?_)
        · rw [e1, e2] at hb
          have hc := of_decide_eq_true hb
          repeat' (first | refine Z H ?_ | (refine Zc ?_ ?_ <;> intro hc <;> first | (exfalso; omega) | skip) | (refine Y ?_; try change C _ _ _ _ _ _) | (refine Zs H ?_; clear H; (try clear w); intro w H) | (refine Zn H ?_; clear H; (try clear w); intro _ w H) | (refine Ze H ?_; clear H; (try clear w); intro gv w H))
          exact ⟨_, resT rfl, by rw [hbad (by omega)]; rfl, weaken hs2 H.tail.tail⟩
        · rw [e1, e2] at hb
          have hc := of_decide_eq_false hb
          repeat' (first | refine Z H ?_ | (refine Zc ?_ ?_ <;> intro hc <;> first | (exfalso; omega) | skip) | (refine Y ?_; try change C _ _ _ _ _ _) | (refine Zs H ?_; clear H; (try clear w); intro w H) | (refine Zn H ?_; clear H; (try clear w); intro _ w H) | (refine Ze H ?_; clear H; (try clear w); intro gv w H))
          exact ⟨by (repeat (first | exact Agr.refl | exact Agr.hav | refine Agr.upd rfl ?_ | refine Agr.in rfl ?_)), l'.length + 1 - (k + 1 + 1), by omega, ⟨k + 1 + 1, rfl, by omega, by omega, rfl, hstep (by omega)⟩, H.tail.tail⟩
      · replace H := H.drew
        simp only [segL, List.take_succ_cons, List.take_zero, List.drop_succ_cons, List.drop_zero]
        have H0 := H
        repeat' (first | refine Z H ?_ | (refine Zc ?_ ?_ <;> intro hc <;> first | (exfalso; omega) | skip) | (refine Y ?_; try change C _ _ _ _ _ _) | (refine Zs H ?_; clear H; (try clear w); intro w H) | (refine Zn H ?_; clear H; (try clear w); intro _ w H) | (refine Ze H ?_; clear H; (try clear w); intro gv w H))
        refine ⟨rfl, rfl, (by intro q hq; first | exact hq | exact (List.not_mem_nil hq).elim), keep_pin H0 H (Ro.Le.refl _) (px 0 _ rfl), ?_⟩
        clear H0
        refine L.nil ?_
        refine ⟨rfl, rfl, (by intro q hq; first | exact hq | exact (List.not_mem_nil hq).elim), keep_same, ?_⟩
        have H0 := H
        repeat' (first | (refine K.ia (i := k) rfl rfl rfl rfl (by omega) (by omega) ?_) | (refine K.loadAllS H px rfl rfl rfl (by omega) rfl ?_) | (refine K.loadAllS H py rfl rfl rfl (by omega) rfl ?_) | refine Z H ?_ | (refine Zc ?_ ?_ <;> intro hc <;> first | (exfalso; omega) | skip) | (refine Y ?_; try change C _ _ _ _ _ _) | (refine Zs H ?_; clear H; (try clear w); intro w H) | (refine Zn H ?_; clear H; (try clear w); intro _ w H) | (refine Ze H ?_; clear H; (try clear w); intro gv w H))
        refine ⟨rfl, rfl, (by intro q hq; first | exact hq | exact (List.not_mem_nil hq).elim | (have hq' : q ∈ ([gs, gs] : List Nat) := hq; simpa using hq')), keep_pin H0 H (Ro.Le.refl _) (px 0 _ rfl), ?_⟩
        clear H0
        refine L.nil ?_
        refine ⟨rfl, rfl, (by intro q hq; first | exact hq | exact (List.not_mem_nil hq).elim), keep_same, ?_⟩
        have H0 := H
        repeat' (first | refine Z H ?_ | (refine Zc ?_ ?_ <;> intro hc <;> first | (exfalso; omega) | skip) | (refine Y ?_; try change C _ _ _ _ _ _) | (refine Zs H ?_; clear H; (try clear w); intro w H) | (refine Zn H ?_; clear H; (try clear w); intro _ w H) | (refine Ze H ?_; clear H; (try clear w); intro gv w H))
        refine ⟨rfl, rfl, (by intro q hq; first | exact hq | exact (List.not_mem_nil hq).elim), keep_pin H0 H (Ro.Le.refl _) (px 0 _ rfl), ?_⟩
        clear H0
        repeat' (first | refine Z H ?_ | (refine Zc ?_ ?_ <;> intro hc <;> first | (exfalso; omega) | skip) | (refine Y ?_; try change C _ _ _ _ _ _) | (refine Zs H ?_; clear H; (try clear w); intro w H) | (refine Zn H ?_; clear H; (try clear w); intro _ w H) | (refine Ze H ?_; clear H; (try clear w); intro gv w H))
        refine ⟨rfl, rfl, (by intro q hq; first | exact hq | exact (List.not_mem_nil hq).elim), keep_same, ?_⟩
        repeat' (first | (refine K.convI Try.underlying3 rfl rfl rfl ?_) | (refine K.arith _ rfl rfl rfl rfl rfl ?_) | (refine K.cmp (r := decide (_ < _)) rfl rfl rfl rfl rfl ?_) | refine Z H ?_ | (refine Zc ?_ ?_ <;> intro hc <;> first | (exfalso; omega) | skip) | (refine Y ?_; try change C _ _ _ _ _ _) | (refine Zs H ?_; clear H; (try clear w); intro w H) | (refine Zn H ?_; clear H; (try clear w); intro _ w H) | (refine Ze H ?_; clear H; (try clear w); intro gv w H))
        refine C.ite rfl (fun hb => ?_) (fun hb => ?_)
        · rw [e1, e2] at hb
          have hc := of_decide_eq_true hb
          repeat' (first | refine Z H ?_ | (refine Zc ?_ ?_ <;> intro hc <;> first | (exfalso; omega) | skip) | (refine Y ?_; try change C _ _ _ _ _ _) | (refine Zs H ?_; clear H; (try clear w); intro w H) | (refine Zn H ?_; clear H; (try clear w); intro _ w H) | (refine Ze H ?_; clear H; (try clear w); intro gv w H))
          exact ⟨_, resT rfl, by rw [hbad (by omega)]; rfl, weaken hs2 H.tail.tail⟩
        · rw [e1, e2] at hb
          have hc := of_decide_eq_false hb
          repeat' (first | refine Z H ?_ | (refine Zc ?_ ?_ <;> intro hc <;> first | (exfalso; omega) | skip) | (refine Y ?_; try change C _ _ _ _ _ _) | (refine Zs H ?_; clear H; (try clear w); intro w H) | (refine Zn H ?_; clear H; (try clear w); intro _ w H) | (refine Ze H ?_; clear H; (try clear w); intro gv w H))
          exact ⟨by (repeat (first | exact Agr.refl | exact Agr.hav | refine Agr.upd rfl ?_ | refine Agr.in rfl ?_)), l'.length + 1 - (k + 1 + 1), by omega, ⟨k + 1 + 1, rfl, by omega, by omega, rfl, hstep (by omega)⟩, H.tail.tail⟩
    · have hT : apartM l = true := hap.2 fun j h => hadj j h (by omega)
      repeat' (first | refine Z H ?_ | (refine Zc ?_ ?_ <;> intro hc <;> first | (exfalso; omega) | skip) | (refine Y ?_; try change C _ _ _ _ _ _) | (refine Zs H ?_; clear H; (try clear w); intro w H) | (refine Zn H ?_; clear H; (try clear w); intro _ w H) | (refine Ze H ?_; clear H; (try clear w); intro gv w H))
      exact ⟨_, resT rfl, by rw [hT]; rfl, weaken hs2 H⟩
end
end Go.Proofs.Ytmcojfpomejnnaa
set_option linter.unusedSimpArgs false
set_option linter.unusedVariables false
namespace Go.Proofs.Ytmcojfpomejnnaa
open Go Go.RowKit Go.Own
theorem build_ext (x y : Int) (w : World) : (Instr.build 33 [(0, .int .i64 x), (1, .int .i64 y)].toArray).run Try.prog w = .ok (.agg #[.int .i64 x, .int .i64 y]) w := by kernel_rfl
instance (x : Int) : Decidable (I64 x) := by unfold I64; infer_instance
section
variable {s : Ro} {w : World} {R : List Asn}
end
end Go.Proofs.Ytmcojfpomejnnaa
set_option linter.unusedSimpArgs false
set_option linter.unusedVariables false
namespace Go.Proofs.Ytmcojfpomejnnaa
open Go Go.RowKit Go.Own
/-- a part of a disk; it is only read -/
structure PartS (s : Ro) (p b : Nat) (x : Ext) : Prop where
  all : ∀ j v, [Value.int .i64 x.1, .int .i64 x.2, .pointer (some ⟨b, 0, none⟩)][j]? = some v → Pin s p j v
  ok : I64 x.1 ∧ I64 x.2
theorem PartS.mono {s s' : Ro} {p b : Nat} {x : Ext} (h : PartS s p b x) (hs : s.Le s') : PartS s' p b x := ⟨fun j v hv => (h.all j v hv).mono hs, h.ok⟩
def pread (d : DM) (x : Ext) (a : Int) : List UInt8 × Int := if (placeM x.1 x.2 a).2 = 0 then d.read (placeM x.1 x.2 a).1 else ([], (placeM x.1 x.2 a).2)
def pwrite (d : DM) (x : Ext) (a : Int) (l : List UInt8) : DM × Int := if (placeM x.1 x.2 a).2 = 0 then d.write (placeM x.1 x.2 a).1 l else (d, (placeM x.1 x.2 a).2)
theorem build_part (x y : Int) (b : Nat) (w : World) : (Instr.build 162 [(0, .agg #[.int .i64 x, .int .i64 y]), (1, .pointer (some ⟨b, 0, none⟩))].toArray).run Try.prog w = .ok (.agg #[.int .i64 x, .int .i64 y, .pointer (some ⟨b, 0, none⟩)]) w := by kernel_rfl
section
variable {s : Ro} {w : World} {R : List Asn} {b p : Nat} {d : DM} {x : Ext} {a : Int}
theorem len_i64 (hw : d.Wf) : I64 d.secs.length := by have := hw.hi; unfold I64; omega
set_option maxRecDepth 100000 in
set_option maxHeartbeats 1000000 in
theorem New_p (H : Holds s w (dsk b d :: R)) (hx : I64 x.1 ∧ I64 x.2) : Calls Try.prog 47 #[.pointer (some ⟨b, 0, none⟩), .agg #[.int .i64 x.1, .int .i64 x.2]] w fun e w' =>
    (liesM x.1 x.2 d.secs.length = false ∧ e = .returned (.tuple #[.pointer none, .int .i64 1]) ∧ Holds s w' (dsk b d :: R)) ∨
    (liesM x.1 x.2 d.secs.length = true ∧ ∃ s' p, e = .returned (.tuple #[.pointer (some ⟨p, 0, none⟩), .int .i64 0]) ∧ s.Le s' ∧ PartS s' p b x ∧ Holds s' w' (dsk b d :: R)) := by
  have hwf := Holds.wf H
  refine enter Try.func47 rfl Try.ntmps47 rfl ?_
  repeat' (first | refine Z H ?_ | (refine Zc ?_ ?_ <;> intro hc <;> first | (exfalso; omega) | skip) | (refine Y ?_; try change C _ _ _ _ _ _) | (refine Zs H ?_; clear H; (try clear w); intro w H) | (refine Zn H ?_; clear H; (try clear w); (first | ((fail_if_success (have := bl1)); intro bl1 w H) | ((fail_if_success (have := bl2)); intro bl2 w H) | intro _ w H)) | (refine Ze H ?_; clear H; (try clear w); intro gv w H))
  refine C.drawn2 [bl1] [1, 0, 2, 2, 0] [3, 1] [0, 0, 2, 7, 15] (by kernel_rfl) ?_; replace H := H.drew; simp only [segL, List.take_succ_cons, List.take_zero, List.drop_succ_cons, List.drop_zero]; have H0 := H
  repeat' (first | refine Z H ?_ | (refine Zc ?_ ?_ <;> intro hc <;> first | (exfalso; omega) | skip) | (refine Y ?_; try change C _ _ _ _ _ _) | (refine Zs H ?_; clear H; (try clear w); intro w H) | (refine Zn H ?_; clear H; (try clear w); (first | ((fail_if_success (have := bl1)); intro bl1 w H) | ((fail_if_success (have := bl2)); intro bl2 w H) | intro _ w H)) | (refine Ze H ?_; clear H; (try clear w); intro gv w H))
  replace H := H.up 1 rfl; (try simp only [List.set_cons_zero, List.set_cons_succ, List.eraseIdx_cons_zero, List.eraseIdx_cons_succ] at H)
  (refine X.call (Size_s H) ?_; (try clear H); rintro _ w ⟨rfl, H⟩; refine ⟨_, rfl, ?_⟩); refine L.nil ?_; refine ⟨rfl, rfl, (by repeat (first | exact subN_nil | refine subN_cons (by simp) ?_)), (by first | exact keep_same | (repeat (first | exact keepV H0 H | exact keepP H0 H | exact keep_nil | refine keep_cons ?_ ?_))), ?_⟩; clear H0; have H0 := H
  (refine X.call (Lies_s H hx.1 hx.2 (len_i64 hwf)) ?_; (try clear H); rintro _ w ⟨rfl, H⟩; refine ⟨_, rfl, ?_⟩); refine L.nil ?_; refine ⟨rfl, rfl, (by repeat (first | exact subN_nil | refine subN_cons (by simp) ?_)), (by first | exact keep_same | (repeat (first | exact keepV H0 H | exact keepP H0 H | exact keep_nil | refine keep_cons ?_ ?_))), ?_⟩; clear H0; have H0 := H
  repeat' (first | refine Z H ?_ | (refine Zc ?_ ?_ <;> intro hc <;> first | (exfalso; omega) | skip) | (refine Y ?_; try change C _ _ _ _ _ _) | (refine Zs H ?_; clear H; (try clear w); intro w H) | (refine Zn H ?_; clear H; (try clear w); (first | ((fail_if_success (have := bl1)); intro bl1 w H) | ((fail_if_success (have := bl2)); intro bl2 w H) | intro _ w H)) | (refine Ze H ?_; clear H; (try clear w); intro gv w H))
  refine ⟨rfl, rfl, (by repeat (first | exact subN_nil | refine subN_cons (by simp) ?_)), (by first | exact keep_same | (repeat (first | exact keepV H0 H | exact keepP H0 H | exact keep_nil | refine keep_cons ?_ ?_))), ?_⟩; clear H0; have H0 := H
  repeat' (first | refine Z H ?_ | (refine Zc ?_ ?_ <;> intro hc <;> first | (exfalso; omega) | skip) | (refine Y ?_; try change C _ _ _ _ _ _) | (refine Zs H ?_; clear H; (try clear w); intro w H) | (refine Zn H ?_; clear H; (try clear w); (first | ((fail_if_success (have := bl1)); intro bl1 w H) | ((fail_if_success (have := bl2)); intro bl2 w H) | intro _ w H)) | (refine Ze H ?_; clear H; (try clear w); intro gv w H))
  refine C.ite rfl (fun hb => ?_) (fun hb => ?_)
  · repeat' (first | refine Z H ?_ | (refine Zc ?_ ?_ <;> intro hc <;> first | (exfalso; omega) | skip) | (refine Y ?_; try change C _ _ _ _ _ _) | (refine Zs H ?_; clear H; (try clear w); intro w H) | (refine Zn H ?_; clear H; (try clear w); (first | ((fail_if_success (have := bl1)); intro bl1 w H) | ((fail_if_success (have := bl2)); intro bl2 w H) | intro _ w H)) | (refine Ze H ?_; clear H; (try clear w); intro gv w H))
    exact ⟨_, resTT rfl, .inl ⟨by simpa using hb, rfl, H.drop1⟩⟩
  · repeat' (first | (refine K.build [(0, .agg #[.int .i64 _, .int .i64 _]), (1, .pointer (some ⟨_, 0, none⟩))] (.agg #[.int .i64 _, .int .i64 _, .pointer (some ⟨_, 0, none⟩)]) (build_part _ _ _) rfl rfl rfl ?_) | refine Z H ?_ | (refine Zc ?_ ?_ <;> intro hc <;> first | (exfalso; omega) | skip) | (refine Y ?_; try change C _ _ _ _ _ _) | (refine Zs H ?_; clear H; (try clear w); intro w H) | (refine Zn H ?_; clear H; (try clear w); (first | ((fail_if_success (have := bl1)); intro bl1 w H) | ((fail_if_success (have := bl2)); intro bl2 w H) | intro _ w H)) | (refine Ze H ?_; clear H; (try clear w); intro gv w H))
    obtain ⟨s', hs, H, hp⟩ := H.fixVar
    exact ⟨_, resTT rfl, .inr ⟨by simpa using hb, s', bl2, rfl, hs, ⟨hp, hx⟩, H.drop1⟩⟩
theorem Size_p (H : Holds s w R) (h : PartS s p b x) : Calls Try.prog 52 #[.pointer (some ⟨p, 0, none⟩)] w fun e w' => e = .returned (.int .i64 x.2) ∧ Holds s w' R := by
  have p1 : Pin s p 1 _ := h.all 1 _ rfl
  refine enter Try.func52 rfl Try.ntmps52 rfl ?_
  repeat' (first | refine Z H ?_ | (refine Zc ?_ ?_ <;> intro hc <;> first | (exfalso; omega) | skip) | (refine Y ?_; try change C _ _ _ _ _ _) | (refine Zs H ?_; clear H; (try clear w); intro w H) | (refine Zn H ?_; clear H; (try clear w); intro _ w H) | (refine Ze H ?_; clear H; (try clear w); intro gv w H))
  exact ⟨_, resT rfl, rfl, H⟩
theorem Flush_p (H : Holds s w (dsk b d :: R)) (h : PartS s p b x) : Calls Try.prog 53 #[.pointer (some ⟨p, 0, none⟩)] w fun e w' => e = .returned (.int .i64 d.flush.2) ∧ Holds s w' (dsk b d.flush.1 :: R) := by
  have p2 : Pin s p 2 _ := h.all 2 _ rfl
  refine enter Try.func53 rfl Try.ntmps53 rfl ?_
  repeat' (first | refine Z H ?_ | (refine Zc ?_ ?_ <;> intro hc <;> first | (exfalso; omega) | skip) | (refine Y ?_; try change C _ _ _ _ _ _) | (refine Zs H ?_; clear H; (try clear w); intro w H) | (refine Zn H ?_; clear H; (try clear w); intro _ w H) | (refine Ze H ?_; clear H; (try clear w); intro gv w H))
  (refine X.call (Flush_s H) ?_; (try clear H); rintro _ w ⟨rfl, H⟩; refine ⟨_, rfl, ?_⟩)
  repeat' (first | refine Z H ?_ | (refine Zc ?_ ?_ <;> intro hc <;> first | (exfalso; omega) | skip) | (refine Y ?_; try change C _ _ _ _ _ _) | (refine Zs H ?_; clear H; (try clear w); intro w H) | (refine Zn H ?_; clear H; (try clear w); intro _ w H) | (refine Ze H ?_; clear H; (try clear w); intro gv w H))
  exact ⟨_, resT rfl, rfl, H⟩
theorem Read_p (H : Holds s w (dsk b d :: R)) (h : PartS s p b x) (ha : I64 a) : Calls Try.prog 49 #[.pointer (some ⟨p, 0, none⟩), .int .i64 a] w fun e w' => ∃ t aa cc, e = .returned (.tuple #[.slice aa (pread d x a).1.length cc, .int .i64 (pread d x a).2]) ∧ Holds s w' (row t 1 (.slice aa (pread d x a).1.length cc) (pread d x a).1.length (u8s (pread d x a).1) :: dsk b d :: R) := by
  have p2 : Pin s p 2 _ := h.all 2 _ rfl
  have p01 : ∀ j v, [Value.int .i64 x.1, .int .i64 x.2][j]? = some v → Pin s p (0 + j) v := fun j v hv => by rw [Nat.zero_add]; exact h.all j v (by match j, hv with | 0, hv => exact hv | 1, hv => exact hv | (_ + 2), hv => simp at hv)
  unfold pread
  have hP := Place_s H h.ok.1 h.ok.2 ha
  generalize placeM x.1 x.2 a = q at *
  refine enter Try.func49 rfl Try.ntmps49 rfl ?_
  repeat' (first | refine Z H ?_ | (refine Zc ?_ ?_ <;> intro hc <;> first | (exfalso; omega) | skip) | (refine Y ?_; try change C _ _ _ _ _ _) | (refine Zs H ?_; clear H; (try clear w); intro w H) | (refine Zn H ?_; clear H; (try clear w); intro _ w H) | (refine Ze H ?_; clear H; (try clear w); intro gv w H))
  (refine X.call (hP) ?_; (try clear H); rintro _ w ⟨rfl, H⟩; refine ⟨_, rfl, ?_⟩)
  clear hP
  repeat' (first | refine Z H ?_ | (refine Zc ?_ ?_ <;> intro hc <;> first | (exfalso; omega) | skip) | (refine Y ?_; try change C _ _ _ _ _ _) | (refine Zs H ?_; clear H; (try clear w); intro w H) | (refine Zn H ?_; clear H; (try clear w); intro _ w H) | (refine Ze H ?_; clear H; (try clear w); intro gv w H))
  · rw [if_neg (by omega)]
    exact ⟨_, resTT rfl, 0, none, 0, rfl, H.nilRow 0 1⟩
  · rw [if_pos (by omega)]
    (refine X.call (Read_s H) ?_; (try clear H); rintro _ w ⟨t, aa, cc, rfl, H⟩; refine ⟨_, rfl, ?_⟩)
    repeat' (first | refine Z H ?_ | (refine Zc ?_ ?_ <;> intro hc <;> first | (exfalso; omega) | skip) | (refine Y ?_; try change C _ _ _ _ _ _) | (refine Zs H ?_; clear H; (try clear w); intro w H) | (refine Zn H ?_; clear H; (try clear w); intro _ w H) | (refine Ze H ?_; clear H; (try clear w); intro gv w H))
    exact ⟨_, resTT rfl, t, aa, cc, rfl, H⟩
theorem Write_p {v : Value} {l : List UInt8} (H : Holds s w (dsk b d :: R)) (h : PartS s p b x) (ha : I64 a) (hs : Src s R v 1 l.length (u8s l)) (hpl : d.pend.length ≤ 1000000) : Calls Try.prog 48 #[.pointer (some ⟨p, 0, none⟩), .int .i64 a, v] w fun e w' => e = .returned (.int .i64 (pwrite d x a l).2) ∧ Holds s w' (dsk b (pwrite d x a l).1 :: R) := by
  have p2 : Pin s p 2 _ := h.all 2 _ rfl
  have p01 : ∀ j v, [Value.int .i64 x.1, .int .i64 x.2][j]? = some v → Pin s p (0 + j) v := fun j v hv => by rw [Nat.zero_add]; exact h.all j v (by match j, hv with | 0, hv => exact hv | 1, hv => exact hv | (_ + 2), hv => simp at hv)
  unfold pwrite
  have hP := Place_s H h.ok.1 h.ok.2 ha
  generalize placeM x.1 x.2 a = q at *
  refine enter Try.func48 rfl Try.ntmps48 rfl ?_
  repeat' (first | refine Z H ?_ | (refine Zc ?_ ?_ <;> intro hc <;> first | (exfalso; omega) | skip) | (refine Y ?_; try change C _ _ _ _ _ _) | (refine Zs H ?_; clear H; (try clear w); intro w H) | (refine Zn H ?_; clear H; (try clear w); intro _ w H) | (refine Ze H ?_; clear H; (try clear w); intro gv w H))
  (refine X.call (hP) ?_; (try clear H); rintro _ w ⟨rfl, H⟩; refine ⟨_, rfl, ?_⟩)
  clear hP
  repeat' (first | refine Z H ?_ | (refine Zc ?_ ?_ <;> intro hc <;> first | (exfalso; omega) | skip) | (refine Y ?_; try change C _ _ _ _ _ _) | (refine Zs H ?_; clear H; (try clear w); intro w H) | (refine Zn H ?_; clear H; (try clear w); intro _ w H) | (refine Ze H ?_; clear H; (try clear w); intro gv w H))
  · rw [if_neg (by omega)]
    exact ⟨_, resT rfl, rfl, H⟩
  · rw [if_pos (by omega)]
    (refine X.call (Write_s H hs hpl) ?_; (try clear H); rintro _ w ⟨rfl, H⟩; refine ⟨_, rfl, ?_⟩)
    repeat' (first | refine Z H ?_ | (refine Zc ?_ ?_ <;> intro hc <;> first | (exfalso; omega) | skip) | (refine Y ?_; try change C _ _ _ _ _ _) | (refine Zs H ?_; clear H; (try clear w); intro w H) | (refine Zn H ?_; clear H; (try clear w); intro _ w H) | (refine Ze H ?_; clear H; (try clear w); intro gv w H))
    exact ⟨_, resT rfl, rfl, H⟩
theorem New_p1 (H : Holds s w (dsk b d :: R)) (hx : I64 x.1 ∧ I64 x.2) (hl : liesM x.1 x.2 d.secs.length = true) : Calls Try.prog 47 #[.pointer (some ⟨b, 0, none⟩), .agg #[.int .i64 x.1, .int .i64 x.2]] w fun e w' =>
    ∃ s' p, e = .returned (.tuple #[.pointer (some ⟨p, 0, none⟩), .int .i64 0]) ∧ s.Le s' ∧ PartS s' p b x ∧ Holds s' w' (dsk b d :: R) :=
  (New_p H hx).mono fun e w' h => by
    rcases h with ⟨h, _⟩ | ⟨_, h⟩
    · rw [hl] at h; cases h
    · exact h
/-- a disk in memory that is only read -/
def DiskRo (s : Ro) (b : Nat) (d : DM) : Prop := ∃ F, ∀ w, Fits s w → DiskAt w b d F
theorem DiskRo.of (H : Holds s w (dsk b d :: R)) : DiskRo (full s w) b d := by
  obtain ⟨F, h⟩ := H.get (i := 0) rfl
  refine ⟨F, fun w' hf => diskAt_loc h fun k hk => ?_⟩
  have hlt := DiskAt.lt h k hk
  have : w.heap[k]? = some w.heap[k] := by simp [hlt]
  rw [this]
  exact hf.mem k _ this
theorem DiskRo.wf (h : DiskRo s b d) (H : Holds s w R) : d.Wf := by obtain ⟨F, h⟩ := h; exact (h w H.fits).1
theorem Size_e (H : Holds s w R) (h : PartS s p b x) : Calls Try.prog 52 #[.pointer (some ⟨p, 0, none⟩)] w fun e w' => e = .returned (.int .i64 x.2) ∧ Only [] w w' ∧ Holds s w' R :=
  (Size_p H.full (h.mono H.le_full)).mono fun e w' ⟨he, H'⟩ => ⟨he, H.pure0 H'⟩
theorem Sector_e {x : UInt8} {off : Int} (H : Holds s w R) : Calls Try.prog 18 #[.int .u8 x.toNat, .int .i64 off] w fun e w' => ∃ t aa cc, e = .returned (.slice aa (sect x off).length cc) ∧ Only [] w w' ∧ Holds s w' (row t 1 (.slice aa (sect x off).length cc) (sect x off).length (u8s (sect x off)) :: R) :=
  (Sector_at x off w).mono fun e w' ⟨v, he, h1, h2⟩ => by
    obtain ⟨t, aa, cc, rfl, H'⟩ := new_row H h1 h2
    exact ⟨t, aa, cc, he, h2, H'⟩
end
end Go.Proofs.Ytmcojfpomejnnaa
set_option linter.unusedSimpArgs false
set_option linter.unusedVariables false
namespace Go.Proofs.Ytmcojfpomejnnaa
open Go Go.RowKit Go.Own
section
variable {d : DM} {b : List UInt8}
def wr1 (d : DM) (n : Nat) (b : List UInt8) : DM := { d with pend := d.pend ++ [(n, b)] }
theorem powered_free (h1 : d.off = false) (h2 : d.armed = false) : d.powered = (d, true) := by simp [DM.powered, h1, h2]
theorem write_free (h1 : d.off = false) (h2 : d.armed = false) {n : Nat} (hn : n < d.secs.length) (hb : b.length = 64) : d.write (n : Int) b = (wr1 d n b, 0) := by
  have hi : d.inB (n : Int) = true := by simp [DM.inB]; omega
  simp [DM.write, hi, hb, powered_free h1 h2, wr1]
theorem cur_wr1 (d : DM) (n k : Nat) (b : List UInt8) : (wr1 d n b).cur k = if n = k then b else d.cur k := by
  simp only [DM.cur, wr1, List.foldl_append, List.foldl_cons, List.foldl_nil]
  rfl
theorem read_free (h1 : d.off = false) {n : Nat} (hn : n < d.secs.length) : d.read (n : Int) = (d.cur n, 0) := by
  have hi : d.inB (n : Int) = true := by simp [DM.inB]; omega
  simp [DM.read, hi, h1]
theorem new_cur {n k : Nat} (h : k < n) : (DM.new n).cur k = List.replicate 64 0 := by
  simp [DM.cur, DM.new, DM.sec, h]
theorem sect0 (x : UInt8) : sect x 0 = List.replicate 64 x := by simp [sect, secLen]
end
theorem u8s_set (l : List UInt8) (n : Nat) (x : UInt8) : (u8s l).set n (u8 x) = u8s (l.set n x) := by simp [u8s, List.map_set]
/-- an Act of layer 6's laws, as it lies in memory -/
structure Act6 where
  do_ : Int
  at_ : Int
  off : Int
  fill : UInt8
  keepv : Value
  keep : List Bool
def Act6.cells (a : Act6) : List Value := [.int .i64 a.do_, .int .i64 a.at_, .int .i64 a.off, u8 a.fill, a.keepv]
structure Act6.Ok (s : Ro) (a : Act6) : Prop where
  keep : SlS s a.keepv 1 a.keep.length (a.keep.map Value.bool)
  klen : a.keep.length ≤ 140737488351232
  hd : I64 a.do_
  ha : I64 a.at_
  ho : I64 a.off
theorem Act6.Ok.mono {s s' : Ro} {a : Act6} (h : a.Ok s) (hs : s.Le s') : a.Ok s' := ⟨h.keep.mono hs, h.klen, h.hd, h.ha, h.ho⟩
end Go.Proofs.Ytmcojfpomejnnaa

/- package tree, walked: New, Find, Used, Path, Make. package tree, walked: a node's blocks are taken away; Cut, Remove. -/
import Derived.Test.YtlchnabnhimlcaaTlTw8
set_option linter.unusedSimpArgs false
set_option linter.unusedVariables false
namespace Go.Proofs.Ytlchnabnhimlcaa
open Go Go.RowKit Go.Own
instance (priority := high) zeroT : ZeroC Try.prog 34 TR.zero.cells := ⟨⟨.agg TR.zero.cells.toArray, by kernel_rfl, by kernel_rfl⟩⟩
theorem check_iff {t : TR} : checkM t = true ↔ t.n 0 = Nd.root ∧ (∀ i, i < 8 → 1 ≤ i → OkAt t i) ∧ blocksFitM t = true := by
  unfold checkM
  rw [Bool.and_eq_true, Bool.and_eq_true, decide_eq_true_eq, decide_eq_true_eq, and_assoc]
theorem fits_of {t : TR} (h : checkM t = true) {i : Nat} (hi : i < 8) (h1 : 1 ≤ i) (hk : (t.n i).kind ≠ 0) : Fits t i := by
  rcases (check_iff.1 h).2.1 i hi h1 with hz | hf
  · rw [hz] at hk; exact absurd rfl hk
  · exact hf.1
theorem rooted_of {t : TR} (h : checkM t = true) {i : Nat} (hi : i < 8) (hk : (t.n i).kind ≠ 0) : rootedM t i = true := by
  by_cases h0 : i = 0
  · subst h0; rfl
  · exact (fits_of h hi (by omega) hk).2.2.2.2.1
theorem rooted_step {t : TR} {f i : Nat} (h : rootedFrom t (f + 1) i = true) (h0 : i ≠ 0) : ∃ p : Nat, p < 8 ∧ (t.n i).parent = p ∧ rootedFrom t f p = true := by
  rw [rootedFrom, if_neg (by omega), Int.toNat_natCast] at h
  split at h
  · cases h
  · rename_i hp
    refine ⟨(t.n i).parent.toNat, by omega, by omega, ?_⟩
    rw [show (((t.n i).parent.toNat : Nat) : Int) = (t.n i).parent by omega]
    exact h
theorem rooted_zero {t : TR} {i : Nat} (h : rootedFrom t 0 i = true) : i = 0 := by
  have : (i : Int) = 0 := by simpa [rootedFrom] using h
  omega
section
variable {n : Nat} {ops : Array Oper} {Q : Post} {rest : List Oper} {e : Env} {w : World} {s : Ro} {rs R : List Asn} {tt : Nat} {pp : String} {af : Array Edge} {g : Option (Nat × Bool)} {d : Nat}
/-- a tree whole, read and written -/
theorem X.ldT {x : Operand} {b : Nat} {ty : TypeId} {u : TR} {f : List Value → List Asn} (H : Holds s w rs) (h : L Try.prog n ops Q rest (upd e d (.agg u.cells.toArray)) w) (hw : wg n ops g e = true := by rfl) (hd : Nat.blt d n = true := by rfl) (hx : ev e x = .pointer (some ⟨b, 0, none⟩) := by rfl) (T : PutV rs b ty u.cells f := by infer_instance) (hu : u.Ok := by assumption) : L Try.prog n ops Q (⟨some d, .load 34 x, tt, pp, af, g⟩ :: rest) e w := X.lda (k := 368) H h hw hd hx T (TR.cells_len hu)
theorem X.stT {x y : Operand} {b : Nat} {ty : TypeId} {u v : TR} {f : List Value → List Asn} (H : Holds s w rs) (h : ∀ w', Holds s w' (f v.cells) → L Try.prog n ops Q rest e w') (hw : wg n ops g e = true := by rfl) (hx : ev e x = .pointer (some ⟨b, 0, none⟩) := by rfl) (V : PutV rs b ty u.cells f := by infer_instance) (hy : ev e y = .agg v.cells.toArray := by rfl) (hu : u.Ok := by assumption) (hv : v.Ok := by assumption) : L Try.prog n ops Q (⟨none, .store 34 x y, tt, pp, af, g⟩ :: rest) e w :=
  X.sta (k := 368) H h hw hx V hy (TR.cells_all hv) (TR.cells_len hv) (TR.cells_len hu)
/-- a cell of a node is written -/
theorem X.stN {ty : TypeId} {x y : Operand} [T : OneC Try.prog ty] {b off : Nat} {tp : TypeId} {t : TR} {f : List Value → List Asn} {v : Value} (i k : Nat) (z : Nd) (ht : t.Ok) (hi : i < 8) (hk : k < 6) (hz : z.cells = (t.n i).cells.set k v) (H : Holds s w rs) (h : ∀ w', Holds s w' (f (t.set i z).cells) → L Try.prog n ops Q rest e w') (ho : off = 0 + i * 6 + k := by rfl) (hw : wg n ops g e = true := by rfl) (hx : ev e x = .pointer (some ⟨b, off, none⟩) := by rfl) (V : PutV rs b tp t.cells f := by infer_instance) (hy : ev e y = v := by rfl) (h1 : v.oneCell' = true := by rfl) : L Try.prog n ops Q (⟨none, .store ty x y, tt, pp, af, g⟩ :: rest) e w := by
  obtain ⟨j, hj, hf⟩ := V.ix
  subst ho
  exact K.store j H hw hx hj hy h1 (by rw [Nat.blt_eq, TR.cells_len ht]; omega) (fun w' H' => h w' (by rw [hf, TR.put_cell ht hi hk v z hz] at H'; exact H'))
/-- cells of a node are written -/
theorem X.stM {ty : TypeId} {x y : Operand} {k0 : Nat} [T : RowC Try.prog ty k0] {b off : Nat} {tp : TypeId} {t : TR} {f : List Value → List Asn} {ys : List Value} (i k : Nat) (z : Nd) (ht : t.Ok) (hi : i < 8) (hk : k + ys.length ≤ 6) (hz : z.cells = putL (t.n i).cells k ys) (hn : ys.length = k0) (h1 : ys.all Value.oneCell' = true) (H : Holds s w rs) (h : ∀ w', Holds s w' (f (t.set i z).cells) → L Try.prog n ops Q rest e w') (ho : off = 0 + i * 6 + k := by rfl) (hw : wg n ops g e = true := by rfl) (hx : ev e x = .pointer (some ⟨b, off, none⟩) := by rfl) (V : PutV rs b tp t.cells f := by infer_instance) (hy : ev e y = .agg ys.toArray := by rfl) : L Try.prog n ops Q (⟨none, .store ty x y, tt, pp, af, g⟩ :: rest) e w := by
  subst ho
  refine X.stp (ys := ys) (t.set i z).cells H h hw hx V hy ?_ h1 hn (by rw [Nat.ble_eq, TR.cells_len ht]; omega)
  rw [← TR.put_part ht hi ys hk z hz, putL, hn]
variable {p : Str} {b : Nat} {t : TR}
set_option maxRecDepth 100000 in
set_option maxHeartbeats 1000000 in
theorem NewT_s (H : Holds s w R) : Calls Try.prog 26 #[] w fun e w' => e = .returned (.agg TR.new.cells.toArray) ∧ Holds s w' R := by
  have hz := TR.ok_zero
  have hnew := TR.ok_new
  refine enter Try.func26 rfl Try.ntmps26 rfl ?_
  repeat' (first | (refine K.iaA (i := 0) rfl rfl rfl rfl rfl (by decide) ?_) | (refine X.stN 0 0 Nd.root hz (by decide) (by decide) rfl H ?_; clear H; (try clear w); intro w H) | (refine X.lenL ?_) | (refine X.lv H ?_) | (refine X.lp H ?_) | (refine X.ldT H ?_) | (refine X.stT H ?_; clear H; (try clear w); intro w H) | (refine K.build [] _ build_tree0 rfl rfl rfl ?_) | (refine X.eqL ?_ ?_ <;> intro hc <;> first | (exfalso; first | exact absurd hc (by assumption) | exact absurd (by assumption) hc) | skip) | refine Z H ?_ | (refine Zc ?_ ?_ <;> intro hc <;> first | (exfalso; omega) | skip) | (refine Y ?_; try change C _ _ _ _ _ _) | (refine Zs H ?_; clear H; (try clear w); intro w H) | (refine Zn H ?_; clear H; (try clear w); intro _ w H) | (refine Ze H ?_; clear H; (try clear w); intro gv w H))
  exact ⟨_, resV (cs := TR.new.cells) H rfl rfl inferInstance (TR.cells_len hnew), rfl, H.tail.tail⟩
set_option maxRecDepth 100000 in
set_option maxHeartbeats 1000000 in
theorem Find_s (H : Holds s w R) (ht : t.Ok) : Calls Try.prog 18 #[.agg t.cells.toArray, .string ⟨p.toArray⟩] w fun e w' => e = .returned (.tuple #[.int .i64 (findTM t p).1, .int .i64 (findTM t p).2]) ∧ Holds s w' R := by
  refine enter Try.func18 rfl Try.ntmps18 rfl ?_
  repeat' (first | (refine X.lenL ?_) | (refine X.lv H ?_) | (refine X.lp H ?_) | (refine X.ldT H ?_) | (refine X.stT H ?_; clear H; (try clear w); intro w H) | (refine K.build [] _ build_tree0 rfl rfl rfl ?_) | (refine X.eqL ?_ ?_ <;> intro hc <;> first | (exfalso; first | exact absurd hc (by assumption) | exact absurd (by assumption) hc) | skip) | refine Z H ?_ | (refine Zc ?_ ?_ <;> intro hc <;> first | (exfalso; omega) | skip) | (refine Y ?_; try change C _ _ _ _ _ _) | (refine Zs H ?_; clear H; (try clear w); intro w H) | (refine Zn H ?_; clear H; (try clear w); intro _ w H) | (refine Ze H ?_; clear H; (try clear w); intro gv w H))
  have hC := Check_s H ht
  by_cases hc : checkM t = true
  · rw [hc] at hC
    (refine X.call (hC) ?_; (try clear H); rintro _ w ⟨rfl, H⟩; refine ⟨_, rfl, ?_⟩)
    clear hC
    repeat' (first | (refine X.lenL ?_) | (refine X.lv H ?_) | (refine X.lp H ?_) | (refine X.ldT H ?_) | (refine X.stT H ?_; clear H; (try clear w); intro w H) | (refine K.build [] _ build_tree0 rfl rfl rfl ?_) | (refine X.eqL ?_ ?_ <;> intro hc <;> first | (exfalso; first | exact absurd hc (by assumption) | exact absurd (by assumption) hc) | skip) | refine Z H ?_ | (refine Zc ?_ ?_ <;> intro hc <;> first | (exfalso; omega) | skip) | (refine Y ?_; try change C _ _ _ _ _ _) | (refine Zs H ?_; clear H; (try clear w); intro w H) | (refine Zn H ?_; clear H; (try clear w); intro _ w H) | (refine Ze H ?_; clear H; (try clear w); intro gv w H))
    (refine X.call (find_s (p := p) H ht) ?_; (try clear H); rintro _ w ⟨rfl, H⟩; refine ⟨_, rfl, ?_⟩)
    repeat' (first | (refine X.lenL ?_) | (refine X.lv H ?_) | (refine X.lp H ?_) | (refine X.ldT H ?_) | (refine X.stT H ?_; clear H; (try clear w); intro w H) | (refine K.build [] _ build_tree0 rfl rfl rfl ?_) | (refine X.eqL ?_ ?_ <;> intro hc <;> first | (exfalso; first | exact absurd hc (by assumption) | exact absurd (by assumption) hc) | skip) | refine Z H ?_ | (refine Zc ?_ ?_ <;> intro hc <;> first | (exfalso; omega) | skip) | (refine Y ?_; try change C _ _ _ _ _ _) | (refine Zs H ?_; clear H; (try clear w); intro w H) | (refine Zn H ?_; clear H; (try clear w); intro _ w H) | (refine Ze H ?_; clear H; (try clear w); intro gv w H))
    exact ⟨_, resTT rfl, by rw [findTM, hc]; rfl, H.tail⟩
  · rw [show checkM t = false by simpa using hc] at hC
    (refine X.call (hC) ?_; (try clear H); rintro _ w ⟨rfl, H⟩; refine ⟨_, rfl, ?_⟩)
    clear hC
    repeat' (first | (refine X.lenL ?_) | (refine X.lv H ?_) | (refine X.lp H ?_) | (refine X.ldT H ?_) | (refine X.stT H ?_; clear H; (try clear w); intro w H) | (refine K.build [] _ build_tree0 rfl rfl rfl ?_) | (refine X.eqL ?_ ?_ <;> intro hc <;> first | (exfalso; first | exact absurd hc (by assumption) | exact absurd (by assumption) hc) | skip) | refine Z H ?_ | (refine Zc ?_ ?_ <;> intro hc <;> first | (exfalso; omega) | skip) | (refine Y ?_; try change C _ _ _ _ _ _) | (refine Zs H ?_; clear H; (try clear w); intro w H) | (refine Zn H ?_; clear H; (try clear w); intro _ w H) | (refine Ze H ?_; clear H; (try clear w); intro gv w H))
    exact ⟨_, resTT rfl, by rw [findTM, show checkM t = false by simpa using hc]; rfl, H.tail⟩
set_option maxRecDepth 100000 in
set_option maxHeartbeats 1000000 in
theorem Used_s (H : Holds s w R) (ht : t.Ok) : Calls Try.prog 15 #[.agg t.cells.toArray] w fun e w' => e = .returned (.int .i64 (usedM t : Int)) ∧ Holds s w' R := by
  refine enter Try.func15 rfl Try.ntmps15 rfl ?_
  repeat' (first | (refine X.lenL ?_) | (refine X.lv H ?_) | (refine X.lp H ?_) | (refine X.ldT H ?_) | (refine X.stT H ?_; clear H; (try clear w); intro w H) | (refine K.build [] _ build_tree0 rfl rfl rfl ?_) | (refine X.eqL ?_ ?_ <;> intro hc <;> first | (exfalso; first | exact absurd hc (by assumption) | exact absurd (by assumption) hc) | skip) | refine Z H ?_ | (refine Zc ?_ ?_ <;> intro hc <;> first | (exfalso; omega) | skip) | (refine Y ?_; try change C _ _ _ _ _ _) | (refine Zs H ?_; clear H; (try clear w); intro w H) | (refine Zn H ?_; clear H; (try clear w); intro _ w H) | (refine Ze H ?_; clear H; (try clear w); intro gv w H))
  have hC := Check_s H ht
  by_cases hc : checkM t = true
  · rw [hc] at hC
    (refine X.call (hC) ?_; (try clear H); rintro _ w ⟨rfl, H⟩; refine ⟨_, rfl, ?_⟩)
    clear hC
    repeat' (first | (refine X.lenL ?_) | (refine X.lv H ?_) | (refine X.lp H ?_) | (refine X.ldT H ?_) | (refine X.stT H ?_; clear H; (try clear w); intro w H) | (refine K.build [] _ build_tree0 rfl rfl rfl ?_) | (refine X.eqL ?_ ?_ <;> intro hc <;> first | (exfalso; first | exact absurd hc (by assumption) | exact absurd (by assumption) hc) | skip) | refine Z H ?_ | (refine Zc ?_ ?_ <;> intro hc <;> first | (exfalso; omega) | skip) | (refine Y ?_; try change C _ _ _ _ _ _) | (refine Zs H ?_; clear H; (try clear w); intro w H) | (refine Zn H ?_; clear H; (try clear w); intro _ w H) | (refine Ze H ?_; clear H; (try clear w); intro gv w H))
    (refine X.call (used_s H ht) ?_; (try clear H); rintro _ w ⟨rfl, H⟩; refine ⟨_, rfl, ?_⟩)
    repeat' (first | (refine X.lenL ?_) | (refine X.lv H ?_) | (refine X.lp H ?_) | (refine X.ldT H ?_) | (refine X.stT H ?_; clear H; (try clear w); intro w H) | (refine K.build [] _ build_tree0 rfl rfl rfl ?_) | (refine X.eqL ?_ ?_ <;> intro hc <;> first | (exfalso; first | exact absurd hc (by assumption) | exact absurd (by assumption) hc) | skip) | refine Z H ?_ | (refine Zc ?_ ?_ <;> intro hc <;> first | (exfalso; omega) | skip) | (refine Y ?_; try change C _ _ _ _ _ _) | (refine Zs H ?_; clear H; (try clear w); intro w H) | (refine Zn H ?_; clear H; (try clear w); intro _ w H) | (refine Ze H ?_; clear H; (try clear w); intro gv w H))
    exact ⟨_, resT rfl, by rw [usedM, hc]; rfl, H.tail⟩
  · rw [show checkM t = false by simpa using hc] at hC
    (refine X.call (hC) ?_; (try clear H); rintro _ w ⟨rfl, H⟩; refine ⟨_, rfl, ?_⟩)
    clear hC
    repeat' (first | (refine X.lenL ?_) | (refine X.lv H ?_) | (refine X.lp H ?_) | (refine X.ldT H ?_) | (refine X.stT H ?_; clear H; (try clear w); intro w H) | (refine K.build [] _ build_tree0 rfl rfl rfl ?_) | (refine X.eqL ?_ ?_ <;> intro hc <;> first | (exfalso; first | exact absurd hc (by assumption) | exact absurd (by assumption) hc) | skip) | refine Z H ?_ | (refine Zc ?_ ?_ <;> intro hc <;> first | (exfalso; omega) | skip) | (refine Y ?_; try change C _ _ _ _ _ _) | (refine Zs H ?_; clear H; (try clear w); intro w H) | (refine Zn H ?_; clear H; (try clear w); intro _ w H) | (refine Ze H ?_; clear H; (try clear w); intro gv w H))
    exact ⟨_, resT rfl, by rw [usedM, show checkM t = false by simpa using hc]; rfl, H.tail⟩
set_option maxRecDepth 100000 in
set_option maxHeartbeats 1000000 in
theorem Path_s {nd : Int} (H : Holds s w R) (ht : t.Ok) (hnm : ∀ i, i < 8 → (t.n i).name.length ≤ 1000000) : Calls Try.prog 24 #[.agg t.cells.toArray, .int .i64 nd] w fun e w' => e = .returned (.tuple #[.string ⟨(pathM t nd).1.toArray⟩, .int .i64 (pathM t nd).2]) ∧ Holds s w' R := by
  refine enter Try.func24 rfl Try.ntmps24 rfl ?_
  repeat' (first | (refine X.lenL ?_) | (refine X.lv H ?_) | (refine X.lp H ?_) | (refine X.ldT H ?_) | (refine X.stT H ?_; clear H; (try clear w); intro w H) | (refine K.build [] _ build_tree0 rfl rfl rfl ?_) | (refine X.eqL ?_ ?_ <;> intro hc <;> first | (exfalso; first | exact absurd hc (by assumption) | exact absurd (by assumption) hc) | skip) | refine Z H ?_ | (refine Zc ?_ ?_ <;> intro hc <;> first | (exfalso; omega) | skip) | (refine Y ?_; try change C _ _ _ _ _ _) | (refine Zs H ?_; clear H; (try clear w); intro w H) | (refine Zn H ?_; clear H; (try clear w); intro _ w H) | (refine Ze H ?_; clear H; (try clear w); intro gv w H))
  have hC := Check_s H ht
  by_cases hchk : checkM t = true
  rotate_left
  · rw [show checkM t = false by simpa using hchk] at hC
    (refine X.call (hC) ?_; (try clear H); rintro _ w ⟨rfl, H⟩; refine ⟨_, rfl, ?_⟩)
    clear hC
    repeat' (first | (refine X.lenL ?_) | (refine X.lv H ?_) | (refine X.lp H ?_) | (refine X.ldT H ?_) | (refine X.stT H ?_; clear H; (try clear w); intro w H) | (refine K.build [] _ build_tree0 rfl rfl rfl ?_) | (refine X.eqL ?_ ?_ <;> intro hc <;> first | (exfalso; first | exact absurd hc (by assumption) | exact absurd (by assumption) hc) | skip) | refine Z H ?_ | (refine Zc ?_ ?_ <;> intro hc <;> first | (exfalso; omega) | skip) | (refine Y ?_; try change C _ _ _ _ _ _) | (refine Zs H ?_; clear H; (try clear w); intro w H) | (refine Zn H ?_; clear H; (try clear w); intro _ w H) | (refine Ze H ?_; clear H; (try clear w); intro gv w H))
    exact ⟨_, resTT rfl, by rw [pathM, show checkM t = false by simpa using hchk]; rfl, H.tail⟩
  rw [hchk] at hC
  (refine X.call (hC) ?_; (try clear H); rintro _ w ⟨rfl, H⟩; refine ⟨_, rfl, ?_⟩)
  clear hC
  by_cases hr : nd < 0 ∨ 8 ≤ nd
  · repeat' (first | (refine X.lenL ?_) | (refine X.lv H ?_) | (refine X.lp H ?_) | (refine X.ldT H ?_) | (refine X.stT H ?_; clear H; (try clear w); intro w H) | (refine K.build [] _ build_tree0 rfl rfl rfl ?_) | (refine X.eqL ?_ ?_ <;> intro hc <;> first | (exfalso; first | exact absurd hc (by assumption) | exact absurd (by assumption) hc) | skip) | refine Z H ?_ | (refine Zc ?_ ?_ <;> intro hc <;> first | (exfalso; omega) | skip) | (refine Y ?_; try change C _ _ _ _ _ _) | (refine Zs H ?_; clear H; (try clear w); intro w H) | (refine Zn H ?_; clear H; (try clear w); intro _ w H) | (refine Ze H ?_; clear H; (try clear w); intro gv w H))
    all_goals exact ⟨_, resTT rfl, by rw [pathM, hchk, if_neg (by simp), if_pos hr]; rfl, H.tail⟩
  obtain ⟨i, hi⟩ : ∃ i : Nat, nd = i := ⟨nd.toNat, by omega⟩
  subst hi
  have hi8 : i < 8 := by omega
  have hkc := TR.cell0 ht hi8
  by_cases hk : (t.n i).kind = 0
  · repeat' (first | (refine K.iaA (i := i) rfl rfl rfl rfl rfl hi8 ?_) | (refine X.lenL ?_) | (refine X.lv H ?_) | (refine X.lp H ?_) | (refine X.ldT H ?_) | (refine X.stT H ?_; clear H; (try clear w); intro w H) | (refine K.build [] _ build_tree0 rfl rfl rfl ?_) | (refine X.eqL ?_ ?_ <;> intro hc <;> first | (exfalso; first | exact absurd hc (by assumption) | exact absurd (by assumption) hc) | skip) | refine Z H ?_ | (refine Zc ?_ ?_ <;> intro hc <;> first | (exfalso; omega) | skip) | (refine Y ?_; try change C _ _ _ _ _ _) | (refine Zs H ?_; clear H; (try clear w); intro w H) | (refine Zn H ?_; clear H; (try clear w); intro _ w H) | (refine Ze H ?_; clear H; (try clear w); intro gv w H))
    all_goals exact ⟨_, resTT rfl, by rw [pathM, hchk, if_neg (by simp), if_neg hr, Int.toNat_natCast, if_pos hk]; rfl, H.tail⟩
  by_cases h0 : i = 0
  · subst h0
    repeat' (first | (refine K.iaA (i := 0) rfl rfl rfl rfl rfl hi8 ?_) | (refine X.lenL ?_) | (refine X.lv H ?_) | (refine X.lp H ?_) | (refine X.ldT H ?_) | (refine X.stT H ?_; clear H; (try clear w); intro w H) | (refine K.build [] _ build_tree0 rfl rfl rfl ?_) | (refine X.eqL ?_ ?_ <;> intro hc <;> first | (exfalso; first | exact absurd hc (by assumption) | exact absurd (by assumption) hc) | skip) | refine Z H ?_ | (refine Zc ?_ ?_ <;> intro hc <;> first | (exfalso; omega) | skip) | (refine Y ?_; try change C _ _ _ _ _ _) | (refine Zs H ?_; clear H; (try clear w); intro w H) | (refine Zn H ?_; clear H; (try clear w); intro _ w H) | (refine Ze H ?_; clear H; (try clear w); intro gv w H))
    all_goals exact ⟨_, resTT rfl, by rw [pathM, hchk, if_neg (by simp), if_neg hr, Int.toNat_natCast, if_neg hk]; rfl, H.tail⟩
  have hpm : pathM t i = (pathFrom t 8 i [], 0) := by rw [pathM, hchk, if_neg (by simp), if_neg hr, Int.toNat_natCast, if_neg hk, if_neg (by omega)]
  rw [hpm]
  repeat' (first | (refine K.iaA (i := i) rfl rfl rfl rfl rfl hi8 ?_) | (refine X.lenL ?_) | (refine X.lv H ?_) | (refine X.lp H ?_) | (refine X.ldT H ?_) | (refine X.stT H ?_; clear H; (try clear w); intro w H) | (refine K.build [] _ build_tree0 rfl rfl rfl ?_) | (refine X.eqL ?_ ?_ <;> intro hc <;> first | (exfalso; first | exact absurd hc (by assumption) | exact absurd (by assumption) hc) | skip) | refine Z H ?_ | (refine Zc ?_ ?_ <;> intro hc <;> first | (exfalso; omega) | skip) | (refine Y ?_; try change C _ _ _ _ _ _) | (refine Zs H ?_; clear H; (try clear w); intro w H) | (refine Zn H ?_; clear H; (try clear w); intro _ w H) | (refine Ze H ?_; clear H; (try clear w); intro gv w H))
  have hrt := rooted_of hchk hi8 hk
  refine C.loopH H [1, 6, 26, 27, 28, 29, 30, 31, 32, 33, 34, 35, 36, 37, 38, 39, 40] [1, 6] rfl (fun k vs => ∃ (i' : Nat) (u : Str), i' < 8 ∧ vs = [.int .i64 (i' : Int), .string ⟨u.toArray⟩] ∧ rootedFrom t k i' = true ∧ u.length ≤ (8 - k) * 1000001 ∧ k ≤ 8 ∧ pathFrom t k i' u = pathFrom t 8 i []) 8 ⟨i, [], hi8, rfl, hrt, by simp, by omega, rfl⟩ ?_
  clear H hkc hk h0 hpm hr hrt
  rintro k vs hv w ⟨i', u, hi', rfl, hrk, hul, hk8, hpf⟩ H
  by_cases h0 : i' = 0
  · subst h0
    have hu : pathFrom t k (0 : Nat) u = u := by
      cases k with
      | zero => rfl
      | succ k => rw [pathFrom, if_pos (by simp)]
    rw [hu] at hpf
    repeat' (first | (refine X.lenL ?_) | (refine X.lv H ?_) | (refine X.lp H ?_) | (refine X.ldT H ?_) | (refine X.stT H ?_; clear H; (try clear w); intro w H) | (refine K.build [] _ build_tree0 rfl rfl rfl ?_) | (refine X.eqL ?_ ?_ <;> intro hc <;> first | (exfalso; first | exact absurd hc (by assumption) | exact absurd (by assumption) hc) | skip) | refine Z H ?_ | (refine Zc ?_ ?_ <;> intro hc <;> first | (exfalso; omega) | skip) | (refine Y ?_; try change C _ _ _ _ _ _) | (refine Zs H ?_; clear H; (try clear w); intro w H) | (refine Zn H ?_; clear H; (try clear w); intro _ w H) | (refine Ze H ?_; clear H; (try clear w); intro gv w H))
    exact ⟨_, resTT rfl, by rw [← hpf]; rfl, H.tail⟩
  cases k with
  | zero => exact absurd (rooted_zero hrk) h0
  | succ k =>
    obtain ⟨q, hq, hqp, hrq⟩ := rooted_step hrk h0
    rw [pathFrom, if_neg (by omega), Int.toNat_natCast, hqp] at hpf
    have c1 := TR.cell ht hi' 1 _ rfl
    have c2 := TR.cell ht hi' 2 _ rfl
    have hl := hnm i' hi'
    have hul2 : u.length ≤ 8000008 := by
      have : (8 - (k + 1)) * 1000001 ≤ 8 * 1000001 := Nat.mul_le_mul_right _ (by omega)
      omega
    repeat' (first | (refine K.iaA (i := i') rfl rfl rfl rfl rfl hi' ?_) | (refine X.catL (a := [47]) (b := (t.n i').name) ?_ rfl rfl rfl rfl (by simp; omega)) | (refine X.catL (a := [47] ++ (t.n i').name) (b := u) ?_ rfl rfl rfl rfl (by simp; omega)) | (refine X.lenL ?_) | (refine X.lv H ?_) | (refine X.lp H ?_) | (refine X.ldT H ?_) | (refine X.stT H ?_; clear H; (try clear w); intro w H) | (refine K.build [] _ build_tree0 rfl rfl rfl ?_) | (refine X.eqL ?_ ?_ <;> intro hc <;> first | (exfalso; first | exact absurd hc (by assumption) | exact absurd (by assumption) hc) | skip) | refine Z H ?_ | (refine Zc ?_ ?_ <;> intro hc <;> first | (exfalso; omega) | skip) | (refine Y ?_; try change C _ _ _ _ _ _) | (refine Zs H ?_; clear H; (try clear w); intro w H) | (refine Zn H ?_; clear H; (try clear w); intro _ w H) | (refine Ze H ?_; clear H; (try clear w); intro gv w H))
    refine ⟨by (repeat (first | exact Agr.refl | exact Agr.hav | refine Agr.upd rfl ?_ | refine Agr.in rfl ?_)), k, by omega, ⟨q, [47] ++ (t.n i').name ++ u, hq, ?_, hrq, ?_, by omega, ?_⟩, H⟩
    · show [Value.int .i64 (t.n i').parent, _] = _
      rw [hqp]
      rfl
    · have : (8 - k) * 1000001 = (8 - (k + 1)) * 1000001 + 1000001 := by
        rw [show 8 - k = (8 - (k + 1)) + 1 by omega, Nat.add_mul]
      simp only [List.length_append, List.length_cons, List.length_nil]
      omega
    · rw [← hpf]; rfl
end
end Go.Proofs.Ytlchnabnhimlcaa
set_option linter.unusedSimpArgs false
set_option linter.unusedVariables false
namespace Go.Proofs.Ytlchnabnhimlcaa
open Go Go.RowKit Go.Own
def clrs (t : TR) (n : Nd) : Nat → TR
  | 0 => t
  | j + 1 => clrM (clrs t n j) (n.blk j)
theorem ok_clr {t : TR} (h : t.Ok) {b : Int} : (clrM t b).Ok := by
  unfold clrM
  split
  · exact TR.ok_setB h _ (by simp)
  · exact h
theorem ok_clrs {t : TR} (h : t.Ok) {n : Nd} : ∀ j, (clrs t n j).Ok
  | 0 => h
  | j + 1 => ok_clr (ok_clrs h j)
theorem n_clr {t : TR} {b : Int} {i : Nat} : (clrM t b).n i = t.n i := by unfold clrM; split <;> rfl
theorem n_clrs {t : TR} {n : Nd} {i : Nat} : ∀ j, (clrs t n j).n i = t.n i
  | 0 => rfl
  | j + 1 => n_clr.trans (n_clrs j)
theorem ok_empty {t : TR} (h : t.Ok) {i : Nat} : (emptyM t i).Ok := TR.ok_set (ok_clr (ok_clr h)) _ _
abbrev Bks (n : Nd) : Prop := 0 ≤ n.b0 ∧ n.b0 ≤ 8 ∧ 0 ≤ n.b1 ∧ n.b1 ≤ 8
theorem bks_of {t : TR} (h : checkM t = true) {i : Nat} (hi : i < 8) : Bks (t.n i) := by
  by_cases h0 : i = 0
  · subst h0; rw [(check_iff.1 h).1]; decide
  · rcases (check_iff.1 h).2.1 i hi (by omega) with hz | hf
    · rw [hz]; decide
    · have := hf.1.2.2.2.2.2
      unfold Shaped at this
      unfold Bks
      omega
section
variable {n : Nat} {ops : Array Oper} {Q : Post} {rest : List Oper} {e : Env} {w : World} {s : Ro} {rs R : List Asn} {tt : Nat} {pp : String} {af : Array Edge} {g : Option (Nat × Bool)} {d : Nat}
/-- a block is written whole -/
theorem X.stB {ty : TypeId} {x y : Operand} [T : RowC Try.prog ty 40] {b off : Nat} {tp : TypeId} {t : TR} {f : List Value → List Asn} (k : Nat) (z : Str) (ht : t.Ok) (hk : k < 8) (hz : z.length = 40) (H : Holds s w rs) (h : ∀ w', Holds s w' (f (t.setB k z).cells) → L Try.prog n ops Q rest e w') (ho : off = 48 + k * 40 := by rfl) (hw : wg n ops g e = true := by rfl) (hx : ev e x = .pointer (some ⟨b, off, none⟩) := by rfl) (V : PutV rs b tp t.cells f := by infer_instance) (hy : ev e y = .agg (u8s z).toArray := by rfl) : L Try.prog n ops Q (⟨none, .store ty x y, tt, pp, af, g⟩ :: rest) e w := by
  subst ho
  refine X.stp (ys := u8s z) (t.setB k z).cells H h hw hx V hy ?_ (List.all_eq_true.2 (u8s_one z)) (by rw [u8s_len, hz]) (by rw [Nat.ble_eq, TR.cells_len ht]; omega)
  rw [← TR.put_block ht hk hz, putL, u8s_len, hz]
variable {p : Str} {b : Nat} {t : TR}
set_option maxRecDepth 100000 in
set_option maxHeartbeats 1000000 in
theorem empty_s {i : Nat} (H : Holds s w (var b 34 t.cells :: R)) (ht : t.Ok) (hi : i < 8) (hb : Bks (t.n i)) : Calls Try.prog 54 #[.pointer (some ⟨b, 0, none⟩), .int .i64 (i : Int)] w fun e w' => e = .returned (.tuple #[]) ∧ Holds s w' (var b 34 (emptyM t i).cells :: R) := by
  refine enter Try.func54 rfl Try.ntmps54 rfl ?_
  have hbk := TR.blks ht hi
  repeat' (first | (refine K.iaA (i := i) rfl rfl rfl rfl rfl hi ?_) | (refine X.lenL ?_) | (refine X.lv H ?_) | (refine X.lp H ?_) | (refine X.ldT H ?_) | (refine X.stT H ?_; clear H; (try clear w); intro w H) | (refine K.build [] _ build_tree0 rfl rfl rfl ?_) | (refine X.eqL ?_ ?_ <;> intro hc <;> first | (exfalso; first | exact absurd hc (by assumption) | exact absurd (by assumption) hc) | skip) | refine Z H ?_ | (refine Zc ?_ ?_ <;> intro hc <;> first | (exfalso; omega) | skip) | (refine Y ?_; try change C _ _ _ _ _ _) | (refine Zs H ?_; clear H; (try clear w); intro w H) | (refine Zn H ?_; clear H; (try clear w); intro _ w H) | (refine Ze H ?_; clear H; (try clear w); intro gv w H))
  refine C.loopR H [5, 13, 14, 15, 16, 17, 18, 19, 20, 21, 22, 23, 24, 25] [13] rfl (fun m vs A => ∃ j : Nat, m = 2 - j ∧ j ≤ 2 ∧ vs = [.int .i64 (j : Int)] ∧ A = var b 34 (clrs t (t.n i) j).cells) 2 ⟨0, rfl, by omega, rfl, rfl⟩ ?_
  clear H
  rintro m vs hv w A ⟨j, rfl, hj, rfl, rfl⟩ H
  have hk := ok_clrs ht (n := t.n i) j
  by_cases hj2 : j < 2
  · have hbb : 0 ≤ (t.n i).blk j ∧ (t.n i).blk j ≤ 8 := by unfold Nd.blk Bks at *; split <;> omega
    have hv0 : ([.int .i64 (t.n i).b0, .int .i64 (t.n i).b1] : List Value)[j]? = some (.int .i64 ((t.n i).blk j)) := by
      rcases (show j = 0 ∨ j = 1 by omega) with rfl | rfl <;> rfl
    by_cases hb0 : (t.n i).blk j = 0
    · repeat' (first | (refine X.ix1 (v := .int .i64 ((t.n i).blk j)) j ?_ hv0 hj2) | (refine X.lenL ?_) | (refine X.lv H ?_) | (refine X.lp H ?_) | (refine X.ldT H ?_) | (refine X.stT H ?_; clear H; (try clear w); intro w H) | (refine K.build [] _ build_tree0 rfl rfl rfl ?_) | (refine X.eqL ?_ ?_ <;> intro hc <;> first | (exfalso; first | exact absurd hc (by assumption) | exact absurd (by assumption) hc) | skip) | refine Z H ?_ | (refine Zc ?_ ?_ <;> intro hc <;> first | (exfalso; omega) | skip) | (refine Y ?_; try change C _ _ _ _ _ _) | (refine Zs H ?_; clear H; (try clear w); intro w H) | (refine Zn H ?_; clear H; (try clear w); intro _ w H) | (refine Ze H ?_; clear H; (try clear w); intro gv w H))
      exact ⟨by (repeat (first | exact Agr.refl | exact Agr.hav | refine Agr.upd rfl ?_ | refine Agr.in rfl ?_)), 2 - (j + 1), by omega, _, ⟨j + 1, rfl, by omega, rfl, rfl⟩, by rw [clrs, clrM, if_neg (by omega)]; exact H⟩
    · have hq : (t.n i).blk j - 1 = (((t.n i).blk j - 1).toNat : Int) := by omega
      repeat' (first | (refine X.ix1 (v := .int .i64 ((t.n i).blk j)) j ?_ hv0 hj2) | (refine K.iaA (i := ((t.n i).blk j - 1).toNat) rfl rfl rfl rfl hq (by omega) ?_) | (refine K.build [] _ build_block0 rfl rfl rfl ?_) | (refine X.stB ((t.n i).blk j - 1).toNat (List.replicate 40 0) hk (by omega) (by simp) H ?_; clear H; (try clear w); intro w H) | (refine X.lenL ?_) | (refine X.lv H ?_) | (refine X.lp H ?_) | (refine X.ldT H ?_) | (refine X.stT H ?_; clear H; (try clear w); intro w H) | (refine K.build [] _ build_tree0 rfl rfl rfl ?_) | (refine X.eqL ?_ ?_ <;> intro hc <;> first | (exfalso; first | exact absurd hc (by assumption) | exact absurd (by assumption) hc) | skip) | refine Z H ?_ | (refine Zc ?_ ?_ <;> intro hc <;> first | (exfalso; omega) | skip) | (refine Y ?_; try change C _ _ _ _ _ _) | (refine Zs H ?_; clear H; (try clear w); intro w H) | (refine Zn H ?_; clear H; (try clear w); intro _ w H) | (refine Ze H ?_; clear H; (try clear w); intro gv w H))
      exact ⟨by (repeat (first | exact Agr.refl | exact Agr.hav | refine Agr.upd rfl ?_ | refine Agr.in rfl ?_)), 2 - (j + 1), by omega, _, ⟨j + 1, rfl, by omega, rfl, rfl⟩, by rw [clrs, clrM, if_pos hb0]; exact H⟩
  obtain rfl : j = 2 := by omega
  have hk2 := TR.ok_set hk i { (clrs t (t.n i) 2).n i with size := 0 }
  repeat' (first | (refine K.iaA (i := i) rfl rfl rfl rfl rfl hi ?_) | (refine K.build [] _ build_blk0 rfl rfl rfl ?_) | (refine X.stN i 3 { (clrs t (t.n i) 2).n i with size := 0 } hk hi (by decide) rfl H ?_; clear H; (try clear w); intro w H) | (refine X.stM (ys := [.int .i64 0, .int .i64 0]) i 4 { t.n i with size := 0, b0 := 0, b1 := 0 } hk2 hi (by decide) (by rw [TR.n_set hk hi, if_pos rfl, n_clrs]; rfl) rfl rfl H ?_; clear H; (try clear w); intro w H) | (refine X.lenL ?_) | (refine X.lv H ?_) | (refine X.lp H ?_) | (refine X.ldT H ?_) | (refine X.stT H ?_; clear H; (try clear w); intro w H) | (refine K.build [] _ build_tree0 rfl rfl rfl ?_) | (refine X.eqL ?_ ?_ <;> intro hc <;> first | (exfalso; first | exact absurd hc (by assumption) | exact absurd (by assumption) hc) | skip) | refine Z H ?_ | (refine Zc ?_ ?_ <;> intro hc <;> first | (exfalso; omega) | skip) | (refine Y ?_; try change C _ _ _ _ _ _) | (refine Zs H ?_; clear H; (try clear w); intro w H) | (refine Zn H ?_; clear H; (try clear w); intro _ w H) | (refine Ze H ?_; clear H; (try clear w); intro gv w H))
  exact ⟨_, res0 rfl, rfl, by
    have e : (TR.set (TR.set (clrs t (t.n i) 2) i { (clrs t (t.n i) 2).n i with size := 0 }) i { t.n i with size := 0, b0 := 0, b1 := 0 }) = emptyM t i := by
      rw [TR.set, TR.set, List.set_set]; rfl
    rw [← e]; exact H⟩
set_option maxRecDepth 100000 in
set_option maxHeartbeats 1000000 in
theorem cut_t {q : Str} (H : Holds s w R) (ht : t.Ok) : Calls Try.prog 35 #[.agg t.cells.toArray, .string ⟨q.toArray⟩] w fun e w' => e = .returned (.tuple #[.agg (cutM t q).1.cells.toArray, .int .i64 (cutM t q).2]) ∧ Holds s w' R := by
  have hz := TR.ok_zero
  refine enter Try.func35 rfl Try.ntmps35 rfl ?_
  repeat' (first | (refine X.lenL ?_) | (refine X.lv H ?_) | (refine X.lp H ?_) | (refine X.ldT H ?_) | (refine X.stT H ?_; clear H; (try clear w); intro w H) | (refine K.build [] _ build_tree0 rfl rfl rfl ?_) | (refine X.eqL ?_ ?_ <;> intro hc <;> first | (exfalso; first | exact absurd hc (by assumption) | exact absurd (by assumption) hc) | skip) | refine Z H ?_ | (refine Zc ?_ ?_ <;> intro hc <;> first | (exfalso; omega) | skip) | (refine Y ?_; try change C _ _ _ _ _ _) | (refine Zs H ?_; clear H; (try clear w); intro w H) | (refine Zn H ?_; clear H; (try clear w); (first | ((fail_if_success (have := bl1)); intro bl1 w H) | intro _ w H)) | (refine Ze H ?_; clear H; (try clear w); intro gv w H))
  have hC := Check_s H ht
  by_cases hchk : checkM t = true
  rotate_left
  · rw [show checkM t = false by simpa using hchk] at hC
    (refine X.call (hC) ?_; (try clear H); rintro _ w ⟨rfl, H⟩; refine ⟨_, rfl, ?_⟩)
    clear hC
    repeat' (first | (refine X.lenL ?_) | (refine X.lv H ?_) | (refine X.lp H ?_) | (refine X.ldT H ?_) | (refine X.stT H ?_; clear H; (try clear w); intro w H) | (refine K.build [] _ build_tree0 rfl rfl rfl ?_) | (refine X.eqL ?_ ?_ <;> intro hc <;> first | (exfalso; first | exact absurd hc (by assumption) | exact absurd (by assumption) hc) | skip) | refine Z H ?_ | (refine Zc ?_ ?_ <;> intro hc <;> first | (exfalso; omega) | skip) | (refine Y ?_; try change C _ _ _ _ _ _) | (refine Zs H ?_; clear H; (try clear w); intro w H) | (refine Zn H ?_; clear H; (try clear w); (first | ((fail_if_success (have := bl1)); intro bl1 w H) | intro _ w H)) | (refine Ze H ?_; clear H; (try clear w); intro gv w H))
    exact ⟨_, resVT (cs := TR.zero.cells) H rfl rfl inferInstance (TR.cells_len hz), by rw [cutM, if_pos (by simpa using hchk)]; rfl, H.tail.tail⟩
  rw [hchk] at hC
  (refine X.call (hC) ?_; (try clear H); rintro _ w ⟨rfl, H⟩; refine ⟨_, rfl, ?_⟩)
  clear hC
  repeat' (first | (refine X.lenL ?_) | (refine X.lv H ?_) | (refine X.lp H ?_) | (refine X.ldT H ?_) | (refine X.stT H ?_; clear H; (try clear w); intro w H) | (refine K.build [] _ build_tree0 rfl rfl rfl ?_) | (refine X.eqL ?_ ?_ <;> intro hc <;> first | (exfalso; first | exact absurd hc (by assumption) | exact absurd (by assumption) hc) | skip) | refine Z H ?_ | (refine Zc ?_ ?_ <;> intro hc <;> first | (exfalso; omega) | skip) | (refine Y ?_; try change C _ _ _ _ _ _) | (refine Zs H ?_; clear H; (try clear w); intro w H) | (refine Zn H ?_; clear H; (try clear w); (first | ((fail_if_success (have := bl1)); intro bl1 w H) | intro _ w H)) | (refine Ze H ?_; clear H; (try clear w); intro gv w H))
  first | (have hT : Holds _ _ (var bl1 34 _ :: _) := H; clear hT) | (replace H := H.up 1 rfl; (try simp only [List.set_cons_zero, List.set_cons_succ, List.eraseIdx_cons_zero, List.eraseIdx_cons_succ] at H); have hT : Holds _ _ (var bl1 34 _ :: _) := H; clear hT) | (replace H := H.up 2 rfl; (try simp only [List.set_cons_zero, List.set_cons_succ, List.eraseIdx_cons_zero, List.eraseIdx_cons_succ] at H); have hT : Holds _ _ (var bl1 34 _ :: _) := H; clear hT) | (replace H := H.up 3 rfl; (try simp only [List.set_cons_zero, List.set_cons_succ, List.eraseIdx_cons_zero, List.eraseIdx_cons_succ] at H); have hT : Holds _ _ (var bl1 34 _ :: _) := H; clear hT) | (replace H := H.up 4 rfl; (try simp only [List.set_cons_zero, List.set_cons_succ, List.eraseIdx_cons_zero, List.eraseIdx_cons_succ] at H); have hT : Holds _ _ (var bl1 34 _ :: _) := H; clear hT) | (replace H := H.up 5 rfl; (try simp only [List.set_cons_zero, List.set_cons_succ, List.eraseIdx_cons_zero, List.eraseIdx_cons_succ] at H); have hT : Holds _ _ (var bl1 34 _ :: _) := H; clear hT) | (replace H := H.up 6 rfl; (try simp only [List.set_cons_zero, List.set_cons_succ, List.eraseIdx_cons_zero, List.eraseIdx_cons_succ] at H); have hT : Holds _ _ (var bl1 34 _ :: _) := H; clear hT)
  (refine X.call (kindOf_s (p := q) H ht) ?_; (try clear H); rintro _ w ⟨rfl, H⟩; refine ⟨_, rfl, ?_⟩)
  by_cases hk : (kindOfM t q 2).2 = 0
  rotate_left
  · repeat' (first | (refine X.lenL ?_) | (refine X.lv H ?_) | (refine X.lp H ?_) | (refine X.ldT H ?_) | (refine X.stT H ?_; clear H; (try clear w); intro w H) | (refine K.build [] _ build_tree0 rfl rfl rfl ?_) | (refine X.eqL ?_ ?_ <;> intro hc <;> first | (exfalso; first | exact absurd hc (by assumption) | exact absurd (by assumption) hc) | skip) | refine Z H ?_ | (refine Zc ?_ ?_ <;> intro hc <;> first | (exfalso; omega) | skip) | (refine Y ?_; try change C _ _ _ _ _ _) | (refine Zs H ?_; clear H; (try clear w); intro w H) | (refine Zn H ?_; clear H; (try clear w); (first | ((fail_if_success (have := bl1)); intro bl1 w H) | intro _ w H)) | (refine Ze H ?_; clear H; (try clear w); intro gv w H))
    exact ⟨_, resVT (cs := TR.zero.cells) H rfl rfl inferInstance (TR.cells_len hz), by rw [cutM, if_neg (by simp [hchk]), if_pos hk]; rfl, H.tail.tail⟩
  obtain ⟨f, hf, hkf, hkd, hfd⟩ := kindOfM_range hk
  have hbk := bks_of hchk hf
  have ec : cutM t q = (emptyM t f, 0) := by rw [cutM, if_neg (by simp [hchk]), if_neg (by simp [hk]), hkf]; rfl
  rw [hkf] at *
  have hek := ok_empty ht (i := f)
  repeat' (first | (refine X.lenL ?_) | (refine X.lv H ?_) | (refine X.lp H ?_) | (refine X.ldT H ?_) | (refine X.stT H ?_; clear H; (try clear w); intro w H) | (refine K.build [] _ build_tree0 rfl rfl rfl ?_) | (refine X.eqL ?_ ?_ <;> intro hc <;> first | (exfalso; first | exact absurd hc (by assumption) | exact absurd (by assumption) hc) | skip) | refine Z H ?_ | (refine Zc ?_ ?_ <;> intro hc <;> first | (exfalso; omega) | skip) | (refine Y ?_; try change C _ _ _ _ _ _) | (refine Zs H ?_; clear H; (try clear w); intro w H) | (refine Zn H ?_; clear H; (try clear w); (first | ((fail_if_success (have := bl1)); intro bl1 w H) | intro _ w H)) | (refine Ze H ?_; clear H; (try clear w); intro gv w H))
  first | (have hT : Holds _ _ (var bl1 34 _ :: _) := H; clear hT) | (replace H := H.up 1 rfl; (try simp only [List.set_cons_zero, List.set_cons_succ, List.eraseIdx_cons_zero, List.eraseIdx_cons_succ] at H); have hT : Holds _ _ (var bl1 34 _ :: _) := H; clear hT) | (replace H := H.up 2 rfl; (try simp only [List.set_cons_zero, List.set_cons_succ, List.eraseIdx_cons_zero, List.eraseIdx_cons_succ] at H); have hT : Holds _ _ (var bl1 34 _ :: _) := H; clear hT) | (replace H := H.up 3 rfl; (try simp only [List.set_cons_zero, List.set_cons_succ, List.eraseIdx_cons_zero, List.eraseIdx_cons_succ] at H); have hT : Holds _ _ (var bl1 34 _ :: _) := H; clear hT) | (replace H := H.up 4 rfl; (try simp only [List.set_cons_zero, List.set_cons_succ, List.eraseIdx_cons_zero, List.eraseIdx_cons_succ] at H); have hT : Holds _ _ (var bl1 34 _ :: _) := H; clear hT) | (replace H := H.up 5 rfl; (try simp only [List.set_cons_zero, List.set_cons_succ, List.eraseIdx_cons_zero, List.eraseIdx_cons_succ] at H); have hT : Holds _ _ (var bl1 34 _ :: _) := H; clear hT) | (replace H := H.up 6 rfl; (try simp only [List.set_cons_zero, List.set_cons_succ, List.eraseIdx_cons_zero, List.eraseIdx_cons_succ] at H); have hT : Holds _ _ (var bl1 34 _ :: _) := H; clear hT)
  (refine X.call (empty_s H ht hf hbk) ?_; (try clear H); rintro _ w ⟨rfl, H⟩; refine ⟨_, rfl, ?_⟩)
  repeat' (first | (refine X.lenL ?_) | (refine X.lv H ?_) | (refine X.lp H ?_) | (refine X.ldT H ?_) | (refine X.stT H ?_; clear H; (try clear w); intro w H) | (refine K.build [] _ build_tree0 rfl rfl rfl ?_) | (refine X.eqL ?_ ?_ <;> intro hc <;> first | (exfalso; first | exact absurd hc (by assumption) | exact absurd (by assumption) hc) | skip) | refine Z H ?_ | (refine Zc ?_ ?_ <;> intro hc <;> first | (exfalso; omega) | skip) | (refine Y ?_; try change C _ _ _ _ _ _) | (refine Zs H ?_; clear H; (try clear w); intro w H) | (refine Zn H ?_; clear H; (try clear w); (first | ((fail_if_success (have := bl1)); intro bl1 w H) | intro _ w H)) | (refine Ze H ?_; clear H; (try clear w); intro gv w H))
  exact ⟨_, resVT (cs := (emptyM t f).cells) H rfl rfl inferInstance (TR.cells_len hek), by rw [ec]; rfl, H.tail.tail⟩
end
end Go.Proofs.Ytlchnabnhimlcaa

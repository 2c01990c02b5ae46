/- package tree, walked: a file grows, Write. package tree, walked: Write, Read. Trees, plain: every operation keeps the shape. -/
import Derived.Test.YtlchnabnhimlcaaTlTx2
set_option linter.unusedSimpArgs false
set_option linter.unusedVariables false
namespace Go.Proofs.Ytlchnabnhimlcaa
open Go Go.RowKit Go.Own
def growTo (t : TR) (f : Nat) (size quota : Int) : Nat → Option TR
  | 0 => some t
  | j + 1 => (growTo t f size quota j).bind fun u => growJ u f size quota j
theorem growM_eq {t : TR} {f : Nat} {size quota : Int} : growM t f size quota = (growTo t f size quota 2).map fun u => u.set f { u.n f with size := size } := by
  unfold growM growTo growTo growTo
  cases h : growJ t f size quota 0 with
  | none => simp [h]
  | some u => simp [h]
theorem growTo_none {t : TR} {f : Nat} {size quota : Int} {j : Nat} (hj : j < 2) (h : growTo t f size quota (j + 1) = none) : growM t f size quota = none := by
  rw [growM_eq]
  rcases (show j = 0 ∨ j = 1 by omega) with rfl | rfl
  · rw [growTo, h]; rfl
  · rw [h]; rfl
theorem unusedFrom_range {t : TR} : ∀ (f b : Nat), unusedFrom t f b = 0 ∨ (b ≤ unusedFrom t f b ∧ unusedFrom t f b < b + f)
  | 0, b => .inl rfl
  | f + 1, b => by
    rw [unusedFrom]
    split
    · rcases unusedFrom_range (t := t) f (b + 1) with h | h
      · exact .inl h
      · exact .inr (by omega)
    · exact .inr (by omega)
theorem unusedM_le {t : TR} : unusedM t ≤ 8 := by
  unfold unusedM
  rcases unusedFrom_range (t := t) 8 1 with h | h <;> omega
theorem blk_set {n : Nd} {j k : Nat} {v : Int} (hj : j < 2) (hk : k < 2) : (n.setBlk j v).blk k = if k = j then v else n.blk k := by
  rcases (show j = 0 ∨ j = 1 by omega) with rfl | rfl <;> rcases (show k = 0 ∨ k = 1 by omega) with rfl | rfl <;> rfl
theorem setBlk_cells {n : Nd} {j : Nat} {v : Int} (hj : j < 2) : (n.setBlk j v).cells = n.cells.set (4 + j) (.int .i64 v) := by
  rcases (show j = 0 ∨ j = 1 by omega) with rfl | rfl <;> rfl
theorem blk_cell {t : TR} (ht : t.Ok) {f j : Nat} (hf : f < 8) (hj : j < 2) : t.cells[0 + f * 6 + 4 + j * 1]? = some (.int .i64 ((t.n f).blk j)) := by
  have := TR.cell ht hf (4 + j) (.int .i64 ((t.n f).blk j)) (by rcases (show j = 0 ∨ j = 1 by omega) with rfl | rfl <;> rfl)
  rw [show 0 + f * 6 + 4 + j * 1 = 0 + f * 6 + (4 + j) by omega]
  exact this
abbrev BksJ (n : Nd) : Prop := ∀ k : Nat, k < 2 → 0 ≤ n.blk k ∧ n.blk k ≤ 8
theorem bksJ_iff {n : Nd} : BksJ n ↔ Bks n := by
  constructor
  · intro h
    have h0 := h 0 (by omega)
    have h1 := h 1 (by omega)
    exact ⟨h0.1, h0.2, h1.1, h1.2⟩
  · intro h k hk
    rcases (show k = 0 ∨ k = 1 by omega) with rfl | rfl
    · exact ⟨h.1, h.2.1⟩
    · exact ⟨h.2.2.1, h.2.2.2⟩
theorem growJ_facts {u v : TR} {f : Nat} {size quota : Int} {j : Nat} (hu : u.Ok) (hf : f < 8) (hj : j < 2) (hb : BksJ (u.n f)) (h : growJ u f size quota j = some v) : v.Ok ∧ BksJ (v.n f) ∧ (∀ k, k < j → (v.n f).blk k = (u.n f).blk k) ∧ ((j : Int) * 40 < size → (v.n f).blk j ≠ 0) := by
  unfold growJ at h
  split at h
  · rename_i hc
    cases h
    refine ⟨hu, hb, fun _ _ => rfl, fun hs => ?_⟩
    rcases hc with hc | hc
    · omega
    · exact hc
  · rename_i hc
    split at h
    · cases h
    · rename_i hc2
      cases h
      refine ⟨TR.ok_set hu _ _, ?_, ?_, ?_⟩
      · intro k hk
        rw [TR.n_set hu hf, if_pos rfl, blk_set hj hk]
        have := unusedM_le (t := u)
        have := hb k hk
        split <;> omega
      · intro k hk
        rw [TR.n_set hu hf, if_pos rfl, blk_set hj (by omega), if_neg (by omega)]
      · intro _
        rw [TR.n_set hu hf, if_pos rfl, blk_set hj hj, if_pos rfl]
        omega
theorem growM_facts {t u : TR} {f : Nat} {size quota : Int} (ht : t.Ok) (hf : f < 8) (hb : BksJ (t.n f)) (h : growM t f size quota = some u) : u.Ok ∧ BksJ (u.n f) ∧ (u.n f).size = size ∧ ∀ j : Nat, j < 2 → (j : Int) * 40 < size → (u.n f).blk j ≠ 0 := by
  rw [growM_eq] at h
  unfold growTo growTo growTo at h
  simp only [Option.bind_some] at h
  cases h0 : growJ t f size quota 0 with
  | none => rw [h0] at h; cases h
  | some a =>
    rw [h0, Option.bind_some] at h
    cases h1 : growJ a f size quota 1 with
    | none => rw [h1] at h; cases h
    | some b =>
      rw [h1, Option.map_some] at h
      cases h
      obtain ⟨a1, a2, a3, a4⟩ := growJ_facts ht hf (by omega) hb h0
      obtain ⟨b1, b2, b3, b4⟩ := growJ_facts a1 hf (by omega) a2 h1
      refine ⟨TR.ok_set b1 _ _, ?_, ?_, ?_⟩
      · rw [TR.n_set b1 hf, if_pos rfl]; exact b2
      · rw [TR.n_set b1 hf, if_pos rfl]
      · intro j hj hs
        rw [TR.n_set b1 hf, if_pos rfl]
        rcases (show j = 0 ∨ j = 1 by omega) with rfl | rfl
        · have := b3 0 (by omega)
          intro h'
          exact a4 hs (this.symm.trans h')
        · exact b4 hs
theorem pokes_snoc {f : Nat} : ∀ {l : Str} {t : TR} {p : Nat} {c : UInt8}, pokesM t f p (l ++ [c]) = pokeM (pokesM t f p l) f (p + l.length) c
  | [], t, p, c => rfl
  | x :: l, t, p, c => by
    rw [List.cons_append, pokesM, pokesM, pokes_snoc, List.length_cons, show p + 1 + l.length = p + (l.length + 1) by omega]
theorem pokes_n {f : Nat} : ∀ {l : Str} {t : TR} {p i : Nat}, (pokesM t f p l).n i = t.n i
  | [], t, p, i => rfl
  | x :: l, t, p, i => by rw [pokesM, pokes_n]; rfl
section
variable {n : Nat} {ops : Array Oper} {Q : Post} {rest : List Oper} {e : Env} {w : World} {s : Ro} {rs R : List Asn} {tt : Nat} {pp : String} {af : Array Edge} {g : Option (Nat × Bool)} {d : Nat}
/-- signed division, of what isn't below nought -/
theorem X.quoI {x y : Operand} {t u : TypeId} {xx : Int} (a b : Nat) (hxx : xx = (a : Int)) (hb : 0 < b) (ha : a < 9223372036854775808) (h : L Try.prog n ops Q rest (upd e d (.int .i64 ((a / b : Nat) : Int))) w) (hw : wg n ops g e = true := by rfl) (hd : Nat.blt d n = true := by rfl) (hx : ev e x = .int .i64 xx := by rfl) (hy : ev e y = .int .i64 (b : Int) := by rfl) : L Try.prog n ops Q (⟨some d, .binOp .quo t x y u, tt, pp, af, g⟩ :: rest) e w :=
  L.val (o := ⟨some d, .binOp .quo t x y u, tt, pp, af, g⟩) _ w hw hd (by
    subst hxx
    have h1 : (b : Int) ≠ 0 := by omega
    have hlt : a / b ≤ a := Nat.div_le_self _ _
    have h2 : IntKind.i64.wrap ((a : Int).tdiv (b : Int)) = ((a / b : Nat) : Int) := by
      rw [← Int.ofNat_tdiv]
      generalize a / b = q at hlt ⊢
      exact IntWalk.i64_in _ (by omega)
    unfold execOp
    simp only [hx, hy, eqGuard, binOp, Op.intDiv, if_neg h1, h2]
    simp) h
theorem X.remI {x y : Operand} {t u : TypeId} {xx : Int} (a b r : Nat) (hxx : xx = (a : Int)) (hb : 0 < b) (hr : a % b = r) (h : L Try.prog n ops Q rest (upd e d (.int .i64 (r : Int))) w) (hw : wg n ops g e = true := by rfl) (hd : Nat.blt d n = true := by rfl) (hx : ev e x = .int .i64 xx := by rfl) (hy : ev e y = .int .i64 (b : Int) := by rfl) : L Try.prog n ops Q (⟨some d, .binOp .rem t x y u, tt, pp, af, g⟩ :: rest) e w :=
  K.rem hw hd hx hy (by omega) (by rw [hxx, ← Int.ofNat_tmod, hr]; exact h)
theorem X.mulI {x y : Operand} {t u : TypeId} {a b : Int} (r : Int) (hr : IntKind.i64.wrap (a * b) = r) (h : L Try.prog n ops Q rest (upd e d (.int .i64 r)) w) (hw : wg n ops g e = true := by rfl) (hd : Nat.blt d n = true := by rfl) (hx : ev e x = .int .i64 a := by rfl) (hy : ev e y = .int .i64 b := by rfl) : L Try.prog n ops Q (⟨some d, .binOp .mul t x y u, tt, pp, af, g⟩ :: rest) e w :=
  K.arith _ hw hd hx hy (by
    show some (IntKind.i64.wrap (a * b)) = some r
    rw [hr]) h
/-- a byte of a block is written -/
theorem X.stY {ty : TypeId} {x y : Operand} [T : OneC Try.prog ty] {b off : Nat} {tp : TypeId} {t : TR} {f : List Value → List Asn} (k q : Nat) (c : UInt8) (ht : t.Ok) (hk : k < 8) (hq : q < 40) (H : Holds s w rs) (h : ∀ w', Holds s w' (f (t.setB k ((t.b k).set q c)).cells) → L Try.prog n ops Q rest e w') (ho : off = 48 + k * 40 + q * 1 := by rfl) (hw : wg n ops g e = true := by rfl) (hx : ev e x = .pointer (some ⟨b, off, none⟩) := by rfl) (V : PutV rs b tp t.cells f := by infer_instance) (hy : ev e y = u8 c := by rfl) : L Try.prog n ops Q (⟨none, .store ty x y, tt, pp, af, g⟩ :: rest) e w := by
  obtain ⟨j, hj, hf⟩ := V.ix
  subst ho
  exact K.store j H hw hx hj hy rfl (by rw [Nat.blt_eq, TR.cells_len ht]; omega) (fun w' H' => h w' (by rw [hf, TR.put_byte ht hk hq c] at H'; exact H'))
variable {p q : Str} {b : Nat} {t : TR}
set_option maxRecDepth 100000 in
set_option maxHeartbeats 1000000 in
theorem grow_s {f : Nat} {size quota : Int} (H : Holds s w (var b 34 t.cells :: R)) (ht : t.Ok) (hf : f < 8) : Calls Try.prog 39 #[.pointer (some ⟨b, 0, none⟩), .int .i64 (f : Int), .int .i64 size, .int .i64 quota] w fun e w' => match growM t f size quota with
    | none => e = .returned (.bool false) ∧ ∃ u : TR, Holds s w' (var b 34 u.cells :: R)
    | some u => e = .returned (.bool true) ∧ Holds s w' (var b 34 u.cells :: R) := by
  refine enter Try.func39 rfl Try.ntmps39 rfl ?_
  repeat' (first | (refine X.lenL ?_) | (refine X.lv H ?_) | (refine X.lp H ?_) | (refine X.ldT H ?_) | (refine X.stT H ?_; clear H; (try clear w); intro w H) | (refine K.build [] _ build_tree0 rfl rfl rfl ?_) | (refine X.eqL ?_ ?_ <;> intro hc <;> first | (exfalso; first | exact absurd hc (by assumption) | exact absurd (by assumption) hc) | skip) | refine Z H ?_ | (refine Zc ?_ ?_ <;> intro hc <;> first | (exfalso; omega) | skip) | (refine Y ?_; try change C _ _ _ _ _ _) | (refine Zs H ?_; clear H; (try clear w); intro w H) | (refine Zn H ?_; clear H; (try clear w); intro _ w H) | (refine Ze H ?_; clear H; (try clear w); intro gv w H))
  refine C.loopR H [8, 9, 10, 11, 12, 13, 14, 15, 16, 17, 18, 19, 20, 21, 22, 23, 24, 25, 26, 27, 28, 29, 30, 31, 32, 33, 34, 35, 36, 37, 38, 39, 40, 41, 42, 43, 44, 45, 46, 47, 48, 49] [11] rfl (fun m vs A => ∃ (j : Nat) (u : TR), m = 2 - j ∧ j ≤ 2 ∧ vs = [.int .i64 (j : Int)] ∧ A = var b 34 u.cells ∧ u.Ok ∧ growTo t f size quota j = some u) 2 ⟨0, t, rfl, by omega, rfl, rfl, ht, rfl⟩ ?_
  clear H
  rintro m vs hv w A ⟨j, u, rfl, hj, rfl, rfl, hu, hg⟩ H
  by_cases hj2 : j < 2
  rotate_left
  · obtain rfl : j = 2 := by omega
    have hm : growM t f size quota = some (u.set f { u.n f with size := size }) := by rw [growM_eq, hg]; rfl
    repeat' (first | (refine K.iaA (i := f) rfl rfl rfl rfl rfl hf ?_) | (refine X.stN f 3 { u.n f with size := size } hu hf (by decide) rfl H ?_; clear H; (try clear w); intro w H) | (refine X.lenL ?_) | (refine X.lv H ?_) | (refine X.lp H ?_) | (refine X.ldT H ?_) | (refine X.stT H ?_; clear H; (try clear w); intro w H) | (refine K.build [] _ build_tree0 rfl rfl rfl ?_) | (refine X.eqL ?_ ?_ <;> intro hc <;> first | (exfalso; first | exact absurd hc (by assumption) | exact absurd (by assumption) hc) | skip) | refine Z H ?_ | (refine Zc ?_ ?_ <;> intro hc <;> first | (exfalso; omega) | skip) | (refine Y ?_; try change C _ _ _ _ _ _) | (refine Zs H ?_; clear H; (try clear w); intro w H) | (refine Zn H ?_; clear H; (try clear w); intro _ w H) | (refine Ze H ?_; clear H; (try clear w); intro gv w H))
    exact ⟨_, resT rfl, by rw [hm]; exact ⟨rfl, H⟩⟩
  have hbc := blk_cell hu hf hj2
  have hml : IntKind.i64.wrap ((j : Int) * 40) = (j : Int) * 40 := IntWalk.i64_in _ (by omega)
  have hg1 : growTo t f size quota (j + 1) = growJ u f size quota j := by rw [growTo, hg]; rfl
  by_cases hs : size ≤ (j : Int) * 40
  · rw [growJ, if_pos (.inl hs)] at hg1
    repeat' (first | (refine X.mulI _ hml ?_) | (refine X.lenL ?_) | (refine X.lv H ?_) | (refine X.lp H ?_) | (refine X.ldT H ?_) | (refine X.stT H ?_; clear H; (try clear w); intro w H) | (refine K.build [] _ build_tree0 rfl rfl rfl ?_) | (refine X.eqL ?_ ?_ <;> intro hc <;> first | (exfalso; first | exact absurd hc (by assumption) | exact absurd (by assumption) hc) | skip) | refine Z H ?_ | (refine Zc ?_ ?_ <;> intro hc <;> first | (exfalso; omega) | skip) | (refine Y ?_; try change C _ _ _ _ _ _) | (refine Zs H ?_; clear H; (try clear w); intro w H) | (refine Zn H ?_; clear H; (try clear w); intro _ w H) | (refine Ze H ?_; clear H; (try clear w); intro gv w H))
    exact ⟨by (repeat (first | exact Agr.refl | exact Agr.hav | refine Agr.upd rfl ?_ | refine Agr.in rfl ?_)), 2 - (j + 1), by omega, _, ⟨j + 1, u, rfl, by omega, rfl, rfl, hu, hg1⟩, H⟩
  by_cases hb0 : (u.n f).blk j ≠ 0
  · rw [growJ, if_pos (.inr hb0)] at hg1
    repeat' (first | (refine X.mulI _ hml ?_) | (refine K.iaA (i := f) rfl rfl rfl rfl rfl hf ?_) | (refine K.iaA (i := j) rfl rfl rfl rfl rfl hj2 ?_) | (refine X.lenL ?_) | (refine X.lv H ?_) | (refine X.lp H ?_) | (refine X.ldT H ?_) | (refine X.stT H ?_; clear H; (try clear w); intro w H) | (refine K.build [] _ build_tree0 rfl rfl rfl ?_) | (refine X.eqL ?_ ?_ <;> intro hc <;> first | (exfalso; first | exact absurd hc (by assumption) | exact absurd (by assumption) hc) | skip) | refine Z H ?_ | (refine Zc ?_ ?_ <;> intro hc <;> first | (exfalso; omega) | skip) | (refine Y ?_; try change C _ _ _ _ _ _) | (refine Zs H ?_; clear H; (try clear w); intro w H) | (refine Zn H ?_; clear H; (try clear w); intro _ w H) | (refine Ze H ?_; clear H; (try clear w); intro gv w H))
    exact ⟨by (repeat (first | exact Agr.refl | exact Agr.hav | refine Agr.upd rfl ?_ | refine Agr.in rfl ?_)), 2 - (j + 1), by omega, _, ⟨j + 1, u, rfl, by omega, rfl, rfl, hu, hg1⟩, H⟩
  rw [growJ, if_neg (by intro h; exact h.elim hs hb0)] at hg1
  have hb0' : (u.n f).blk j = 0 := by omega
  repeat' (first | (refine X.mulI _ hml ?_) | (refine K.iaA (i := f) rfl rfl rfl rfl rfl hf ?_) | (refine K.iaA (i := j) rfl rfl rfl rfl rfl hj2 ?_) | (refine X.lenL ?_) | (refine X.lv H ?_) | (refine X.lp H ?_) | (refine X.ldT H ?_) | (refine X.stT H ?_; clear H; (try clear w); intro w H) | (refine K.build [] _ build_tree0 rfl rfl rfl ?_) | (refine X.eqL ?_ ?_ <;> intro hc <;> first | (exfalso; first | exact absurd hc (by assumption) | exact absurd (by assumption) hc) | skip) | refine Z H ?_ | (refine Zc ?_ ?_ <;> intro hc <;> first | (exfalso; omega) | skip) | (refine Y ?_; try change C _ _ _ _ _ _) | (refine Zs H ?_; clear H; (try clear w); intro w H) | (refine Zn H ?_; clear H; (try clear w); intro _ w H) | (refine Ze H ?_; clear H; (try clear w); intro gv w H))
  (refine X.call (unused_s H hu) ?_; (try clear H); rintro _ w ⟨rfl, H⟩; refine ⟨_, rfl, ?_⟩)
  by_cases hun : unusedM u = 0
  · rw [if_pos (.inl hun)] at hg1
    repeat' (first | (refine X.lenL ?_) | (refine X.lv H ?_) | (refine X.lp H ?_) | (refine X.ldT H ?_) | (refine X.stT H ?_; clear H; (try clear w); intro w H) | (refine K.build [] _ build_tree0 rfl rfl rfl ?_) | (refine X.eqL ?_ ?_ <;> intro hc <;> first | (exfalso; first | exact absurd hc (by assumption) | exact absurd (by assumption) hc) | skip) | refine Z H ?_ | (refine Zc ?_ ?_ <;> intro hc <;> first | (exfalso; omega) | skip) | (refine Y ?_; try change C _ _ _ _ _ _) | (refine Zs H ?_; clear H; (try clear w); intro w H) | (refine Zn H ?_; clear H; (try clear w); intro _ w H) | (refine Ze H ?_; clear H; (try clear w); intro gv w H))
    exact ⟨_, resT rfl, by rw [growTo_none hj2 hg1]; exact ⟨rfl, u, H⟩⟩
  repeat' (first | (refine X.lenL ?_) | (refine X.lv H ?_) | (refine X.lp H ?_) | (refine X.ldT H ?_) | (refine X.stT H ?_; clear H; (try clear w); intro w H) | (refine K.build [] _ build_tree0 rfl rfl rfl ?_) | (refine X.eqL ?_ ?_ <;> intro hc <;> first | (exfalso; first | exact absurd hc (by assumption) | exact absurd (by assumption) hc) | skip) | refine Z H ?_ | (refine Zc ?_ ?_ <;> intro hc <;> first | (exfalso; omega) | skip) | (refine Y ?_; try change C _ _ _ _ _ _) | (refine Zs H ?_; clear H; (try clear w); intro w H) | (refine Zn H ?_; clear H; (try clear w); intro _ w H) | (refine Ze H ?_; clear H; (try clear w); intro gv w H))
  (refine X.call (used_s H hu) ?_; (try clear H); rintro _ w ⟨rfl, H⟩; refine ⟨_, rfl, ?_⟩)
  by_cases hq : quota ≤ (usedN u : Int)
  · rw [if_pos (.inr hq)] at hg1
    repeat' (first | (refine X.lenL ?_) | (refine X.lv H ?_) | (refine X.lp H ?_) | (refine X.ldT H ?_) | (refine X.stT H ?_; clear H; (try clear w); intro w H) | (refine K.build [] _ build_tree0 rfl rfl rfl ?_) | (refine X.eqL ?_ ?_ <;> intro hc <;> first | (exfalso; first | exact absurd hc (by assumption) | exact absurd (by assumption) hc) | skip) | refine Z H ?_ | (refine Zc ?_ ?_ <;> intro hc <;> first | (exfalso; omega) | skip) | (refine Y ?_; try change C _ _ _ _ _ _) | (refine Zs H ?_; clear H; (try clear w); intro w H) | (refine Zn H ?_; clear H; (try clear w); intro _ w H) | (refine Ze H ?_; clear H; (try clear w); intro gv w H))
    exact ⟨_, resT rfl, by rw [growTo_none hj2 hg1]; exact ⟨rfl, u, H⟩⟩
  rw [if_neg (by intro h; exact h.elim hun hq)] at hg1
  repeat' (first | (refine X.mulI _ hml ?_) | (refine K.iaA (i := f) rfl rfl rfl rfl rfl hf ?_) | (refine K.iaA (i := j) rfl rfl rfl rfl rfl hj2 ?_) | (refine X.stN (off := 0 + f * 6 + 4 + j * 1) f (4 + j) ((u.n f).setBlk j (unusedM u)) hu hf (by omega) (setBlk_cells hj2) H ?_ (ho := by omega); clear H; (try clear w); intro w H) | (refine X.lenL ?_) | (refine X.lv H ?_) | (refine X.lp H ?_) | (refine X.ldT H ?_) | (refine X.stT H ?_; clear H; (try clear w); intro w H) | (refine K.build [] _ build_tree0 rfl rfl rfl ?_) | (refine X.eqL ?_ ?_ <;> intro hc <;> first | (exfalso; first | exact absurd hc (by assumption) | exact absurd (by assumption) hc) | skip) | refine Z H ?_ | (refine Zc ?_ ?_ <;> intro hc <;> first | (exfalso; omega) | skip) | (refine Y ?_; try change C _ _ _ _ _ _) | (refine Zs H ?_; clear H; (try clear w); intro w H) | (refine Zn H ?_; clear H; (try clear w); intro _ w H) | (refine Ze H ?_; clear H; (try clear w); intro gv w H))
  exact ⟨by (repeat (first | exact Agr.refl | exact Agr.hav | refine Agr.upd rfl ?_ | refine Agr.in rfl ?_)), 2 - (j + 1), by omega, _, ⟨j + 1, _, rfl, by omega, rfl, rfl, TR.ok_set hu _ _, hg1⟩, H⟩
end
end Go.Proofs.Ytlchnabnhimlcaa
set_option linter.unusedSimpArgs false
set_option linter.unusedVariables false
namespace Go.Proofs.Ytlchnabnhimlcaa
open Go Go.RowKit Go.Own
theorem ok_poke {t : TR} (h : t.Ok) {f p : Nat} {c : UInt8} (hb : 0 < (t.n f).blk (p / 40) ∧ (t.n f).blk (p / 40) ≤ 8) : (pokeM t f p c).Ok :=
  TR.ok_setB h _ (by rw [List.length_set, TR.b_len h (by omega)])
section
variable {n : Nat} {ops : Array Oper} {Q : Post} {rest : List Oper} {e : Env} {w : World} {s : Ro} {rs R : List Asn} {tt : Nat} {pp : String} {af : Array Edge} {g : Option (Nat × Bool)} {d : Nat}
variable {p q : Str} {b : Nat} {t : TR}
set_option maxRecDepth 100000 in
set_option maxHeartbeats 1000000 in
theorem write_t {l : Str} {a : Option Addr} {c : Nat} {at_ quota : Int} (H : Holds s w R) (ht : t.Ok) (h : SlS s (.slice a l.length c) 1 l.length (u8s l)) (hl : l.length ≤ 140737488355328) : Calls Try.prog 14 #[.agg t.cells.toArray, .string ⟨p.toArray⟩, .int .i64 at_, .slice a l.length c, .int .i64 quota] w fun e w' => e = .returned (.tuple #[.agg (writeM t p at_ l quota).1.cells.toArray, .int .i64 (writeM t p at_ l quota).2]) ∧ Holds s w' R := by
  have hz := TR.ok_zero
  refine enter Try.func14 rfl Try.ntmps14 rfl ?_
  repeat' (first | (refine X.lenL ?_) | (refine X.lv H ?_) | (refine X.lp H ?_) | (refine X.ldT H ?_) | (refine X.stT H ?_; clear H; (try clear w); intro w H) | (refine K.build [] _ build_tree0 rfl rfl rfl ?_) | (refine X.eqL ?_ ?_ <;> intro hc <;> first | (exfalso; first | exact absurd hc (by assumption) | exact absurd (by assumption) hc) | skip) | refine Z H ?_ | (refine Zc ?_ ?_ <;> intro hc <;> first | (exfalso; omega) | skip) | (refine Y ?_; try change C _ _ _ _ _ _) | (refine Zs H ?_; clear H; (try clear w); intro w H) | (refine Zn H ?_; clear H; (try clear w); (first | ((fail_if_success (have := bl1)); intro bl1 w H) | intro _ w H)) | (refine Ze H ?_; clear H; (try clear w); intro gv w H))
  have hC := Check_s H ht
  by_cases hchk : checkM t = true
  rotate_left
  · have em : writeM t p at_ l quota = (TR.zero, 3) := by rw [writeM, if_pos (by simpa using hchk)]
    rw [show checkM t = false by simpa using hchk] at hC
    (refine X.call (hC) ?_; (try clear H); rintro _ w ⟨rfl, H⟩; refine ⟨_, rfl, ?_⟩)
    clear hC
    repeat' (first | (refine X.lenL ?_) | (refine X.lv H ?_) | (refine X.lp H ?_) | (refine X.ldT H ?_) | (refine X.stT H ?_; clear H; (try clear w); intro w H) | (refine K.build [] _ build_tree0 rfl rfl rfl ?_) | (refine X.eqL ?_ ?_ <;> intro hc <;> first | (exfalso; first | exact absurd hc (by assumption) | exact absurd (by assumption) hc) | skip) | refine Z H ?_ | (refine Zc ?_ ?_ <;> intro hc <;> first | (exfalso; omega) | skip) | (refine Y ?_; try change C _ _ _ _ _ _) | (refine Zs H ?_; clear H; (try clear w); intro w H) | (refine Zn H ?_; clear H; (try clear w); (first | ((fail_if_success (have := bl1)); intro bl1 w H) | intro _ w H)) | (refine Ze H ?_; clear H; (try clear w); intro gv w H))
    exact ⟨_, resVT (cs := TR.zero.cells) H rfl rfl inferInstance (TR.cells_len hz), by rw [em]; rfl, H.tail.tail⟩
  rw [hchk] at hC
  (refine X.call (hC) ?_; (try clear H); rintro _ w ⟨rfl, H⟩; refine ⟨_, rfl, ?_⟩)
  clear hC
  repeat' (first | (refine X.lenL ?_) | (refine X.lv H ?_) | (refine X.lp H ?_) | (refine X.ldT H ?_) | (refine X.stT H ?_; clear H; (try clear w); intro w H) | (refine K.build [] _ build_tree0 rfl rfl rfl ?_) | (refine X.eqL ?_ ?_ <;> intro hc <;> first | (exfalso; first | exact absurd hc (by assumption) | exact absurd (by assumption) hc) | skip) | refine Z H ?_ | (refine Zc ?_ ?_ <;> intro hc <;> first | (exfalso; omega) | skip) | (refine Y ?_; try change C _ _ _ _ _ _) | (refine Zs H ?_; clear H; (try clear w); intro w H) | (refine Zn H ?_; clear H; (try clear w); (first | ((fail_if_success (have := bl1)); intro bl1 w H) | intro _ w H)) | (refine Ze H ?_; clear H; (try clear w); intro gv w H))
  first | (have hT : Holds _ _ (var bl1 34 _ :: _) := H; clear hT) | (replace H := H.up 1 rfl; (try simp only [List.set_cons_zero, List.set_cons_succ, List.eraseIdx_cons_zero, List.eraseIdx_cons_succ] at H); have hT : Holds _ _ (var bl1 34 _ :: _) := H; clear hT) | (replace H := H.up 2 rfl; (try simp only [List.set_cons_zero, List.set_cons_succ, List.eraseIdx_cons_zero, List.eraseIdx_cons_succ] at H); have hT : Holds _ _ (var bl1 34 _ :: _) := H; clear hT) | (replace H := H.up 3 rfl; (try simp only [List.set_cons_zero, List.set_cons_succ, List.eraseIdx_cons_zero, List.eraseIdx_cons_succ] at H); have hT : Holds _ _ (var bl1 34 _ :: _) := H; clear hT) | (replace H := H.up 4 rfl; (try simp only [List.set_cons_zero, List.set_cons_succ, List.eraseIdx_cons_zero, List.eraseIdx_cons_succ] at H); have hT : Holds _ _ (var bl1 34 _ :: _) := H; clear hT) | (replace H := H.up 5 rfl; (try simp only [List.set_cons_zero, List.set_cons_succ, List.eraseIdx_cons_zero, List.eraseIdx_cons_succ] at H); have hT : Holds _ _ (var bl1 34 _ :: _) := H; clear hT) | (replace H := H.up 6 rfl; (try simp only [List.set_cons_zero, List.set_cons_succ, List.eraseIdx_cons_zero, List.eraseIdx_cons_succ] at H); have hT : Holds _ _ (var bl1 34 _ :: _) := H; clear hT)
  (refine X.call (kindOf_s (p := p) (k := 2) H ht) ?_; (try clear H); rintro _ w ⟨rfl, H⟩; refine ⟨_, rfl, ?_⟩)
  have em : writeM t p at_ l quota = if (kindOfM t p 2).2 ≠ 0 then (TR.zero, (kindOfM t p 2).2) else if at_ < 0 then (TR.zero, 4) else
      if at_ > 80 - (l.length : Int) then (TR.zero, 5) else if l.length = 0 then (t, 0) else
      match growM t (kindOfM t p 2).1.toNat (most (t.n (kindOfM t p 2).1.toNat).size (at_ + l.length)) quota with
      | none => (TR.zero, 5)
      | some u => (pokesM u (kindOfM t p 2).1.toNat at_.toNat l, 0) := by
    rw [writeM, if_neg (by simp [hchk])]
    rfl
  by_cases hk : (kindOfM t p 2).2 = 0
  rotate_left
  · rw [if_pos hk] at em
    repeat' (first | (refine X.lenL ?_) | (refine X.lv H ?_) | (refine X.lp H ?_) | (refine X.ldT H ?_) | (refine X.stT H ?_; clear H; (try clear w); intro w H) | (refine K.build [] _ build_tree0 rfl rfl rfl ?_) | (refine X.eqL ?_ ?_ <;> intro hc <;> first | (exfalso; first | exact absurd hc (by assumption) | exact absurd (by assumption) hc) | skip) | refine Z H ?_ | (refine Zc ?_ ?_ <;> intro hc <;> first | (exfalso; omega) | skip) | (refine Y ?_; try change C _ _ _ _ _ _) | (refine Zs H ?_; clear H; (try clear w); intro w H) | (refine Zn H ?_; clear H; (try clear w); (first | ((fail_if_success (have := bl1)); intro bl1 w H) | intro _ w H)) | (refine Ze H ?_; clear H; (try clear w); intro gv w H))
    exact ⟨_, resVT (cs := TR.zero.cells) H rfl rfl inferInstance (TR.cells_len hz), by rw [em]; rfl, H.tail.tail⟩
  rw [if_neg (by simp [hk])] at em
  obtain ⟨f, hf, hkf, hkd, hfd⟩ := kindOfM_range hk
  rw [hkf] at em ⊢
  clear hkf hk
  by_cases hat : at_ < 0
  · rw [if_pos hat] at em
    repeat' (first | (refine X.lenL ?_) | (refine X.lv H ?_) | (refine X.lp H ?_) | (refine X.ldT H ?_) | (refine X.stT H ?_; clear H; (try clear w); intro w H) | (refine K.build [] _ build_tree0 rfl rfl rfl ?_) | (refine X.eqL ?_ ?_ <;> intro hc <;> first | (exfalso; first | exact absurd hc (by assumption) | exact absurd (by assumption) hc) | skip) | refine Z H ?_ | (refine Zc ?_ ?_ <;> intro hc <;> first | (exfalso; omega) | skip) | (refine Y ?_; try change C _ _ _ _ _ _) | (refine Zs H ?_; clear H; (try clear w); intro w H) | (refine Zn H ?_; clear H; (try clear w); (first | ((fail_if_success (have := bl1)); intro bl1 w H) | intro _ w H)) | (refine Ze H ?_; clear H; (try clear w); intro gv w H))
    exact ⟨_, resVT (cs := TR.zero.cells) H rfl rfl inferInstance (TR.cells_len hz), by rw [em]; rfl, H.tail.tail⟩
  rw [if_neg hat] at em
  obtain ⟨o, rfl⟩ : ∃ o : Nat, at_ = o := ⟨at_.toNat, by omega⟩
  by_cases hfu : (o : Int) > 80 - (l.length : Int)
  · rw [if_pos hfu] at em
    repeat' (first | (refine X.lenL ?_) | (refine X.lv H ?_) | (refine X.lp H ?_) | (refine X.ldT H ?_) | (refine X.stT H ?_; clear H; (try clear w); intro w H) | (refine K.build [] _ build_tree0 rfl rfl rfl ?_) | (refine X.eqL ?_ ?_ <;> intro hc <;> first | (exfalso; first | exact absurd hc (by assumption) | exact absurd (by assumption) hc) | skip) | refine Z H ?_ | (refine Zc ?_ ?_ <;> intro hc <;> first | (exfalso; omega) | skip) | (refine Y ?_; try change C _ _ _ _ _ _) | (refine Zs H ?_; clear H; (try clear w); intro w H) | (refine Zn H ?_; clear H; (try clear w); (first | ((fail_if_success (have := bl1)); intro bl1 w H) | intro _ w H)) | (refine Ze H ?_; clear H; (try clear w); intro gv w H))
    exact ⟨_, resVT (cs := TR.zero.cells) H rfl rfl inferInstance (TR.cells_len hz), by rw [em]; rfl, H.tail.tail⟩
  rw [if_neg hfu] at em
  by_cases hl0 : l.length = 0
  · rw [if_pos hl0] at em
    repeat' (first | (refine X.lenL ?_) | (refine X.lv H ?_) | (refine X.lp H ?_) | (refine X.ldT H ?_) | (refine X.stT H ?_; clear H; (try clear w); intro w H) | (refine K.build [] _ build_tree0 rfl rfl rfl ?_) | (refine X.eqL ?_ ?_ <;> intro hc <;> first | (exfalso; first | exact absurd hc (by assumption) | exact absurd (by assumption) hc) | skip) | refine Z H ?_ | (refine Zc ?_ ?_ <;> intro hc <;> first | (exfalso; omega) | skip) | (refine Y ?_; try change C _ _ _ _ _ _) | (refine Zs H ?_; clear H; (try clear w); intro w H) | (refine Zn H ?_; clear H; (try clear w); (first | ((fail_if_success (have := bl1)); intro bl1 w H) | intro _ w H)) | (refine Ze H ?_; clear H; (try clear w); intro gv w H))
    exact ⟨_, resVT (cs := t.cells) H rfl rfl inferInstance (TR.cells_len ht), by rw [em]; rfl, H.tail.tail⟩
  rw [if_neg hl0] at em
  have c3 := TR.cell ht hf 3 _ rfl
  have hbk := bksJ_iff.2 (bks_of hchk hf)
  repeat' (first | (refine K.iaA (i := f) rfl rfl rfl rfl rfl hf ?_) | (refine X.max (most (t.n f).size ((o : Int) + (l.length : Int))) ?_ rfl) | (refine X.lenL ?_) | (refine X.lv H ?_) | (refine X.lp H ?_) | (refine X.ldT H ?_) | (refine X.stT H ?_; clear H; (try clear w); intro w H) | (refine K.build [] _ build_tree0 rfl rfl rfl ?_) | (refine X.eqL ?_ ?_ <;> intro hc <;> first | (exfalso; first | exact absurd hc (by assumption) | exact absurd (by assumption) hc) | skip) | refine Z H ?_ | (refine Zc ?_ ?_ <;> intro hc <;> first | (exfalso; omega) | skip) | (refine Y ?_; try change C _ _ _ _ _ _) | (refine Zs H ?_; clear H; (try clear w); intro w H) | (refine Zn H ?_; clear H; (try clear w); (first | ((fail_if_success (have := bl1)); intro bl1 w H) | intro _ w H)) | (refine Ze H ?_; clear H; (try clear w); intro gv w H))
  have hG := grow_s (f := f) (size := most (t.n f).size ((o : Int) + (l.length : Int))) (quota := quota) H ht hf
  have em2 : writeM t p (o : Int) l quota = match growM t f (most (t.n f).size ((o : Int) + l.length)) quota with
      | none => (TR.zero, 5)
      | some u => (pokesM u f o l, 0) := em
  clear em
  cases hgr : growM t f (most (t.n f).size ((o : Int) + (l.length : Int))) quota with
  | none =>
    rw [hgr] at hG em2
    (refine X.call (hG) ?_; (try clear H); rintro _ w ⟨rfl, u, H⟩; refine ⟨_, rfl, ?_⟩)
    clear hG
    repeat' (first | (refine X.lenL ?_) | (refine X.lv H ?_) | (refine X.lp H ?_) | (refine X.ldT H ?_) | (refine X.stT H ?_; clear H; (try clear w); intro w H) | (refine K.build [] _ build_tree0 rfl rfl rfl ?_) | (refine X.eqL ?_ ?_ <;> intro hc <;> first | (exfalso; first | exact absurd hc (by assumption) | exact absurd (by assumption) hc) | skip) | refine Z H ?_ | (refine Zc ?_ ?_ <;> intro hc <;> first | (exfalso; omega) | skip) | (refine Y ?_; try change C _ _ _ _ _ _) | (refine Zs H ?_; clear H; (try clear w); intro w H) | (refine Zn H ?_; clear H; (try clear w); (first | ((fail_if_success (have := bl1)); intro bl1 w H) | intro _ w H)) | (refine Ze H ?_; clear H; (try clear w); intro gv w H))
    exact ⟨_, resVT (cs := TR.zero.cells) H rfl rfl inferInstance (TR.cells_len hz), by rw [em2]; rfl, H.tail.tail⟩
  | some u =>
    rw [hgr] at hG em2
    (refine X.call (hG) ?_; (try clear H); rintro _ w ⟨rfl, H⟩; refine ⟨_, rfl, ?_⟩)
    clear hG
    obtain ⟨hu, hub, hus, hun⟩ := growM_facts ht hf hbk hgr
    have hsz : (o : Int) + (l.length : Int) ≤ (u.n f).size := by rw [hus]; unfold most; split <;> omega
    repeat' (first | (refine X.lenL ?_) | (refine X.lv H ?_) | (refine X.lp H ?_) | (refine X.ldT H ?_) | (refine X.stT H ?_; clear H; (try clear w); intro w H) | (refine K.build [] _ build_tree0 rfl rfl rfl ?_) | (refine X.eqL ?_ ?_ <;> intro hc <;> first | (exfalso; first | exact absurd hc (by assumption) | exact absurd (by assumption) hc) | skip) | refine Z H ?_ | (refine Zc ?_ ?_ <;> intro hc <;> first | (exfalso; omega) | skip) | (refine Y ?_; try change C _ _ _ _ _ _) | (refine Zs H ?_; clear H; (try clear w); intro w H) | (refine Zn H ?_; clear H; (try clear w); (first | ((fail_if_success (have := bl1)); intro bl1 w H) | intro _ w H)) | (refine Ze H ?_; clear H; (try clear w); intro gv w H))
    refine C.loopR H [14, 15, 16, 60, 61, 62, 63, 64, 65, 66, 67, 68, 69, 70, 71, 72, 73, 74, 75, 76, 77, 78, 79, 80, 81, 82, 83] [60] rfl (fun m vs A => ∃ i : Nat, m = l.length - i ∧ i ≤ l.length ∧ vs = [.int .i64 (i : Int)] ∧ A = var bl1 34 (pokesM u f o (l.take i)).cells ∧ (pokesM u f o (l.take i)).Ok) l.length ⟨0, rfl, Nat.zero_le _, rfl, rfl, hu⟩ ?_
    clear H
    rintro m vs hv w A ⟨i, rfl, hi, rfl, rfl, hk⟩ H
    by_cases hlt : i < l.length
    rotate_left
    · obtain rfl : i = l.length := by omega
      rw [List.take_length] at H hk
      repeat' (first | (refine X.lenL ?_) | (refine X.lv H ?_) | (refine X.lp H ?_) | (refine X.ldT H ?_) | (refine X.stT H ?_; clear H; (try clear w); intro w H) | (refine K.build [] _ build_tree0 rfl rfl rfl ?_) | (refine X.eqL ?_ ?_ <;> intro hc <;> first | (exfalso; first | exact absurd hc (by assumption) | exact absurd (by assumption) hc) | skip) | refine Z H ?_ | (refine Zc ?_ ?_ <;> intro hc <;> first | (exfalso; omega) | skip) | (refine Y ?_; try change C _ _ _ _ _ _) | (refine Zs H ?_; clear H; (try clear w); intro w H) | (refine Zn H ?_; clear H; (try clear w); (first | ((fail_if_success (have := bl1)); intro bl1 w H) | intro _ w H)) | (refine Ze H ?_; clear H; (try clear w); intro gv w H))
      exact ⟨_, resVT (cs := (pokesM u f o l).cells) H rfl rfl inferInstance (TR.cells_len hk), by rw [em2]; rfl, H.tail.tail⟩
    obtain ⟨g, o', c', hv', _, _, hp⟩ := elemS1 h (by omega)
    cases hv'
    have pn : Pin s g (o' + i * 1) (.int .u8 (l[i].toNat : Int)) := by rw [Nat.mul_one]; exact hp i hlt
    have hnf : (pokesM u f o (l.take i)).n f = u.n f := pokes_n
    have hst : pokesM u f o (l.take (i + 1)) = pokeM (pokesM u f o (l.take i)) f (o + i) l[i] := by
      rw [List.take_succ_eq_append_getElem hlt, pokes_snoc, List.length_take, Nat.min_eq_left (by omega)]
    generalize pokesM u f o (l.take i) = v at *
    generalize l[i] = x at *
    have hj2 : (o + i) / 40 < 2 := by omega
    have hbc := blk_cell hk hf hj2
    have hbj : 0 < (v.n f).blk ((o + i) / 40) ∧ (v.n f).blk ((o + i) / 40) ≤ 8 := by
      rw [hnf]
      have h1 := hub _ hj2
      have h2 := hun _ hj2 (by rw [← hus]; have := Nat.div_mul_le_self (o + i) 40; omega)
      omega
    have hpk := ok_poke hk (c := x) hbj
    have hq : (v.n f).blk ((o + i) / 40) - 1 = (((v.n f).blk ((o + i) / 40) - 1).toNat : Int) := by omega
    have hq8 : ((v.n f).blk ((o + i) / 40) - 1).toNat < 8 := by omega
    obtain ⟨y, hy⟩ : ∃ y, y = (o + i) % 40 := ⟨_, rfl⟩
    have hm40 : y < 40 := by rw [hy]; exact Nat.mod_lt _ (by omega)
    repeat' (first | (refine X.quoI (o + i) 40 rfl (by decide) (by omega) ?_) | (refine X.remI (o + i) 40 y rfl (by decide) hy.symm ?_) | (refine K.iaA (i := f) rfl rfl rfl rfl rfl hf ?_) | (refine K.iaA (i := (o + i) / 40) rfl rfl rfl rfl rfl hj2 ?_) | (refine K.iaA (i := y) rfl rfl rfl rfl rfl hm40 ?_) | (refine K.iaA (i := ((v.n f).blk ((o + i) / 40) - 1).toNat) rfl rfl rfl rfl hq hq8 ?_) | (refine X.stY ((v.n f).blk ((o + i) / 40) - 1).toNat y x hk hq8 hm40 H ?_; clear H; (try clear w); intro w H) | (refine X.lenL ?_) | (refine X.lv H ?_) | (refine X.lp H ?_) | (refine X.ldT H ?_) | (refine X.stT H ?_; clear H; (try clear w); intro w H) | (refine K.build [] _ build_tree0 rfl rfl rfl ?_) | (refine X.eqL ?_ ?_ <;> intro hc <;> first | (exfalso; first | exact absurd hc (by assumption) | exact absurd (by assumption) hc) | skip) | refine Z H ?_ | (refine Zc ?_ ?_ <;> intro hc <;> first | (exfalso; omega) | skip) | (refine Y ?_; try change C _ _ _ _ _ _) | (refine Zs H ?_; clear H; (try clear w); intro w H) | (refine Zn H ?_; clear H; (try clear w); (first | ((fail_if_success (have := bl1)); intro bl1 w H) | intro _ w H)) | (refine Ze H ?_; clear H; (try clear w); intro gv w H))
    exact ⟨by (repeat (first | exact Agr.refl | exact Agr.hav | refine Agr.upd rfl ?_ | refine Agr.in rfl ?_)), l.length - (i + 1), by omega, _, ⟨i + 1, rfl, by omega, rfl, rfl, by rw [hst]; exact hpk⟩, by subst hy; rw [hst]; exact H⟩
end
end Go.Proofs.Ytlchnabnhimlcaa
set_option linter.unusedSimpArgs false
set_option linter.unusedVariables false
namespace Go.Proofs.Ytlchnabnhimlcaa
open Go Go.RowKit Go.Own
theorem ok_pokes {f : Nat} : ∀ {l : Str} {u : TR} {p : Nat}, u.Ok → (∀ k : Nat, p ≤ k → k < p + l.length → 0 < (u.n f).blk (k / 40) ∧ (u.n f).blk (k / 40) ≤ 8) → (pokesM u f p l).Ok
  | [], u, p, hu, _ => hu
  | c :: l, u, p, hu, hb => by
    rw [pokesM]
    refine ok_pokes (ok_poke hu (hb p (Nat.le_refl _) (by simp))) (fun k h1 h2 => ?_)
    have : (pokeM u f p c).n f = u.n f := rfl
    rw [this]
    exact hb k (by omega) (by simp only [List.length_cons]; omega)
theorem ok_make {t : TR} (ht : t.Ok) {p : Str} {k : Int} : (makeM t p k).1.Ok := by
  unfold makeM
  repeat' split
  all_goals first | exact TR.ok_zero | exact TR.ok_set ht _ _
theorem ok_remove {t : TR} (ht : t.Ok) {p : Str} : (removeM t p).1.Ok := by
  unfold removeM
  repeat' split
  all_goals first | exact TR.ok_zero | exact TR.ok_set (ok_empty ht) _ _
theorem ok_cut {t : TR} (ht : t.Ok) {p : Str} : (cutM t p).1.Ok := by
  unfold cutM
  repeat' split
  all_goals first | exact TR.ok_zero | exact ok_empty ht
theorem ok_move {t : TR} (ht : t.Ok) {p q : Str} : (moveM t p q).1.Ok := by
  unfold moveM
  repeat' split
  all_goals first | exact TR.ok_zero | exact TR.ok_set ht _ _
theorem ok_write {t : TR} (ht : t.Ok) {p : Str} {a : Int} {l : Str} {qu : Int} : (writeM t p a l qu).1.Ok := by
  unfold writeM
  split
  · exact TR.ok_zero
  rename_i hchk
  split
  · exact TR.ok_zero
  rename_i hk
  split
  · exact TR.ok_zero
  split
  · exact TR.ok_zero
  split
  · exact ht
  obtain ⟨f, hf, hkf, hkd, hfd⟩ := kindOfM_range (by simpa using hk : (kindOfM t p 2).2 = 0)
  rw [hkf]
  split
  · exact TR.ok_zero
  · rename_i u hg
    have hg' : growM t f (most (t.n f).size (a + l.length)) qu = some u := hg
    obtain ⟨hu, hub, hus, hun⟩ := growM_facts ht hf (bksJ_iff.2 (bks_of (by simpa using hchk) hf)) hg'
    refine ok_pokes hu (fun k h1 h2 => ?_)
    have hj2 : k / 40 < 2 := by omega
    have hlt : ((k / 40 : Nat) : Int) * 40 < most (t.n f).size (a + l.length) := by
      have := Nat.div_mul_le_self k 40
      unfold most
      split <;> omega
    have := hub _ hj2
    have h3 := hun _ hj2 hlt
    have h4 : (u.n ((f : Int).toNat)) = u.n f := rfl
    show 0 < (u.n f).blk (k / 40) ∧ (u.n f).blk (k / 40) ≤ 8
    omega
end Go.Proofs.Ytlchnabnhimlcaa

/- Squeezed copy of the texts Tx3 Tx4 To Tl Tv. -/
import Derived.Test.YtgilmcpdpggikaaGreatDoorCTx2
set_option maxRecDepth 100000
set_option maxHeartbeats 1000000
set_option linter.unusedSimpArgs false
set_option linter.unusedVariables false
namespace Go.Proofs.YtgilmcpdpggikaaGreatDoor
open Go Go.RowKit Go.Own
def growTo (t : TR) (f : Nat) (size quota : Int) : Nat → Option TR
 | 0 => some t
 | j + 1 => (growTo t f size quota j).bind fun u => growJ u f size quota j
theorem growM_eq {t : TR} {f : Nat} {size quota : Int} : growM t f size quota = (growTo t f size quota 2).map fun u => u.set f { u.n f with size := size } := by
 unfold growM growTo growTo growTo
 cases h : growJ t f size quota 0 with
 | none => simp [h]
 | some u => simp [h]
theorem growTo_none {t : TR} {f : Nat} {size quota : Int} {j : Nat} (hj : j < 2) (h : growTo t f size quota (j + 1) = none) : growM t f size quota = none := by
 rw [growM_eq]
 rcases (show j = 0 ∨ j = 1 by omega) with rfl | rfl
 ·rw [growTo, h]; rfl
 ·rw [h]; rfl
theorem unusedFrom_range {t : TR} : ∀ (f b : Nat), unusedFrom t f b = 0 ∨ (b ≤ unusedFrom t f b ∧ unusedFrom t f b < b + f)
 | 0, b => .inl rfl
 | f + 1, b => by
  rw [unusedFrom]
  split
  ·rcases unusedFrom_range (t := t) f (b + 1) with h | h
   ·exact .inl h
   ·exact .inr (by omega)
  ·exact .inr (by omega)
theorem unusedM_le {t : TR} : unusedM t ≤ 8 := by
 unfold unusedM
 rcases unusedFrom_range (t := t) 8 1 with h | h <;> omega
theorem blk_set {n : Nd} {j k : Nat} {v : Int} (hj : j < 2) (hk : k < 2) : (n.setBlk j v).blk k = if k = j then v else n.blk k := by
 rcases (show j = 0 ∨ j = 1 by omega) with rfl | rfl <;> rcases (show k = 0 ∨ k = 1 by omega) with rfl | rfl <;> rfl
theorem setBlk_cells {n : Nd} {j : Nat} {v : Int} (hj : j < 2) : (n.setBlk j v).cells = n.cells.set (4 + j) (.int .i64 v) := by
 rcases (show j = 0 ∨ j = 1 by omega) with rfl | rfl <;> rfl
theorem blk_cell {t : TR} (ht : t.Ok) {f j : Nat} (hf : f < 8) (hj : j < 2) : t.cells[0 + f * 6 + 4 + j * 1]? = some (.int .i64 ((t.n f).blk j)) := by
 have := TR.cell ht hf (4 + j) (.int .i64 ((t.n f).blk j)) (by rcases (show j = 0 ∨ j = 1 by omega) with rfl | rfl <;> rfl)
 rw [show 0 + f * 6 + 4 + j * 1 = 0 + f * 6 + (4 + j) by omega]
 exact this
abbrev BksJ (n : Nd) : Prop := ∀ k : Nat, k < 2 → 0 ≤ n.blk k ∧ n.blk k ≤ 8
theorem bksJ_iff {n : Nd} : BksJ n ↔ Bks n := by
 constructor
 ·intro h
  have h0 := h 0 (by omega)
  have h1 := h 1 (by omega)
  exact ⟨h0.1, h0.2, h1.1, h1.2⟩
 ·intro h k hk
  rcases (show k = 0 ∨ k = 1 by omega) with rfl | rfl
  ·exact ⟨h.1, h.2.1⟩
  ·exact ⟨h.2.2.1, h.2.2.2⟩
theorem growJ_facts {u v : TR} {f : Nat} {size quota : Int} {j : Nat} (hu : u.Ok) (hf : f < 8) (hj : j < 2) (hb : BksJ (u.n f)) (h : growJ u f size quota j = some v) : v.Ok ∧ BksJ (v.n f) ∧ (∀ k, k < j → (v.n f).blk k = (u.n f).blk k) ∧ ((j : Int) * 40 < size → (v.n f).blk j ≠ 0) := by
 unfold growJ at h
 split at h
 ·rename_i hc
  cases h
  refine ⟨hu, hb, fun _ _ => rfl, fun hs => ?_⟩
  rcases hc with hc | hc
  ·omega
  ·exact hc
 ·rename_i hc
  split at h
  ·cases h
  ·rename_i hc2
   cases h
   refine ⟨TR.ok_set hu _ _, ?_, ?_, ?_⟩
   ·intro k hk
    rw [TR.n_set hu hf, if_pos rfl, blk_set hj hk]
    have := unusedM_le (t := u)
    have := hb k hk
    split <;> omega
   ·intro k hk
    rw [TR.n_set hu hf, if_pos rfl, blk_set hj (by omega), if_neg (by omega)]
   ·intro _
    rw [TR.n_set hu hf, if_pos rfl, blk_set hj hj, if_pos rfl]
    omega
theorem growM_facts {t u : TR} {f : Nat} {size quota : Int} (ht : t.Ok) (hf : f < 8) (hb : BksJ (t.n f)) (h : growM t f size quota = some u) : u.Ok ∧ BksJ (u.n f) ∧ (u.n f).size = size ∧ ∀ j : Nat, j < 2 → (j : Int) * 40 < size → (u.n f).blk j ≠ 0 := by
 rw [growM_eq] at h
 unfold growTo growTo growTo at h
 simp only [Option.bind_some] at h
 cases h0 : growJ t f size quota 0 with
 | none => rw [h0] at h; cases h
 | some a =>
  rw [h0, Option.bind_some] at h
  cases h1 : growJ a f size quota 1 with
  | none => rw [h1] at h; cases h
  | some b =>
   rw [h1, Option.map_some] at h
   cases h
   obtain ⟨a1, a2, a3, a4⟩ := growJ_facts ht hf (by omega) hb h0
   obtain ⟨b1, b2, b3, b4⟩ := growJ_facts a1 hf (by omega) a2 h1
   refine ⟨TR.ok_set b1 _ _, ?_, ?_, ?_⟩
   ·rw [TR.n_set b1 hf, if_pos rfl]; exact b2
   ·rw [TR.n_set b1 hf, if_pos rfl]
   ·intro j hj hs
    rw [TR.n_set b1 hf, if_pos rfl]
    rcases (show j = 0 ∨ j = 1 by omega) with rfl | rfl
    ·have := b3 0 (by omega)
     intro h'
     exact a4 hs (this.symm.trans h')
    ·exact b4 hs
theorem pokes_snoc {f : Nat} : ∀ {l : Str} {t : TR} {p : Nat} {c : UInt8}, pokesM t f p (l ++ [c]) = pokeM (pokesM t f p l) f (p + l.length) c
 | [], t, p, c => rfl
 | x :: l, t, p, c => by
  rw [List.cons_append, pokesM, pokesM, pokes_snoc, List.length_cons, show p + 1 + l.length = p + (l.length + 1) by omega]
theorem pokes_n {f : Nat} : ∀ {l : Str} {t : TR} {p i : Nat}, (pokesM t f p l).n i = t.n i
 | [], t, p, i => rfl
 | x :: l, t, p, i => by rw [pokesM, pokes_n]; rfl
section
variable {n : Nat} {ops : Array Oper} {Q : Post} {rest : List Oper} {e : Env} {w : World} {s : Ro} {rs R : List Asn} {tt : Nat} {pp : String} {af : Array Edge} {g : Option (Nat × Bool)} {d : Nat}
theorem X.quoI {x y : Operand} {t u : TypeId} {xx : Int} (a b : Nat) (hxx : xx = (a : Int)) (hb : 0 < b) (ha : a < 9223372036854775808) (h : L Tryz.prog n ops Q rest (upd e d (.int .i64 ((a / b : Nat) : Int))) w) (hw : wg n ops g e = true := by rfl) (hd : Nat.blt d n = true := by rfl) (hx : ev e x = .int .i64 xx := by rfl) (hy : ev e y = .int .i64 (b : Int) := by rfl) : L Tryz.prog n ops Q (⟨some d, .binOp .quo t x y u, tt, pp, af, g⟩ :: rest) e w :=
 L.val (o := ⟨some d, .binOp .quo t x y u, tt, pp, af, g⟩) _ w hw hd (by
  subst hxx
  have h1 : (b : Int) ≠ 0 := by omega
  have hlt : a / b ≤ a := Nat.div_le_self _ _
  have h2 : IntKind.i64.wrap ((a : Int).tdiv (b : Int)) = ((a / b : Nat) : Int) := by
   rw [← Int.ofNat_tdiv]
   generalize a / b = q at hlt ⊢
   exact IntWalk.i64_in _ (by omega)
  unfold execOp
  simp only [hx, hy, eqGuard, binOp, Op.intDiv, if_neg h1, h2]
  simp) h
theorem X.remI {x y : Operand} {t u : TypeId} {xx : Int} (a b r : Nat) (hxx : xx = (a : Int)) (hb : 0 < b) (hr : a % b = r) (h : L Tryz.prog n ops Q rest (upd e d (.int .i64 (r : Int))) w) (hw : wg n ops g e = true := by rfl) (hd : Nat.blt d n = true := by rfl) (hx : ev e x = .int .i64 xx := by rfl) (hy : ev e y = .int .i64 (b : Int) := by rfl) : L Tryz.prog n ops Q (⟨some d, .binOp .rem t x y u, tt, pp, af, g⟩ :: rest) e w :=
 K.rem hw hd hx hy (by omega) (by rw [hxx, ← Int.ofNat_tmod, hr]; exact h)
theorem X.mulI {x y : Operand} {t u : TypeId} {a b : Int} (r : Int) (hr : IntKind.i64.wrap (a * b) = r) (h : L Tryz.prog n ops Q rest (upd e d (.int .i64 r)) w) (hw : wg n ops g e = true := by rfl) (hd : Nat.blt d n = true := by rfl) (hx : ev e x = .int .i64 a := by rfl) (hy : ev e y = .int .i64 b := by rfl) : L Tryz.prog n ops Q (⟨some d, .binOp .mul t x y u, tt, pp, af, g⟩ :: rest) e w :=
 K.arith _ hw hd hx hy (by
  show some (IntKind.i64.wrap (a * b)) = some r
  rw [hr]) h
theorem X.stY {ty : TypeId} {x y : Operand} [T : OneC Tryz.prog ty] {b off : Nat} {tp : TypeId} {t : TR} {f : List Value → List Asn} (k q : Nat) (c : UInt8) (ht : t.Ok) (hk : k < 8) (hq : q < 40) (H : Holds s w rs) (h : ∀ w', Holds s w' (f (t.setB k ((t.b k).set q c)).cells) → L Tryz.prog n ops Q rest e w') (ho : off = 48 + k * 40 + q * 1 := by rfl) (hw : wg n ops g e = true := by rfl) (hx : ev e x = .pointer (some ⟨b, off, none⟩) := by rfl) (V : PutV rs b tp t.cells f := by infer_instance) (hy : ev e y = u8 c := by rfl) : L Tryz.prog n ops Q (⟨none, .store ty x y, tt, pp, af, g⟩ :: rest) e w := by
 obtain ⟨j, hj, hf⟩ := V.ix
 subst ho
 exact K.store j H hw hx hj hy rfl (by rw [Nat.blt_eq, TR.cells_len ht]; omega) (fun w' H' => h w' (by rw [hf, TR.put_byte ht hk hq c] at H'; exact H'))
variable {p q : Str} {b : Nat} {t : TR}
theorem grow_s {f : Nat} {size quota : Int} (H : Holds s w (var b 41 t.cells :: R)) (ht : t.Ok) (hf : f < 8) : Calls Tryz.prog 72 #[.pointer (some ⟨b, 0, none⟩), .int .i64 (f : Int), .int .i64 size, .int .i64 quota] w fun e w' => match growM t f size quota with
  | none => e = .returned (.bool false) ∧ ∃ u : TR, Holds s w' (var b 41 u.cells :: R)
  | some u => e = .returned (.bool true) ∧ Holds s w' (var b 41 u.cells :: R) := by
 refine enter Tryz.func72 rfl Tryz.ntmps72 rfl ?_
 refine Gq4 H ?_
 refine C.loopR H [8, 9, 10, 11, 12, 13, 14, 15, 16, 17, 18, 19, 20, 21, 22, 23, 24, 25, 26, 27, 28, 29, 30, 31, 32, 33, 34, 35, 36, 37, 38, 39, 40, 41, 42, 43, 44, 45, 46, 47, 48, 49] [11] rfl (fun m vs A => ∃ (j : Nat) (u : TR), m = 2 - j ∧ j ≤ 2 ∧ vs = [.int .i64 (j : Int)] ∧ A = var b 41 u.cells ∧ u.Ok ∧ growTo t f size quota j = some u) 2 ⟨0, t, rfl, by omega, rfl, rfl, ht, rfl⟩ ?_
 clear H
 rintro m vs hv w A ⟨j, u, rfl, hj, rfl, rfl, hu, hg⟩ H
 by_cases hj2 : j < 2
 rotate_left
 ·obtain rfl : j = 2 := by omega
  have hm : growM t f size quota = some (u.set f { u.n f with size := size }) := by rw [growM_eq, hg]; rfl
  repeat' (first | (refine K.iaA (i := f) rfl rfl rfl rfl rfl hf ?_) | (refine X.stN f 3 { u.n f with size := size } hu hf (by decide) rfl H ?_; clear H; (try clear w); intro w H) | refine Go4 H ?_ | (refine Gs4 H ?_; clear H; (try clear w); intro w H) | (refine Gn H ?_; clear H; (try clear w); intro _ w H))
  exact ⟨_, resT rfl, by rw [hm]; exact ⟨rfl, H⟩⟩
 have hbc := blk_cell hu hf hj2
 have hml : IntKind.i64.wrap ((j : Int) * 40) = (j : Int) * 40 := IntWalk.i64_in _ (by omega)
 have hg1 : growTo t f size quota (j + 1) = growJ u f size quota j := by rw [growTo, hg]; rfl
 by_cases hs : size ≤ (j : Int) * 40
 ·rw [growJ, if_pos (.inl hs)] at hg1
  repeat' (first | (refine X.mulI _ hml ?_) | refine Go4 H ?_ | (refine Gs4 H ?_; clear H; (try clear w); intro w H) | (refine Gn H ?_; clear H; (try clear w); intro _ w H))
  exact ⟨agr, 2 - (j + 1), by omega, _, ⟨j + 1, u, rfl, by omega, rfl, rfl, hu, hg1⟩, H⟩
 by_cases hb0 : (u.n f).blk j ≠ 0
 ·rw [growJ, if_pos (.inr hb0)] at hg1
  repeat' (first | (refine X.mulI _ hml ?_) | (refine K.iaA (i := f) rfl rfl rfl rfl rfl hf ?_) | (refine K.iaA (i := j) rfl rfl rfl rfl rfl hj2 ?_) | refine Go4 H ?_ | (refine Gs4 H ?_; clear H; (try clear w); intro w H) | (refine Gn H ?_; clear H; (try clear w); intro _ w H))
  exact ⟨agr, 2 - (j + 1), by omega, _, ⟨j + 1, u, rfl, by omega, rfl, rfl, hu, hg1⟩, H⟩
 rw [growJ, if_neg (by intro h; exact h.elim hs hb0)] at hg1
 have hb0' : (u.n f).blk j = 0 := by omega
 repeat' (first | (refine X.mulI _ hml ?_) | (refine K.iaA (i := f) rfl rfl rfl rfl rfl hf ?_) | (refine K.iaA (i := j) rfl rfl rfl rfl rfl hj2 ?_) | refine Go4 H ?_ | (refine Gs4 H ?_; clear H; (try clear w); intro w H) | (refine Gn H ?_; clear H; (try clear w); intro _ w H))
 (refine X.call (unused_s H hu) ?_; (try clear H); rintro _ w ⟨rfl, H⟩; refine ⟨_, rfl, ?_⟩)
 by_cases hun : unusedM u = 0
 ·rw [if_pos (.inl hun)] at hg1
  refine Gq4 H ?_
  exact ⟨_, resT rfl, by rw [growTo_none hj2 hg1]; exact ⟨rfl, u, H⟩⟩
 refine Gq4 H ?_
 (refine X.call (used_s H hu) ?_; (try clear H); rintro _ w ⟨rfl, H⟩; refine ⟨_, rfl, ?_⟩)
 by_cases hq : quota ≤ (usedN u : Int)
 ·rw [if_pos (.inr hq)] at hg1
  refine Gq4 H ?_
  exact ⟨_, resT rfl, by rw [growTo_none hj2 hg1]; exact ⟨rfl, u, H⟩⟩
 rw [if_neg (by intro h; exact h.elim hun hq)] at hg1
 repeat' (first | (refine X.mulI _ hml ?_) | (refine K.iaA (i := f) rfl rfl rfl rfl rfl hf ?_) | (refine K.iaA (i := j) rfl rfl rfl rfl rfl hj2 ?_) | (refine X.stN (off := 0 + f * 6 + 4 + j * 1) f (4 + j) ((u.n f).setBlk j (unusedM u)) hu hf (by omega) (setBlk_cells hj2) H ?_ (ho := by omega); clear H; (try clear w); intro w H) | refine Go4 H ?_ | (refine Gs4 H ?_; clear H; (try clear w); intro w H) | (refine Gn H ?_; clear H; (try clear w); intro _ w H))
 exact ⟨agr, 2 - (j + 1), by omega, _, ⟨j + 1, _, rfl, by omega, rfl, rfl, TR.ok_set hu _ _, hg1⟩, H⟩
end
theorem ok_poke {t : TR} (h : t.Ok) {f p : Nat} {c : UInt8} (hb : 0 < (t.n f).blk (p / 40) ∧ (t.n f).blk (p / 40) ≤ 8) : (pokeM t f p c).Ok :=
 TR.ok_setB h _ (by rw [List.length_set, TR.b_len h (by omega)])
section
variable {n : Nat} {ops : Array Oper} {Q : Post} {rest : List Oper} {e : Env} {w : World} {s : Ro} {rs R : List Asn} {tt : Nat} {pp : String} {af : Array Edge} {g : Option (Nat × Bool)} {d : Nat}
variable {p q : Str} {b : Nat} {t : TR}
theorem write_t {l : Str} {a : Option Addr} {c : Nat} {at_ quota : Int} (H : Holds s w R) (ht : t.Ok) (h : SlS s (.slice a l.length c) 1 l.length (u8s l)) (hl : l.length ≤ 140737488355328) : Calls Tryz.prog 47 #[.agg t.cells.toArray, .string ⟨p.toArray⟩, .int .i64 at_, .slice a l.length c, .int .i64 quota] w fun e w' => e = .returned (.tuple #[.agg (writeM t p at_ l quota).1.cells.toArray, .int .i64 (writeM t p at_ l quota).2]) ∧ Holds s w' R := by
 have hz := TR.ok_zero
 refine enter Tryz.func47 rfl Tryz.ntmps47 rfl ?_
 repeat' (first | refine Go4 H ?_ | (refine Gs4 H ?_; clear H; (try clear w); intro w H) | (refine Gn H ?_; clear H; (try clear w); (first | ((fail_if_success (have := bl1)); intro bl1 w H) | intro _ w H)))
 have hC := Check_s H ht
 by_cases hchk : checkM t = true
 rotate_left
 ·have em : writeM t p at_ l quota = (TR.zero, 3) := by rw [writeM, if_pos (by simpa using hchk)]
  rw [show checkM t = false by simpa using hchk] at hC
  (refine X.call (hC) ?_; (try clear H); rintro _ w ⟨rfl, H⟩; refine ⟨_, rfl, ?_⟩)
  clear hC
  (refine Gq4 H ?_; clear H; (try clear w); intro w H)
  exact ⟨_, resVT (cs := TR.zero.cells) H rfl rfl inferInstance (TR.cells_len hz), by rw [em]; rfl, H.tail.tail⟩
 rw [hchk] at hC
 (refine X.call (hC) ?_; (try clear H); rintro _ w ⟨rfl, H⟩; refine ⟨_, rfl, ?_⟩)
 clear hC
 refine Gq4 H ?_
 replace H : Holds _ _ (var bl1 41 _ :: _) := tp H
 (refine X.call (kindOf_s (p := p) (k := 2) H ht) ?_; (try clear H); rintro _ w ⟨rfl, H⟩; refine ⟨_, rfl, ?_⟩)
 have em : writeM t p at_ l quota = if (kindOfM t p 2).2 ≠ 0 then (TR.zero, (kindOfM t p 2).2) else if at_ < 0 then (TR.zero, 4) else
   if at_ > 80 - (l.length : Int) then (TR.zero, 5) else if l.length = 0 then (t, 0) else
   match growM t (kindOfM t p 2).1.toNat (most (t.n (kindOfM t p 2).1.toNat).size (at_ + l.length)) quota with
   | none => (TR.zero, 5)
   | some u => (pokesM u (kindOfM t p 2).1.toNat at_.toNat l, 0) := by
  rw [writeM, if_neg (by simp [hchk])]
  rfl
 by_cases hk : (kindOfM t p 2).2 = 0
 rotate_left
 ·rw [if_pos hk] at em
  (refine Gq4 H ?_; clear H; (try clear w); intro w H)
  exact ⟨_, resVT (cs := TR.zero.cells) H rfl rfl inferInstance (TR.cells_len hz), by rw [em]; rfl, H.tail.tail⟩
 rw [if_neg (by simp [hk])] at em
 obtain ⟨f, hf, hkf, hkd, hfd⟩ := kindOfM_range hk
 rw [hkf] at em ⊢
 clear hkf hk
 by_cases hat : at_ < 0
 ·rw [if_pos hat] at em
  (refine Gq4 H ?_; clear H; (try clear w); intro w H)
  exact ⟨_, resVT (cs := TR.zero.cells) H rfl rfl inferInstance (TR.cells_len hz), by rw [em]; rfl, H.tail.tail⟩
 rw [if_neg hat] at em
 obtain ⟨o, rfl⟩ : ∃ o : Nat, at_ = o := ⟨at_.toNat, by omega⟩
 by_cases hfu : (o : Int) > 80 - (l.length : Int)
 ·rw [if_pos hfu] at em
  (refine Gq4 H ?_; clear H; (try clear w); intro w H)
  exact ⟨_, resVT (cs := TR.zero.cells) H rfl rfl inferInstance (TR.cells_len hz), by rw [em]; rfl, H.tail.tail⟩
 rw [if_neg hfu] at em
 by_cases hl0 : l.length = 0
 ·rw [if_pos hl0] at em
  (refine Gq4 H ?_; clear H; (try clear w); intro w H)
  exact ⟨_, resVT (cs := t.cells) H rfl rfl inferInstance (TR.cells_len ht), by rw [em]; rfl, H.tail.tail⟩
 rw [if_neg hl0] at em
 have c3 := TR.cell ht hf 3 _ rfl
 have hbk := bksJ_iff.2 (bks_of hchk hf)
 repeat' (first | (refine K.iaA (i := f) rfl rfl rfl rfl rfl hf ?_) | (refine X.max (most (t.n f).size ((o : Int) + (l.length : Int))) ?_ rfl) | refine Go4 H ?_ | (refine Gs4 H ?_; clear H; (try clear w); intro w H) | (refine Gn H ?_; clear H; (try clear w); (first | ((fail_if_success (have := bl1)); intro bl1 w H) | intro _ w H)))
 have hG := grow_s (f := f) (size := most (t.n f).size ((o : Int) + (l.length : Int))) (quota := quota) H ht hf
 have em2 : writeM t p (o : Int) l quota = match growM t f (most (t.n f).size ((o : Int) + l.length)) quota with
   | none => (TR.zero, 5)
   | some u => (pokesM u f o l, 0) := em
 clear em
 cases hgr : growM t f (most (t.n f).size ((o : Int) + (l.length : Int))) quota with
 | none =>
  rw [hgr] at hG em2
  (refine X.call (hG) ?_; (try clear H); rintro _ w ⟨rfl, u, H⟩; refine ⟨_, rfl, ?_⟩)
  clear hG
  (refine Gq4 H ?_; clear H; (try clear w); intro w H)
  exact ⟨_, resVT (cs := TR.zero.cells) H rfl rfl inferInstance (TR.cells_len hz), by rw [em2]; rfl, H.tail.tail⟩
 | some u =>
  rw [hgr] at hG em2
  (refine X.call (hG) ?_; (try clear H); rintro _ w ⟨rfl, H⟩; refine ⟨_, rfl, ?_⟩)
  clear hG
  obtain ⟨hu, hub, hus, hun⟩ := growM_facts ht hf hbk hgr
  have hsz : (o : Int) + (l.length : Int) ≤ (u.n f).size := by rw [hus]; unfold most; split <;> omega
  refine Gq4 H ?_
  refine C.loopR H [14, 15, 16, 60, 61, 62, 63, 64, 65, 66, 67, 68, 69, 70, 71, 72, 73, 74, 75, 76, 77, 78, 79, 80, 81, 82, 83] [60] rfl (fun m vs A => ∃ i : Nat, m = l.length - i ∧ i ≤ l.length ∧ vs = [.int .i64 (i : Int)] ∧ A = var bl1 41 (pokesM u f o (l.take i)).cells ∧ (pokesM u f o (l.take i)).Ok) l.length ⟨0, rfl, Nat.zero_le _, rfl, rfl, hu⟩ ?_
  clear H
  rintro m vs hv w A ⟨i, rfl, hi, rfl, rfl, hk⟩ H
  by_cases hlt : i < l.length
  rotate_left
  ·obtain rfl : i = l.length := by omega
   rw [List.take_length] at H hk
   (refine Gq4 H ?_; clear H; (try clear w); intro w H)
   exact ⟨_, resVT (cs := (pokesM u f o l).cells) H rfl rfl inferInstance (TR.cells_len hk), by rw [em2]; rfl, H.tail.tail⟩
  obtain ⟨g, o', c', hv', _, _, hp⟩ := elemS1 h (by omega)
  cases hv'
  have pn : Pin s g (o' + i * 1) (.int .u8 (l[i].toNat : Int)) := by rw [Nat.mul_one]; exact hp i hlt
  have hnf : (pokesM u f o (l.take i)).n f = u.n f := pokes_n
  have hst : pokesM u f o (l.take (i + 1)) = pokeM (pokesM u f o (l.take i)) f (o + i) l[i] := by
   rw [List.take_succ_eq_append_getElem hlt, pokes_snoc, List.length_take, Nat.min_eq_left (by omega)]
  generalize pokesM u f o (l.take i) = v at *
  generalize l[i] = x at *
  have hj2 : (o + i) / 40 < 2 := by omega
  have hbc := blk_cell hk hf hj2
  have hbj : 0 < (v.n f).blk ((o + i) / 40) ∧ (v.n f).blk ((o + i) / 40) ≤ 8 := by
   rw [hnf]
   have h1 := hub _ hj2
   have h2 := hun _ hj2 (by rw [← hus]; have := Nat.div_mul_le_self (o + i) 40; omega)
   omega
  have hpk := ok_poke hk (c := x) hbj
  have hq : (v.n f).blk ((o + i) / 40) - 1 = (((v.n f).blk ((o + i) / 40) - 1).toNat : Int) := by omega
  have hq8 : ((v.n f).blk ((o + i) / 40) - 1).toNat < 8 := by omega
  obtain ⟨y, hy⟩ : ∃ y, y = (o + i) % 40 := ⟨_, rfl⟩
  have hm40 : y < 40 := by rw [hy]; exact Nat.mod_lt _ (by omega)
  repeat' (first | (refine X.quoI (o + i) 40 rfl (by decide) (by omega) ?_) | (refine X.remI (o + i) 40 y rfl (by decide) hy.symm ?_) | (refine K.iaA (i := f) rfl rfl rfl rfl rfl hf ?_) | (refine K.iaA (i := (o + i) / 40) rfl rfl rfl rfl rfl hj2 ?_) | (refine K.iaA (i := y) rfl rfl rfl rfl rfl hm40 ?_) | (refine K.iaA (i := ((v.n f).blk ((o + i) / 40) - 1).toNat) rfl rfl rfl rfl hq hq8 ?_) | (refine X.stY ((v.n f).blk ((o + i) / 40) - 1).toNat y x hk hq8 hm40 H ?_; clear H; (try clear w); intro w H) | refine Go4 H ?_ | (refine Gs4 H ?_; clear H; (try clear w); intro w H) | (refine Gn H ?_; clear H; (try clear w); (first | ((fail_if_success (have := bl1)); intro bl1 w H) | intro _ w H)))
  exact ⟨agr, l.length - (i + 1), by omega, _, ⟨i + 1, rfl, by omega, rfl, rfl, by rw [hst]; exact hpk⟩, by subst hy; rw [hst]; exact H⟩
end
theorem ok_pokes {f : Nat} : ∀ {l : Str} {u : TR} {p : Nat}, u.Ok → (∀ k : Nat, p ≤ k → k < p + l.length → 0 < (u.n f).blk (k / 40) ∧ (u.n f).blk (k / 40) ≤ 8) → (pokesM u f p l).Ok
 | [], u, p, hu, _ => hu
 | c :: l, u, p, hu, hb => by
  rw [pokesM]
  refine ok_pokes (ok_poke hu (hb p (Nat.le_refl _) (by simp))) (fun k h1 h2 => ?_)
  have : (pokeM u f p c).n f = u.n f := rfl
  rw [this]
  exact hb k (by omega) (by simp only [List.length_cons]; omega)
theorem ok_make {t : TR} (ht : t.Ok) {p : Str} {k : Int} : (makeM t p k).1.Ok := by
 unfold makeM
 repeat' split
 all_goals first | exact TR.ok_zero | exact TR.ok_set ht _ _
theorem ok_remove {t : TR} (ht : t.Ok) {p : Str} : (removeM t p).1.Ok := by
 unfold removeM
 repeat' split
 all_goals first | exact TR.ok_zero | exact TR.ok_set (ok_empty ht) _ _
theorem ok_cut {t : TR} (ht : t.Ok) {p : Str} : (cutM t p).1.Ok := by
 unfold cutM
 repeat' split
 all_goals first | exact TR.ok_zero | exact ok_empty ht
theorem ok_move {t : TR} (ht : t.Ok) {p q : Str} : (moveM t p q).1.Ok := by
 unfold moveM
 repeat' split
 all_goals first | exact TR.ok_zero | exact TR.ok_set ht _ _
theorem ok_write {t : TR} (ht : t.Ok) {p : Str} {a : Int} {l : Str} {qu : Int} : (writeM t p a l qu).1.Ok := by
 unfold writeM
 split
 ·exact TR.ok_zero
 rename_i hchk
 split
 ·exact TR.ok_zero
 rename_i hk
 split
 ·exact TR.ok_zero
 split
 ·exact TR.ok_zero
 split
 ·exact ht
 obtain ⟨f, hf, hkf, hkd, hfd⟩ := kindOfM_range (by simpa using hk : (kindOfM t p 2).2 = 0)
 rw [hkf]
 split
 ·exact TR.ok_zero
 ·rename_i u hg
  have hg' : growM t f (most (t.n f).size (a + l.length)) qu = some u := hg
  obtain ⟨hu, hub, hus, hun⟩ := growM_facts ht hf (bksJ_iff.2 (bks_of (by simpa using hchk) hf)) hg'
  refine ok_pokes hu (fun k h1 h2 => ?_)
  have hj2 : k / 40 < 2 := by omega
  have hlt : ((k / 40 : Nat) : Int) * 40 < most (t.n f).size (a + l.length) := by
   have := Nat.div_mul_le_self k 40
   unfold most
   split <;> omega
  have := hub _ hj2
  have h3 := hun _ hj2 hlt
  have h4 : (u.n ((f : Int).toNat)) = u.n f := rfl
  show 0 < (u.n f).blk (k / 40) ∧ (u.n f).blk (k / 40) ≤ 8
  omega
def clAt (t : TR) (p : Nat) : Int × Int := if p % 2 = 0 then ((t.n (p / 2)).b0, least (t.n (p / 2)).size 40) else ((t.n (p / 2)).b1, least ((t.n (p / 2)).size - 40) 40)
abbrev Marks := List (Option Int)
def markL : List (Int × Int) → Marks → Option Marks
 | [], m => some m
 | c :: r, m => (mark m c.1 c.2).bind (markL r)
theorem markL_app : ∀ {a b : List (Int × Int)} {m : Marks}, markL (a ++ b) m = (markL a m).bind (markL b)
 | [], b, m => rfl
 | c :: a, b, m => by
  rw [List.cons_append, markL, markL]
  cases mark m c.1 c.2 with
  | none => rfl
  | some m' => exact markL_app
theorem marks_eq {t : TR} {i : Nat} {m : Marks} : marks (t.n i) m = markL [clAt t (2 * i), clAt t (2 * i + 1)] m := by
 have e1 : clAt t (2 * i) = ((t.n i).b0, least (t.n i).size 40) := by
  unfold clAt; rw [if_pos (by omega), show 2 * i / 2 = i by omega]
 have e2 : clAt t (2 * i + 1) = ((t.n i).b1, least ((t.n i).size - 40) 40) := by
  unfold clAt; rw [if_neg (by omega), show (2 * i + 1) / 2 = i by omega]
 rw [e1, e2, marks, markL]
 cases mark m (t.n i).b0 (least (t.n i).size 40) with
 | none => rfl
 | some m' =>
  show mark m' _ _ = markL [_] m'
  rw [markL]
  cases mark m' (t.n i).b1 (least ((t.n i).size - 40) 40) <;> rfl
theorem markFrom_eq {t : TR} : ∀ (f i : Nat) (m : Marks), markFrom t f i m = markL ((List.range' (2 * i) (2 * f)).map (clAt t)) m
 | 0, i, m => rfl
 | f + 1, i, m => by
  rw [markFrom, marks_eq, show 2 * (f + 1) = 2 * f + 1 + 1 by omega, List.range'_succ, List.range'_succ, List.map_cons, List.map_cons]
  rw [show clAt t (2 * i) :: clAt t (2 * i + 1) :: (List.range' (2 * i + 1 + 1) (2 * f)).map (clAt t) = [clAt t (2 * i), clAt t (2 * i + 1)] ++ (List.range' (2 * i + 1 + 1) (2 * f)).map (clAt t) from rfl, markL_app]
  congr 1
  funext m'
  rw [markFrom_eq f (i + 1) m', show 2 * (i + 1) = 2 * i + 1 + 1 by omega]
def got (m : Marks) (k : Nat) : Option Int := m[k]?.getD none
theorem got_set {m : Marks} {k j : Nat} {v : Int} (hj : j < m.length) : got (m.set j (some v)) k = if j = k then some v else got m k := by
 unfold got
 by_cases e : j = k
 ·subst e; rw [if_pos rfl, List.getElem?_set_self hj]; rfl
 ·rw [if_neg e, List.getElem?_set_ne e]
abbrev Bd (c : Int × Int) : Prop := 0 ≤ c.1 ∧ c.1 ≤ 8
theorem markL_some : ∀ {l : List (Int × Int)} {m m' : Marks}, (∀ c ∈ l, Bd c) → m.length = 8 → markL l m = some m' →
  m'.length = 8 ∧ l.Pairwise (fun a b => a.1 ≠ 0 → a.1 ≠ b.1) ∧ (∀ c ∈ l, c.1 ≠ 0 → got m (c.1 - 1).toNat = none) ∧ (∀ c ∈ l, c.1 ≠ 0 → got m' (c.1 - 1).toNat = some c.2) ∧ (∀ k : Nat, (∀ c ∈ l, c.1 ≠ (k : Int) + 1) → got m' k = got m k)
 | [], m, m', _, hm, h => by
  cases h
  exact ⟨hm, List.Pairwise.nil, by simp, by simp, fun _ _ => rfl⟩
 | c :: l, m, m', hb, hm, h => by
  rw [markL] at h
  have hc := hb c (by simp)
  have hbl : ∀ c ∈ l, Bd c := fun x hx => hb x (by simp [hx])
  unfold mark at h
  split at h
  ·rename_i h0
   rw [Option.bind_some] at h
   obtain ⟨a1, a2, a3, a4, a5⟩ := markL_some hbl hm h
   refine ⟨a1, List.Pairwise.cons (fun b _ hn => absurd h0 hn) a2, ?_, ?_, ?_⟩
   ·intro x hx hn
    rcases List.mem_cons.1 hx with rfl | hx
    ·exact absurd h0 hn
    ·exact a3 x hx hn
   ·intro x hx hn
    rcases List.mem_cons.1 hx with rfl | hx
    ·exact absurd h0 hn
    ·exact a4 x hx hn
   ·intro k hk
    exact a5 k (fun x hx => hk x (by simp [hx]))
  ·rename_i h0
   split at h
   ·cases h
   ·rename_i hs
    rw [Option.bind_some] at h
    have hlt : (c.1 - 1).toNat < m.length := by rw [hm]; unfold Bd at hc; omega
    have hgn : got m (c.1 - 1).toNat = none := by
     unfold got
     cases hx : (m[(c.1 - 1).toNat]?.getD none) with
     | none => rfl
     | some v => rw [hx] at hs; exact absurd rfl hs
    obtain ⟨a1, a2, a3, a4, a5⟩ := markL_some hbl (by rw [List.length_set, hm]) h
    have hne : ∀ x ∈ l, x.1 ≠ 0 → c.1 ≠ x.1 := by
     intro x hx hn e
     have := a3 x hx hn
     rw [got_set hlt, if_pos (by rw [e])] at this
     cases this
    refine ⟨a1, List.Pairwise.cons (fun x hx hn e => ?_) a2, ?_, ?_, ?_⟩
    ·exact hne x hx (by rw [← e]; exact hn) e
    ·intro x hx hn
     rcases List.mem_cons.1 hx with rfl | hx
     ·exact hgn
     ·have h3 := a3 x hx hn
      rw [got_set hlt] at h3
      split at h3
      ·cases h3
      ·exact h3
    ·intro x hx hn
     rcases List.mem_cons.1 hx with rfl | hx
     ·rw [a5 (x.1 - 1).toNat (fun y hy e => ?_), got_set hlt, if_pos rfl]
      have hyb := hbl y hy
      unfold Bd at hyb hc
      exact hne y hy (by omega) (by omega)
     ·exact a4 x hx hn
    ·intro k hk
     rw [a5 k (fun x hx => hk x (by simp [hx])), got_set hlt, if_neg]
     have := hk c (by simp)
     unfold Bd at hc
     omega
theorem markL_ok : ∀ {l : List (Int × Int)} {m : Marks}, (∀ c ∈ l, Bd c) → m.length = 8 → l.Pairwise (fun a b => a.1 ≠ 0 → a.1 ≠ b.1) → (∀ c ∈ l, c.1 ≠ 0 → got m (c.1 - 1).toNat = none) → ∃ m', markL l m = some m'
 | [], m, _, _, _, _ => ⟨m, rfl⟩
 | c :: l, m, hb, hm, hp, hn => by
  have hc := hb c (by simp)
  have hbl : ∀ c ∈ l, Bd c := fun x hx => hb x (by simp [hx])
  rw [List.pairwise_cons] at hp
  rw [markL, mark]
  split
  ·exact markL_ok hbl hm hp.2 (fun x hx => hn x (by simp [hx]))
  ·rename_i h0
   have hg := hn c (by simp) h0
   unfold got at hg
   rw [hg, if_neg (by decide), Option.bind_some]
   have hlt : (c.1 - 1).toNat < m.length := by rw [hm]; unfold Bd at hc; omega
   refine markL_ok hbl (by rw [List.length_set, hm]) hp.2 (fun x hx h1 => ?_)
   rw [got_set hlt, if_neg]
   ·exact hn x (by simp [hx]) h1
   ·have hxb := hbl x hx
    have := hp.1 x hx h0
    unfold Bd at hc hxb
    omega
structure BF (t : TR) : Prop where
 one : ∀ p q : Nat, p < 16 → q < 16 → p ≠ q → (clAt t p).1 ≠ 0 → (clAt t p).1 ≠ (clAt t q).1
 nought : ∀ k q : Nat, k < 8 → q < 40 → (∀ p : Nat, p < 16 → (clAt t p).1 = (k : Int) + 1 → (clAt t p).2 ≤ (q : Int)) → (t.b k)[q]? = some 0
theorem markAll_eq {t : TR} : markAll t = markL ((List.range 16).map (clAt t)) (List.replicate 8 none) := by
 rw [markAll, markFrom_eq, List.range_eq_range']
theorem got_rep (k : Nat) : got (List.replicate 8 (none : Option Int)) k = none := by
 unfold got
 cases h : (List.replicate 8 (none : Option Int))[k]? with
 | none => rfl
 | some v => rw [List.eq_of_mem_replicate (List.mem_of_getElem? h)]; rfl
theorem pairs_iff {t : TR} : ((List.range 16).map (clAt t)).Pairwise (fun a b => a.1 ≠ 0 → a.1 ≠ b.1) ↔ ∀ p q : Nat, p < 16 → q < 16 → p ≠ q → (clAt t p).1 ≠ 0 → (clAt t p).1 ≠ (clAt t q).1 := by
 rw [List.pairwise_iff_getElem]
 constructor
 ·intro h p q hp hq hne h0
  rcases Nat.lt_or_ge p q with hlt | hge
  ·have := h p q (by simpa using hp) (by simpa using hq) hlt
   simpa [h0] using this
  ·have := h q p (by simpa using hq) (by simpa using hp) (by omega)
   simp only [List.getElem_map, List.getElem_range] at this
   intro e
   exact this (by rw [← e]; exact h0) e.symm
 ·intro h i j hi hj hij
  simp only [List.getElem_map, List.getElem_range]
  exact h i j (by simpa using hi) (by simpa using hj) (by omega)
theorem blocks_iff {t : TR} (hb : ∀ p, p < 16 → Bd (clAt t p)) : blocksFitM t = true ↔ BF t := by
 have hbl : ∀ c ∈ (List.range 16).map (clAt t), Bd c := by
  intro c hc
  obtain ⟨p, hp, rfl⟩ := List.mem_map.1 hc
  exact hb p (by simpa using hp)
 have hmem : ∀ p, p < 16 → clAt t p ∈ (List.range 16).map (clAt t) := fun p hp => List.mem_map.2 ⟨p, by simpa using hp, rfl⟩
 constructor
 ·intro h
  unfold blocksFitM at h
  cases hm : markAll t with
  | none => rw [hm] at h; cases h
  | some m =>
   rw [hm] at h
   rw [markAll_eq] at hm
   have hcl := of_decide_eq_true h
   obtain ⟨a1, a2, a3, a4, a5⟩ := markL_some hbl (by simp) hm
   refine ⟨pairs_iff.1 a2, fun k q hk hq hp => hcl k hk q hq ?_⟩
   unfold lenOf
   show (got m k).getD 0 ≤ _
   by_cases hx : ∃ p, p < 16 ∧ (clAt t p).1 = (k : Int) + 1
   ·obtain ⟨p, hp16, he⟩ := hx
    have := a4 _ (hmem p hp16) (by omega)
    rw [he, show ((k : Int) + 1 - 1).toNat = k by omega] at this
    rw [this]
    exact hp p hp16 he
   ·rw [a5 k (fun c hc he => ?_), got_rep]
    ·show (0 : Int) ≤ q
     omega
    ·obtain ⟨p, hp16, rfl⟩ := List.mem_map.1 hc
     exact hx ⟨p, by simpa using hp16, he⟩
 ·intro h
  obtain ⟨m, hm⟩ := markL_ok (m := List.replicate 8 none) hbl (by simp) (pairs_iff.2 h.one) (fun c _ _ => got_rep _)
  obtain ⟨a1, a2, a3, a4, a5⟩ := markL_some hbl (by simp) hm
  unfold blocksFitM
  rw [markAll_eq, hm]
  refine decide_eq_true (fun k hk q hq hl => h.nought k q hk hq (fun p hp he => ?_))
  have := a4 _ (hmem p hp) (by omega)
  rw [he, show ((k : Int) + 1 - 1).toNat = k by omega] at this
  unfold lenOf at hl
  change (got m k).getD 0 ≤ _ at hl
  rw [this] at hl
  exact hl
def up (t : TR) (j : Nat) : Nat := (t.n j).parent.toNat
def it (t : TR) : Nat → Nat → Nat
 | 0, j => j
 | f + 1, j => it t f (up t j)
theorem it_zero {t : TR} (h0 : up t 0 = 0) : ∀ f, it t f 0 = 0
 | 0 => rfl
 | f + 1 => by rw [it, h0]; exact it_zero h0 f
theorem it_add {t : TR} : ∀ (a b j : Nat), it t (a + b) j = it t b (it t a j)
 | 0, b, j => by rw [Nat.zero_add]; rfl
 | a + 1, b, j => by rw [show a + 1 + b = (a + b) + 1 by omega, it, it_add a b, it]
theorem it_more {t : TR} (h0 : up t 0 = 0) {f g j : Nat} (h : it t f j = 0) (hg : f ≤ g) : it t g j = 0 := by
 obtain ⟨d, rfl⟩ : ∃ d, g = f + d := ⟨g - f, by omega⟩
 rw [it_add, h, it_zero h0]
theorem it_lt {t : TR} (hu : ∀ j, j < 8 → up t j < 8) : ∀ (f j : Nat), j < 8 → it t f j < 8
 | 0, j, h => h
 | f + 1, j, h => it_lt hu f _ (hu j h)
theorem nodup_le : ∀ (n : Nat) (l : List Nat), l.Nodup → (∀ x ∈ l, x < n) → l.length ≤ n
 | 0, [], _, _ => Nat.le_refl _
 | 0, x :: l, _, h => absurd (h x (by simp)) (by omega)
 | n + 1, l, hn, h => by
  by_cases hm : n ∈ l
  ·have h1 := nodup_le n (l.erase n) (hn.erase n) (fun x hx => by
    have h2 := h x (List.mem_of_mem_erase hx)
    have h3 : x ≠ n := by
     intro e
     subst e
     exact (List.Nodup.not_mem_erase hn) hx
    omega)
   rw [List.length_erase_of_mem hm] at h1
   omega
  ·have h1 := nodup_le n l hn (fun x hx => by
    have h2 := h x hx
    have h3 : x ≠ n := fun e => hm (by rw [← e]; exact hx)
    omega)
   omega
theorem reach {t : TR} (h0 : up t 0 = 0) (hu : ∀ j, j < 8 → up t j < 8) {j : Nat} (hj : j < 8) {F : Nat} (hF : it t F j = 0) : it t 7 j = 0 := by
 apply Classical.byContradiction
 intro hne
 have hnz : ∀ k, k ≤ 7 → it t k j ≠ 0 := fun k hk h => hne (it_more h0 h hk)
 by_cases hp : ∃ a b, a < b ∧ b ≤ 7 ∧ it t a j = it t b j
 ·obtain ⟨a, b, hab, hb7, he⟩ := hp
  have hall : ∀ F, it t F j ≠ 0 := by
   intro F
   induction F using Nat.strongRecOn with
   | _ F ih =>
    by_cases hF7 : F ≤ 7
    ·exact hnz F hF7
    ·have e : it t F j = it t (a + (F - b)) j := by
      rw [it_add, he, ← it_add, show b + (F - b) = F by omega]
     rw [e]
     exact ih _ (by omega)
  exact hall F hF
 ·have hnd : ((List.range 8).map fun k => it t k j).Nodup := by
   unfold List.Nodup
   rw [List.pairwise_iff_getElem]
   intro i k hi hk hik
   simp only [List.getElem_map, List.getElem_range]
   exact fun e => hp ⟨i, k, hik, by simp at hk; omega, e⟩
  have hnd2 : (0 :: (List.range 8).map fun k => it t k j).Nodup := by
   rw [List.nodup_cons]
   refine ⟨fun hm => ?_, hnd⟩
   obtain ⟨k, hk, e⟩ := List.mem_map.1 hm
   exact hnz k (by have := List.mem_range.1 hk; omega) e
  have := nodup_le 8 _ hnd2 (fun x hx => by
   rcases List.mem_cons.1 hx with rfl | hx
   ·omega
   ·obtain ⟨k, _, rfl⟩ := List.mem_map.1 hx
    exact it_lt hu k j hj)
  simp at this
structure Good (t : TR) (i : Nat) : Prop where
 p0 : 0 ≤ (t.n i).parent
 p8 : (t.n i).parent < 8
 dir : (t.n (up t i)).kind = 1
 nm : isNameM (t.n i).name = true
 rt : ∃ f, it t f i = 0
 sh : Shaped (t.n i)
structure WF (t : TR) : Prop where
 ok : t.Ok
 root : t.n 0 = Nd.root
 nd : ∀ i, 1 ≤ i → i < 8 → t.n i = Nd.zero ∨ Good t i
 un : ∀ i j, 1 ≤ i → i < 8 → 1 ≤ j → j < 8 → i ≠ j → t.n i ≠ Nd.zero → t.n j ≠ Nd.zero → ¬ Same (t.n i) (t.n j)
 bf : BF t
theorem up_root {t : TR} (h : t.n 0 = Nd.root) : up t 0 = 0 := by rw [up, h]; rfl
theorem rooted_it {t : TR} (hr : t.n 0 = Nd.root) (hp : ∀ j, j < 8 → 0 ≤ (t.n j).parent ∧ (t.n j).parent < 8) : ∀ (f j : Nat), j < 8 → (rootedFrom t f (j : Int) = true ↔ it t f j = 0)
 | 0, j, hj => by
  rw [rootedFrom, it, decide_eq_true_eq]; omega
 | f + 1, j, hj => by
  rw [rootedFrom, it]
  by_cases h : j = 0
  ·subst h
   rw [if_pos (by simp), up_root hr, it_zero (up_root hr)]
   simp
  ·have := hp j hj
   rw [if_neg (by omega), Int.toNat_natCast, if_neg (by omega)]
   have e : (t.n j).parent = ((up t j : Nat) : Int) := by unfold up; omega
   rw [e]
   exact rooted_it hr hp f (up t j) (by unfold up; omega)
theorem par_of {t : TR} (hr : t.n 0 = Nd.root) (h : ∀ i, 1 ≤ i → i < 8 → t.n i = Nd.zero ∨ (0 ≤ (t.n i).parent ∧ (t.n i).parent < 8)) : ∀ j, j < 8 → 0 ≤ (t.n j).parent ∧ (t.n j).parent < 8 := by
 intro j hj
 by_cases h0 : j = 0
 ·subst h0; rw [hr]; decide
 ·rcases h j (by omega) hj with hz | h
  ·rw [hz]; decide
  ·exact h
theorem bd_of {t : TR} (hb : ∀ i, i < 8 → Bks (t.n i)) : ∀ p, p < 16 → Bd (clAt t p) := by
 intro p hp
 have := hb (p / 2) (by omega)
 unfold Bks at this
 unfold clAt Bd
 split <;> (dsimp only; omega)
theorem bks_shaped {n : Nd} (h : Shaped n) : Bks n := by
 unfold Shaped at h
 unfold Bks
 omega
theorem WF.bks {t : TR} (h : WF t) : ∀ i, i < 8 → Bks (t.n i) := by
 intro i hi
 by_cases h0 : i = 0
 ·subst h0; rw [h.root]; decide
 ·rcases h.nd i (by omega) hi with hz | hg
  ·rw [hz]; decide
  ·exact bks_shaped hg.sh
theorem WF.par {t : TR} (h : WF t) : ∀ j, j < 8 → 0 ≤ (t.n j).parent ∧ (t.n j).parent < 8 := par_of h.root fun i h1 hi => (h.nd i h1 hi).imp id fun g => ⟨g.p0, g.p8⟩
theorem WF.up8 {t : TR} (h : WF t) : ∀ j, j < 8 → up t j < 8 := fun j hj => by have := h.par j hj; unfold up; omega
theorem check_wf {t : TR} (ht : t.Ok) : checkM t = true ↔ WF t := by
 rw [check_iff]
 constructor
 ·rintro ⟨h1, h2, h3⟩
  have hp := par_of h1 fun i hi1 hi => (h2 i hi hi1).imp id fun g => ⟨g.1.1, g.1.2.1⟩
  refine ⟨ht, h1, fun i hi1 hi => (h2 i hi hi1).imp id fun ⟨⟨f1, f2, f3, f4, f5, f6⟩, _⟩ => ⟨f1, f2, f3, f4, ⟨8, (rooted_it h1 hp 8 i hi).1 f5⟩, f6⟩, ?_, ?_⟩
  ·intro i j hi1 hi hj1 hj hne hzi hzj hs
   rcases Nat.lt_or_ge j i with hlt | hge
   ·rcases h2 i hi hi1 with hz | ⟨_, hl⟩
    ·exact hzi hz
    ·exact hl j hlt hj1 hzj ⟨hs.1.symm, hs.2.symm⟩
   ·rcases h2 j hj hj1 with hz | ⟨_, hl⟩
    ·exact hzj hz
    ·exact hl i (by omega) hi1 hzi hs
  ·refine (blocks_iff (bd_of fun i hi => ?_)).1 h3
   by_cases h0 : i = 0
   ·subst h0; rw [h1]; decide
   ·rcases h2 i hi (by omega) with hz | hg
    ·rw [hz]; decide
    ·exact bks_shaped hg.1.2.2.2.2.2
 ·intro h
  refine ⟨h.root, fun i hi hi1 => ?_, (blocks_iff (bd_of h.bks)).2 h.bf⟩
  by_cases hz : t.n i = Nd.zero
  ·exact .inl hz
  ·right
   have hg := (h.nd i hi1 hi).resolve_left hz
   refine ⟨⟨hg.p0, hg.p8, hg.dir, hg.nm, ?_, hg.sh⟩, fun j hj hj1 hzj hs => h.un j i hj1 (by omega) hi1 hi (by omega) hzj hz hs⟩
   obtain ⟨f, hf⟩ := hg.rt
   have h7 := reach (up_root h.root) h.up8 hi hf
   exact (rooted_it h.root h.par 8 i hi).2 (it_more (up_root h.root) h7 (by omega))
end Go.Proofs.YtgilmcpdpggikaaGreatDoor

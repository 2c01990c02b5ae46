/- Squeezed copy of the texts Ub Uc Ud Pa Ue Pb Tr Pd. -/
import Derived.Test.YtgilmcpdpggikaaGreatDoorCOd
import Derived.Test.YtgilmcpdpggikaaGreatDoorCTx3
set_option maxRecDepth 100000
set_option maxHeartbeats 1000000
set_option linter.unusedSimpArgs false
set_option linter.unusedVariables false
namespace Go.Proofs.YtgilmcpdpggikaaGreatDoor
open Go Go.RowKit Go.Own
theorem bytesOf_len {t : TR} {f : Nat} : (bytesOf t f).length = (t.n f).size.toNat := by unfold bytesOf; simp
theorem bytesOf_get {t : TR} {f i : Nat} (h : i < (t.n f).size.toNat) : (bytesOf t f)[i]? = some (peekM t f i) := by
 unfold bytesOf
 simp [h]
theorem behind {t : TR} (h : WF t) {f : Nat} (hf : f < 8) {j q k : Nat} (hj : j < 2) (hq : q < 40) (hk : k < 8) (hb : (t.n f).blk j = (k : Int) + 1) (hl : least ((t.n f).size - 40 * j) 40 ≤ (q : Int)) : (t.b k)[q]? = some 0 := by
 have hc : clAt t (2 * f + j) = ((t.n f).blk j, least ((t.n f).size - 40 * j) 40) := by
  unfold clAt
  rw [show (2 * f + j) / 2 = f by omega, show (2 * f + j) % 2 = j by omega]
  rcases (show j = 0 ∨ j = 1 by omega) with rfl | rfl
  ·rw [if_pos rfl]; simp [Nd.blk]
  ·rw [if_neg (by decide)]; simp [Nd.blk]
 refine h.bf.nought k q hk hq (fun p hp he => ?_)
 by_cases e : p = 2 * f + j
 ·rw [e, hc]; exact hl
 ·exact absurd (by rw [he, hc]; exact hb.symm) (h.bf.one p (2 * f + j) hp (by omega) e (by omega))
theorem blk_ne {t : TR} (h : WF t) {f : Nat} (hf : f < 8) {i j : Nat} (hi : i < 2) (hj : j < 2) (hne : i ≠ j) (h0 : (t.n f).blk i ≠ 0) : (t.n f).blk i ≠ (t.n f).blk j := by
 have hc : ∀ j, j < 2 → (clAt t (2 * f + j)).1 = (t.n f).blk j := by
  intro j hj
  rw [clAt_of, show (2 * f + j) / 2 = f by omega, show (2 * f + j) % 2 = j by omega]
  rfl
 have := h.bf.one (2 * f + i) (2 * f + j) (by omega) (by omega) (by omega) (by rw [hc i hi]; exact h0)
 rw [hc i hi, hc j hj] at this
 exact this
theorem blk_pos {t : TR} (h : WF t) {f : Nat} (hf1 : 1 ≤ f) (hf : f < 8) (hk : (t.n f).kind = 2) {j : Nat} (hj : j < 2) (hs : (j : Int) * 40 < (t.n f).size) : 0 < (t.n f).blk j ∧ (t.n f).blk j ≤ 8 := by
 have hsh := ((h.nd f hf1 hf).resolve_left (kind_nz (by rw [hk]; decide))).sh
 unfold Shaped at hsh
 rcases (show j = 0 ∨ j = 1 by omega) with rfl | rfl
 ·show 0 < (t.n f).b0 ∧ (t.n f).b0 ≤ 8; omega
 ·show 0 < (t.n f).b1 ∧ (t.n f).b1 ≤ 8; omega
theorem write_peek {t u : TR} (h : WF t) {f : Nat} (hf1 : 1 ≤ f) (hf : f < 8) (hk : (t.n f).kind = 2) {size quota : Int} (hg : growM t f size quota = some u) (hs1 : (t.n f).size ≤ size) (hs2 : size ≤ 80) {a : Nat} {l : Str} (hal : (a : Int) + l.length ≤ size) {i : Nat} (hi : (i : Int) < size) :
  peekM (pokesM u f a l) f i = if a ≤ i ∧ i < a + l.length then l[i - a]?.getD 0 else if (i : Int) < (t.n f).size then peekM t f i else 0 := by
 have hw := wf_write h hf1 hf hk hg hs1 hs2 hal
 obtain ⟨x0, x1, G⟩ := grown_of h.ok hf hg
 obtain ⟨hu, hub, hus, hun⟩ := growM_facts h.ok hf (bksJ_iff.2 (h.bks f hf)) hg
 have hnf : u.n f = { t.n f with size := size, b0 := x0, b1 := x1 } := by rw [G.eq, TR.n_set h.ok hf, if_pos rfl]
 have hblk : ∀ k : Nat, (k : Int) < size → 0 < (u.n f).blk (k / 40) ∧ (u.n f).blk (k / 40) ≤ 8 := by
  intro k hk'
  have hj : k / 40 < 2 := by omega
  have b1 := hub _ hj
  have b2 := hun _ hj (by have := Nat.div_mul_le_self k 40; omega)
  omega
 have hwn : (pokesM u f a l).n f = u.n f := pokes_n
 rw [peek_pokes hu (fun k h1 h2 => hblk k (by omega)) (hblk i hi) (fun k h1 h2 hne => by
  have := blk_ne hw hf (i := i / 40) (j := k / 40) (by omega) (by omega) hne (by rw [hwn]; have := hblk i hi; omega)
  rw [hwn] at this
  exact this)]
 split
 ·rfl
 have hubb : ∀ k, u.b k = t.b k := fun k => by rw [G.eq]; rfl
 have hj2 : i / 40 < 2 := by omega
 have hor : (u.n f).blk (i / 40) = (t.n f).blk (i / 40) ∨ ((t.n f).blk (i / 40) = 0 ∧ Fresh t ((u.n f).blk (i / 40))) := by
  rw [hnf]
  rcases (show i / 40 = 0 ∨ i / 40 = 1 by omega) with e | e
  ·rw [e]
   rcases G.a0 with h' | ⟨h1, _, h3⟩
   ·exact .inl h'
   ·exact .inr ⟨h1, h3⟩
  ·rw [e]
   rcases G.a1 with h' | ⟨h1, _, h3, _⟩
   ·exact .inl h'
   ·exact .inr ⟨h1, h3⟩
 have hbi := hblk i hi
 split
 ·rename_i hlt
  have := blk_pos h hf1 hf hk hj2 (by have := Nat.div_mul_le_self i 40; omega)
  rcases hor with e | ⟨e, _⟩
  ·unfold peekM; rw [e, hubb]
  ·omega
 ·rename_i hge
  unfold peekM
  rw [hubb]
  have hm : i % 40 < 40 := Nat.mod_lt _ (by omega)
  have hk8 : ((u.n f).blk (i / 40) - 1).toNat < 8 := by omega
  have hkk : (u.n f).blk (i / 40) = (((u.n f).blk (i / 40) - 1).toNat : Int) + 1 := by omega
  rcases hor with e | ⟨_, hfr⟩
  ·rw [behind h hf hj2 hm hk8 (by rw [← hkk, e]) (by
    have := Nat.div_add_mod i 40
    unfold least
    split <;> omega)]
   rfl
  ·rw [h.bf.nought _ _ hk8 hm (fun p hp he => by
    exfalso
    rw [← hkk] at he
    have := hfr.2.2 (p / 2) (by omega)
    rw [clAt_of] at he
    split at he
    ·exact this.1 he
    ·exact this.2 he)]
   rfl
theorem sum_set : ∀ (l : List Nat) (i x : Nat) (h : i < l.length), (l.set i x).sum + l[i] = l.sum + x
 | a :: l, 0, x, _ => by simp only [List.set_cons_zero, List.sum_cons, List.getElem_cons_zero]; omega
 | a :: l, i + 1, x, h => by
  have := sum_set l i x (by simpa using h)
  simp only [List.set_cons_succ, List.sum_cons, List.getElem_cons_succ]
  omega
theorem used_set {t : TR} (ht : t.Ok) {f : Nat} (hf : f < 8) (x : Nd) : usedN (t.set f x) + (t.n f).nblk = usedN t + x.nblk := by
 have := sum_set (t.nd.map Nd.nblk) f x.nblk (by rw [List.length_map, ht.n8]; exact hf)
 rw [← List.map_set, List.getElem_map, ← TR.n_get ht hf] at this
 exact this
theorem pokes_nd {f : Nat} : ∀ {l : Str} {u : TR} {p : Nat}, (pokesM u f p l).nd = u.nd
 | [], u, p => rfl
 | c :: l, u, p => by rw [pokesM, pokes_nd]; rfl
theorem growJ_used {t v : TR} (ht : t.Ok) {f : Nat} (hf : f < 8) {size quota : Int} {j : Nat} (hj : j < 2) (h : growJ t f size quota j = some v) : v.Ok ∧ ((usedN v : Int) ≤ usedN t ∨ (usedN v : Int) ≤ quota) := by
 unfold growJ at h
 split at h
 ·cases h; exact ⟨ht, .inl (Int.le_refl _)⟩
 ·rename_i hc
  split at h
  ·cases h
  ·rename_i hc2
   cases h
   refine ⟨TR.ok_set ht _ _, .inr ?_⟩
   have h1 := used_set ht hf ((t.n f).setBlk j (unusedM t))
   have h2 : ((t.n f).setBlk j (unusedM t)).nblk ≤ (t.n f).nblk + 1 := by
    unfold Nd.setBlk Nd.nblk
    split <;> dsimp only <;> split <;> split <;> omega
   omega
theorem growM_used {t u : TR} (ht : t.Ok) {f : Nat} (hf : f < 8) {size quota : Int} (h : growM t f size quota = some u) : (usedN u : Int) ≤ usedN t ∨ (usedN u : Int) ≤ quota := by
 rw [growM_eq] at h
 unfold growTo growTo growTo at h
 simp only [Option.bind_some] at h
 cases h0 : growJ t f size quota 0 with
 | none => rw [h0] at h; cases h
 | some a =>
  rw [h0, Option.bind_some] at h
  cases h1 : growJ a f size quota 1 with
  | none => rw [h1] at h; cases h
  | some b =>
   rw [h1, Option.map_some] at h
   cases h
   obtain ⟨a1, a2⟩ := growJ_used ht hf (by omega) h0
   obtain ⟨b1, b2⟩ := growJ_used a1 hf (by omega) h1
   have h3 := used_set b1 hf ⟨(b.n f).kind, (b.n f).parent, (b.n f).name, size, (b.n f).b0, (b.n f).b1⟩
   have h4 : (⟨(b.n f).kind, (b.n f).parent, (b.n f).name, size, (b.n f).b0, (b.n f).b1⟩ : Nd).nblk = (b.n f).nblk := rfl
   change (usedN (b.set f ⟨(b.n f).kind, (b.n f).parent, (b.n f).name, size, (b.n f).b0, (b.n f).b1⟩) : Int) ≤ _ ∨ _
   omega
structure Written (t w : TR) (p : Str) (o : Nat) (l : Str) (quota : Int) : Prop where
 chk : checkM w = true
 rd : (readM w p 0 80).2 = 0
 used : (usedN w : Int) ≤ usedN t ∨ (usedN w : Int) ≤ quota
 len : (readM w p 0 80).1.length = if l.length = 0 ∨ o + l.length < (readM t p 0 80).1.length then (readM t p 0 80).1.length else o + l.length
 byte : ∀ i : Nat, i < (readM w p 0 80).1.length → (readM w p 0 80).1[i]? = some (if o ≤ i ∧ i - o < l.length then l[i - o]?.getD 0 else if i < (readM t p 0 80).1.length then (readM t p 0 80).1[i]?.getD 0 else 0)
theorem file_size {t : TR} (h : WF t) {f : Nat} (hf : f < 8) (hk : (t.n f).kind = 2) : 0 ≤ (t.n f).size ∧ (t.n f).size ≤ 80 := by
 have := ((h.nd f (file_pos h.root hk) hf).resolve_left (kind_nz (by rw [hk]; decide))).sh
 unfold Shaped at this
 omega
theorem written {t : TR} (ht : t.Ok) {p : Str} {a : Int} {l : Str} {qu : Int} (h : (writeM t p a l qu).2 = 0) : ∃ o : Nat, a = o ∧ o ≤ 80 ∧ Written t (writeM t p a l qu).1 p o l qu := by
 have hcw := check_write ht h
 obtain ⟨hc, f, o, hfd, hf, hk, rfl, ho, hcase⟩ := write_ok h
 have hw := (check_wf ht).1 hc
 have hf1 := file_pos hw.root hk
 have hsz := file_size hw hf hk
 have hrt := read_all hc hfd hk hsz.2
 refine ⟨o, rfl, by omega, ?_⟩
 rcases hcase with ⟨hl, e⟩ | ⟨hl, u, hg, e⟩
 ·rw [e]
  refine ⟨hc, by rw [hrt], .inl (Int.le_refl _), by rw [hrt, if_pos (.inl hl)], fun i hi => ?_⟩
  rw [hrt] at hi ⊢
  dsimp only at hi ⊢
  rw [if_neg (by omega), if_pos hi, List.getElem?_eq_getElem hi]
  rfl
 ·rw [e] at hcw ⊢
  have hg' := growM_facts ht hf (bksJ_iff.2 (hw.bks f hf)) hg
  have hmo : most (t.n f).size ((o : Int) + l.length) ≤ 80 := by unfold most; split <;> omega
  obtain ⟨x0, x1, G⟩ := grown_of ht hf hg
  have hsame : SameP t (pokesM u f o l) := fun j => by
   rw [pokes_n, G.eq, TR.n_set ht hf]
   split
   ·rename_i e'; subst e'; exact ⟨rfl, rfl, rfl⟩
   ·exact ⟨rfl, rfl, rfl⟩
  have hfw : findM (pokesM u f o l) p = ((f : Int), 0) := by rw [find_same hsame, hfd]
  have hkw : ((pokesM u f o l).n f).kind = 2 := by rw [(hsame f).2.2, hk]
  have hsw : ((pokesM u f o l).n f).size = most (t.n f).size ((o : Int) + l.length) := by rw [pokes_n]; exact hg'.2.2.1
  have hrw := read_all hcw hfw hkw (by rw [hsw]; exact hmo)
  have hlw : (bytesOf (pokesM u f o l) f).length = (most (t.n f).size ((o : Int) + l.length)).toNat := by rw [bytesOf_len, hsw]
  have hlt : (bytesOf t f).length = (t.n f).size.toNat := bytesOf_len
  refine ⟨hcw, by rw [hrw], ?_, ?_, fun i hi => ?_⟩
  ·have := growM_used ht hf hg
   unfold usedN at this ⊢
   rw [pokes_nd]
   exact this
  ·rw [hrw, hrt]
   dsimp only
   rw [hlw, hlt]
   unfold most
   split <;> split <;> omega
  ·rw [hrw] at hi ⊢
   rw [hrt]
   dsimp only at hi ⊢
   rw [hlw] at hi
   rw [bytesOf_get (by rw [hsw]; exact hi), write_peek hw hf1 hf hk hg (by unfold most; split <;> omega) hmo (by unfold most; split <;> omega) (by omega), hlt]
   by_cases h1 : o ≤ i ∧ i < o + l.length
   ·rw [if_pos h1, if_pos (by omega)]
   ·have e1 : ¬ (o ≤ i ∧ i - o < l.length) := by omega
    rw [if_neg h1, if_neg e1]
    by_cases h2 : (i : Int) < (t.n f).size
    ·rw [if_pos h2, if_pos (by omega), bytesOf_get (by omega)]
     rfl
    ·rw [if_neg h2, if_neg (by omega)]
def joinS : List Str → Str
 | [] => []
 | [x] => x
 | x :: y :: r => x ++ 47 :: joinS (y :: r)
theorem join_parts : ∀ (n : Nat) (s : Str), s.length ≤ n → joinS (parts s) = s
 | n, s, hn => by
  rcases cut_cases s with h | ⟨a, r, ha, rfl⟩
  ·rw [parts_no h]; rfl
  ·rw [parts_app ha]
   cases n with
   | zero => simp at hn
   | succ n =>
    have ih := join_parts n r (by simp at hn; omega)
    cases hp : parts r with
    | nil => exact absurd hp (parts_ne r)
    | cons y m => rw [joinS, ← hp, ih]
abbrev Match (t : TR) (d : Int) (nm : Str) (j : Nat) : Prop := (t.n j).kind ≠ 0 ∧ (t.n j).parent = d ∧ (t.n j).name = nm
theorem child_spec {t : TR} {d : Int} {nm : Str} {c : Nat} (h : childM t d nm = (c : Int)) : 1 ≤ c ∧ c < 8 ∧ Match t d nm c ∧ ∀ j, 1 ≤ j → j < c → ¬ Match t d nm j := by
 have key : ∀ (f i : Nat), childFrom t d nm f i = (c : Int) → i ≤ c ∧ c < i + f ∧ Match t d nm c ∧ ∀ j, i ≤ j → j < c → ¬ Match t d nm j := by
  intro f
  induction f with
  | zero => intro i h; rw [childFrom] at h; omega
  | succ f ih =>
   intro i h
   rw [childFrom] at h
   split at h
   ·rename_i hm
    obtain rfl : i = c := by omega
    exact ⟨Nat.le_refl _, by omega, hm, fun j h1 h2 => by omega⟩
   ·rename_i hm
    obtain ⟨a1, a2, a3, a4⟩ := ih (i + 1) h
    refine ⟨by omega, by omega, a3, fun j h1 h2 => ?_⟩
    by_cases e : j = i
    ·subst e; exact hm
    ·exact a4 j (by omega) h2
 obtain ⟨a1, a2, a3, a4⟩ := key 7 1 h
 exact ⟨a1, by omega, a3, a4⟩
theorem walk_up {t : TR} : ∀ (n : Nat) (l : List Str) (g : Nat), l.length = n → walkM t l ((0 : Nat) : Int) = ((g : Int), 0) → it t n g = 0 ∧ ∀ j, j < n → it t j g ≠ 0
 | 0, l, g, hl, h => by
  obtain rfl := List.length_eq_zero_iff.1 hl
  rw [walkM] at h
  have : g = 0 := by have := (Prod.mk.inj h).1; omega
  exact ⟨this, fun j hj => absurd hj (Nat.not_lt_zero _)⟩
 | n + 1, l, g, hl, h => by
  rcases List.eq_nil_or_concat l with rfl | ⟨l0, nm, rfl⟩
  ·cases hl
  rw [List.concat_eq_append] at h hl
  obtain ⟨d, hd, hw, _, hc⟩ := walk_snoc (by omega) h
  obtain ⟨c1, c8, hm, _⟩ := child_spec hc
  have hup : up t g = d := by
   unfold up
   have : (t.n g).parent = (d : Int) := hm.2.1
   omega
  obtain ⟨i1, i2⟩ := walk_up n l0 d (by simpa using hl) hw
  refine ⟨by rw [it, hup]; exact i1, fun j hj => ?_⟩
  cases j with
  | zero => rw [it]; omega
  | succ j => rw [it, hup]; exact i2 j (by omega)
theorem path_walk {t : TR} : ∀ (f : Nat) (l : List Str) (g : Nat) (s : Str), l.length ≤ f → walkM t l ((0 : Nat) : Int) = ((g : Int), 0) → pathFrom t f (g : Int) s = (l.flatMap fun x => 47 :: x) ++ s
 | 0, l, g, s, hl, h => by
  obtain rfl := List.length_eq_zero_iff.1 (Nat.le_zero.1 hl)
  rfl
 | f + 1, l, g, s, hl, h => by
  rcases List.eq_nil_or_concat l with rfl | ⟨l0, nm, rfl⟩
  ·rw [walkM] at h
   have : g = 0 := by have := (Prod.mk.inj h).1; omega
   subst this
   rw [pathFrom, if_pos (by rfl)]; rfl
  rw [List.concat_eq_append] at h hl ⊢
  obtain ⟨d, hd, hw, _, hc⟩ := walk_snoc (by omega) h
  obtain ⟨c1, c8, hm, _⟩ := child_spec hc
  have h1 : (t.n g).parent = (d : Int) := hm.2.1
  have h2 : (t.n g).name = nm := hm.2.2
  rw [pathFrom, if_neg (by omega), Int.toNat_natCast, h1, h2, path_walk f l0 d _ (by simp at hl; omega) hw, List.flatMap_append, List.append_assoc, List.flatMap_cons, List.flatMap_nil, List.append_nil]
theorem join_flat : ∀ (l : List Str), l ≠ [] → (l.flatMap fun x => (47 : UInt8) :: x) = 47 :: joinS l
 | [], h => absurd rfl h
 | [x], _ => by simp [joinS]
 | x :: y :: l, _ => by
  rw [List.flatMap_cons, join_flat (y :: l) (by simp)]
  simp [joinS]
theorem path_find {t : TR} (hw : WF t) {p : Str} {g : Nat} (hin : isInnerM p = true) (hf : findM t p = ((g : Int), 0)) : pathM t (g : Int) = (p, 0) := by
 have hc : checkM t = true := (check_wf hw.ok).2 hw
 obtain ⟨g1, g8, hk, _⟩ := find_inner hin hf
 obtain ⟨r, rfl, hr, _, hn, _⟩ := inner_names hin
 unfold findM at hf
 have hip : isPathM (47 :: r) = true := by
  unfold isInnerM at hin
  exact (Bool.and_eq_true_iff.1 hin).2
 rw [if_pos hip, hn] at hf
 have hwk : walkM t (parts r) ((0 : Nat) : Int) = ((g : Int), 0) := hf
 obtain ⟨u1, u2⟩ := walk_up _ _ _ rfl hwk
 have h7 : it t 7 g = 0 := by
  have hG := (hw.nd g g1 g8).resolve_left (kind_nz hk)
  obtain ⟨F, hF⟩ := hG.rt
  exact reach (up_root hw.root) (fun j hj => by
   have := par_of hw.root (fun i h1 h8 => (hw.nd i h1 h8).imp id fun g => ⟨g.p0, g.p8⟩) j hj
   unfold up
   omega) g8 hF
 have hl7 : (parts r).length ≤ 8 := by
  apply Classical.byContradiction
  intro hh
  exact u2 7 (by omega) h7
 unfold pathM
 rw [if_neg (by simp [hc]), if_neg (by omega), Int.toNat_natCast, if_neg hk, if_neg (by omega), path_walk 8 _ _ _ hl7 hwk, List.append_nil]
 have hne : parts r ≠ [] := by
  intro e
  have := join_parts r.length r (Nat.le_refl _)
  rw [e] at this
  exact hr this.symm
 rw [join_flat _ hne, join_parts r.length r (Nat.le_refl _)]
section
variable {t : TR} (ht : t.Ok) {p q r : Str} (hr : (readM t p 0 80).2 = 0)
include ht hr
end
theorem used_make {t : TR} (ht : t.Ok) {p : Str} {k : Int} (h : (makeM t p k).2 = 0) : usedN (makeM t p k).1 ≤ usedN t := by
 obtain ⟨_, _, _, i, d, _, _, _, _, _, hi, _, e⟩ := make_ok h
 rw [e]
 have := used_set ht hi ⟨k, (d : Int), (splitM p).2, 0, 0, 0⟩
 have h0 : Nd.nblk ⟨k, (d : Int), (splitM p).2, 0, 0, 0⟩ = 0 := rfl
 omega
theorem used_move {t : TR} (ht : t.Ok) {p q : Str} (h : (moveM t p q).2 = 0) : usedN (moveM t p q).1 ≤ usedN t := by
 obtain ⟨_, _, _, a, d, _, _, ha, _, _, _, _, _, _, e⟩ := move_ok h
 rw [e]
 have := used_set ht ha { t.n a with parent := (d : Int), name := (splitM q).2 }
 have h0 : Nd.nblk { t.n a with parent := (d : Int), name := (splitM q).2 } = (t.n a).nblk := rfl
 omega
theorem used_clr {t : TR} {b : Int} : usedN (clrM t b) = usedN t := by
 unfold clrM
 split <;> rfl
theorem used_empty {t : TR} (ht : t.Ok) {i : Nat} (hi : i < 8) : usedN (emptyM t i) ≤ usedN t := by
 unfold emptyM
 have := used_set (ok_clr (ok_clr ht) : (clrM (clrM t (t.n i).b0) (t.n i).b1).Ok) hi { t.n i with size := 0, b0 := 0, b1 := 0 }
 have h0 : Nd.nblk { t.n i with size := 0, b0 := 0, b1 := 0 } = 0 := rfl
 rw [used_clr, used_clr] at this
 omega
theorem used_cut {t : TR} (ht : t.Ok) {p : Str} (h : (cutM t p).2 = 0) : usedN (cutM t p).1 ≤ usedN t := by
 obtain ⟨_, f, _, hf, _, e⟩ := cut_ok h
 rw [e]
 exact used_empty ht hf
theorem used_remove {t : TR} (ht : t.Ok) {p : Str} (h : (removeM t p).2 = 0) : usedN (removeM t p).1 ≤ usedN t := by
 obtain ⟨_, _, f, _, _, hf, _, e⟩ := remove_ok h
 rw [e]
 have h1 := used_set (ok_empty ht : (emptyM t f).Ok) hf Nd.zero
 have h2 := used_empty ht hf
 have h0 : Nd.nblk Nd.zero = 0 := rfl
 omega
theorem used_write {t : TR} (ht : t.Ok) {p : Str} {a : Int} {l : Str} {qu : Int} (h : (writeM t p a l qu).2 = 0) : (usedN (writeM t p a l qu).1 : Int) ≤ usedN t ∨ (usedN (writeM t p a l qu).1 : Int) ≤ qu := by
 obtain ⟨_, _, _, hW⟩ := written ht h
 exact hW.used
theorem read_len {t : TR} (ht : t.Ok) {p : Str} {a n : Int} (ha : 0 ≤ a) (h80 : a ≤ 80) : 0 ≤ a + ((readM t p a n).1.length : Int) ∧ a + ((readM t p a n).1.length : Int) ≤ 80 := by
 unfold readM
 split
 ·simp; omega
 rename_i hc
 split
 ·simp; omega
 rename_i hk
 split
 ·simp; omega
 rename_i han
 split
 ·simp; omega
 rename_i hsz
 obtain ⟨q, hq, e, hkd, _⟩ := kindOfM_range (t := t) (p := p) (k := 2) (by simpa using hk)
 rw [e] at hsz ⊢
 dsimp only at hsz ⊢
 rw [Int.toNat_natCast] at hsz ⊢
 have hw := (check_wf ht).1 (by simpa using hc)
 have := file_size hw hq hkd
 rw [List.length_map, List.length_range]
 unfold least
 split <;> omega
theorem write_len {t : TR} {p : Str} {a : Int} {l : Str} {qu : Int} (h : (writeM t p a l qu).2 = 0) : 0 ≤ a ∧ a + (l.length : Int) ≤ 80 := by
 unfold writeM at h
 split at h
 ·simp at h
 split at h
 ·rename_i hk; exact absurd h hk
 split at h
 ·simp at h
 split at h
 ·simp at h
 omega
def bytesN (t : TR) (f o i : Nat) : Str := (List.range i).map fun k => peekM t f (o + k)
theorem bytesN_len {t : TR} {f o i : Nat} : (bytesN t f o i).length = i := by simp [bytesN]
theorem bytesN_succ {t : TR} {f o i : Nat} : bytesN t f o (i + 1) = bytesN t f o i ++ [peekM t f (o + i)] := by simp [bytesN, List.range_succ]
theorem bytesN_set {t : TR} {f o i q : Nat} (h : i < q) : (u8s (bytesN t f o i ++ List.replicate (q - i) 0)).set (0 + i * 1) (u8 (peekM t f (o + i))) = u8s (bytesN t f o (i + 1) ++ List.replicate (q - (i + 1)) 0) := by
 have e1 : q - i = (q - (i + 1)) + 1 := by omega
 rw [e1, List.replicate_succ, u8s_app, u8s_app, bytesN_succ, u8s_app, Nat.zero_add, Nat.mul_one, List.set_append_right _ _ (by rw [u8s_len, bytesN_len]; exact Nat.le_refl _), u8s_len, bytesN_len, Nat.sub_self, List.append_assoc]
 rfl
section
variable {w : World} {s : Ro} {R : List Asn} {p : Str} {t : TR}
theorem read_t {at_ n : Int} (H : Holds s w R) (ht : t.Ok) : Calls Tryz.prog 10 #[.agg t.cells.toArray, .string ⟨p.toArray⟩, .int .i64 at_, .int .i64 n] w fun e w' => ∃ aa cc, e = .returned (.tuple #[.slice aa (readM t p at_ n).1.length cc, .int .i64 (readM t p at_ n).2]) ∧ Holds s w' (row 5 1 (.slice aa (readM t p at_ n).1.length cc) (readM t p at_ n).1.length (u8s (readM t p at_ n).1) :: R) := by
 refine enter Tryz.func10 rfl Tryz.ntmps10 rfl ?_
 (refine Gq6 H ?_; clear H; (try clear w); intro bl1 w H)
 have hC := Check_s H ht
 by_cases hchk : checkM t = true
 rotate_left
 ·have em : readM t p at_ n = ([], 3) := by rw [readM, if_pos (by simpa using hchk)]
  rw [show checkM t = false by simpa using hchk] at hC
  (refine X.call (hC) ?_; (try clear H); rintro _ w ⟨rfl, H⟩; refine ⟨_, rfl, ?_⟩)
  clear hC
  refine Gq6 H ?_
  exact ⟨_, resTT rfl, none, 0, by rw [em]; rfl, by rw [em]; exact H.tail.nilRow _ _⟩
 rw [hchk] at hC
 (refine X.call (hC) ?_; (try clear H); rintro _ w ⟨rfl, H⟩; refine ⟨_, rfl, ?_⟩)
 clear hC
 refine Gq6 H ?_
 (refine X.call (kindOf_s (p := p) (k := 2) H ht) ?_; (try clear H); rintro _ w ⟨rfl, H⟩; refine ⟨_, rfl, ?_⟩)
 have em : readM t p at_ n = if (kindOfM t p 2).2 ≠ 0 then ([], (kindOfM t p 2).2) else if at_ < 0 ∨ n < 0 then ([], 4) else
   if (t.n (kindOfM t p 2).1.toNat).size ≤ at_ then ([], 0) else
   ((List.range (least n ((t.n (kindOfM t p 2).1.toNat).size - at_)).toNat).map fun i => peekM t (kindOfM t p 2).1.toNat (at_.toNat + i), 0) := by
  rw [readM, if_neg (by simp [hchk])]
 by_cases hk : (kindOfM t p 2).2 = 0
 rotate_left
 ·rw [if_pos hk] at em
  refine Gq6 H ?_
  exact ⟨_, resTT rfl, none, 0, by rw [em]; rfl, by rw [em]; exact H.tail.nilRow _ _⟩
 rw [if_neg (by simp [hk])] at em
 obtain ⟨f, hf, hkf, hkd, hfd⟩ := kindOfM_range hk
 rw [hkf] at em ⊢
 clear hkf hk
 rw [Int.toNat_natCast] at em
 by_cases hat : at_ < 0
 ·rw [if_pos (.inl hat)] at em
  refine Gq6 H ?_
  exact ⟨_, resTT rfl, none, 0, by rw [em]; rfl, by rw [em]; exact H.tail.nilRow _ _⟩
 by_cases hn0 : n < 0
 ·rw [if_pos (.inr hn0)] at em
  refine Gq6 H ?_
  exact ⟨_, resTT rfl, none, 0, by rw [em]; rfl, by rw [em]; exact H.tail.nilRow _ _⟩
 rw [if_neg (by omega)] at em
 obtain ⟨o, rfl⟩ : ∃ o : Nat, at_ = o := ⟨at_.toNat, by omega⟩
 have hnd := TR.node ht hf
 by_cases hge : (t.n f).size ≤ (o : Int)
 ·rw [if_pos hge] at em
  repeat' (first | (refine K.iaA (i := f) rfl rfl rfl rfl rfl hf ?_) | refine Go6 H ?_ | (refine Gs6 H ?_; clear H; (try clear w); intro w H) | (refine Gn H ?_; clear H; (try clear w); (first | ((fail_if_success (have := bl1)); intro bl1 w H) | ((fail_if_success (have := bl2)); intro bl2 w H) | intro _ w H)))
  exact ⟨_, resTT rfl, none, 0, by rw [em]; rfl, by rw [em]; exact H.tail.tail.nilRow _ _⟩
 rw [if_neg hge] at em
 have hsz := file_size ((check_wf ht).1 hchk) hf hkd
 repeat' (first | (refine K.iaA (i := f) rfl rfl rfl rfl rfl hf ?_) | (refine X.min (least n ((t.n f).size - (o : Int))) ?_ rfl) | refine Go6 H ?_ | (refine Gs6 H ?_; clear H; (try clear w); intro w H) | (refine Gn H ?_; clear H; (try clear w); (first | ((fail_if_success (have := bl1)); intro bl1 w H) | ((fail_if_success (have := bl2)); intro bl2 w H) | intro _ w H)))
 obtain ⟨q, hq⟩ : ∃ q : Nat, least n ((t.n f).size - (o : Int)) = (q : Int) := ⟨(least n ((t.n f).size - (o : Int))).toNat, by unfold least; split <;> omega⟩
 have hq80 : q ≤ 80 ∧ (o : Int) + q ≤ (t.n f).size := by unfold least at hq; split at hq <;> omega
 rw [hq] at em ⊢
 refine K.make (k := q) (m := q) H rfl rfl rfl rfl rfl (Nat.le_refl _) (by omega) (by unfold maxLen; omega) ?_
 clear H
 intro g1 w H
 rw [rep_flat] at H
 have H' : Holds s w (row 5 1 (.slice (some ⟨g1, 0, none⟩) q q) q (u8s (bytesN t f o 0 ++ List.replicate (q - 0) 0)) :: var bl2 36 (t.n f).cells :: var bl1 41 t.cells :: R) := by
  rw [show u8s (bytesN t f o 0 ++ List.replicate (q - 0) 0) = List.replicate q (Value.int .u8 0) by simp [bytesN, u8s, u8]]; exact H
 clear H
 have H := H'
 clear H'
 rw [Int.toNat_natCast, Int.toNat_natCast] at em
 have hbk := bksJ_iff.2 (bks_of hchk hf)
 have hw := (check_wf ht).1 hchk
 have hf1 := file_pos hw.root hkd
 refine Gq6 H ?_
 refine C.loopR H [14, 15, 50, 51, 52, 53, 54, 55, 56, 57, 58, 59, 60, 61, 62, 63, 64, 65, 66, 67, 68, 69, 70, 71] [50] rfl (fun m vs A => ∃ i : Nat, m = q - i ∧ i ≤ q ∧ vs = [.int .i64 (i : Int)] ∧ A = row 5 1 (.slice (some ⟨g1, 0, none⟩) q q) q (u8s (bytesN t f o i ++ List.replicate (q - i) 0))) q ⟨0, rfl, Nat.zero_le _, rfl, rfl⟩ ?_
 clear H
 rintro m vs hv w A ⟨i, rfl, hi, rfl, rfl⟩ H
 by_cases hlt : i < q
 rotate_left
 ·obtain rfl : i = q := by omega
  refine Gq6 H ?_
  have eb : (readM t p (o : Int) n).1 = bytesN t f o i := by rw [em]; rfl
  rw [Nat.sub_self, List.replicate_zero, List.append_nil] at H
  have hl : (bytesN t f o i).length = i := bytesN_len
  refine ⟨_, resTT rfl, some ⟨g1, 0, none⟩, i, ?_, ?_⟩
  ·rw [eb, hl, em]; rfl
  ·rw [eb, hl]
   exact H.drop1.drop1
 have hj2 : (o + i) / 40 < 2 := by omega
 have hbc : (t.n f).cells[4 + (o + i) / 40 * 1]? = some (.int .i64 ((t.n f).blk ((o + i) / 40))) := by
  rcases (show (o + i) / 40 = 0 ∨ (o + i) / 40 = 1 by omega) with e | e <;> rw [e] <;> rfl
 have hp0 := blk_pos hw hf1 hf hkd hj2 (by have := Nat.div_mul_le_self (o + i) 40; omega)
 have hb8 := hbk _ hj2
 have hq' : (t.n f).blk ((o + i) / 40) - 1 = (((t.n f).blk ((o + i) / 40) - 1).toNat : Int) := by omega
 have hq8 : ((t.n f).blk ((o + i) / 40) - 1).toNat < 8 := by omega
 obtain ⟨y, hy⟩ : ∃ y, y = (o + i) % 40 := ⟨_, rfl⟩
 have hm40 : y < 40 := by rw [hy]; exact Nat.mod_lt _ (by omega)
 have hby := TR.byte ht hq8 hm40 (x := peekM t f (o + i)) (by
  unfold peekM
  rw [hy, List.getElem?_eq_getElem (by rw [TR.b_len ht hq8]; exact Nat.mod_lt _ (by omega))]; rfl)
 have hln : 0 + i * 1 < (u8s (bytesN t f o i ++ List.replicate (q - i) 0)).length := by rw [u8s_len, List.length_append, bytesN_len, List.length_replicate]; omega
 have hst := bytesN_set (t := t) (f := f) (o := o) hlt
 generalize peekM t f (o + i) = x at *
 repeat' (first | (refine X.quoI (o + i) 40 rfl (by decide) (by omega) ?_) | (refine X.remI (o + i) 40 y rfl (by decide) hy.symm ?_) | (refine K.iaA (i := (o + i) / 40) rfl rfl rfl rfl rfl hj2 ?_) | (refine K.iaA (i := y) rfl rfl rfl rfl rfl hm40 ?_) | (refine K.iaA (i := ((t.n f).blk ((o + i) / 40) - 1).toNat) rfl rfl rfl rfl hq' hq8 ?_) | (refine X.rst H ?_ (hl := hln); clear H; intro w H) | refine Go6 H ?_ | (refine Gs6 H ?_; clear H; (try clear w); intro w H) | (refine Gn H ?_; clear H; (try clear w); (first | ((fail_if_success (have := bl1)); intro bl1 w H) | ((fail_if_success (have := bl2)); intro bl2 w H) | intro _ w H)))
 replace hst : (u8s (bytesN t f o i ++ List.replicate (q - i) 0)).set (0 + i * 1) (Value.int .u8 (x.toNat : Int)) = _ := hst
 rw [hst] at H
 exact ⟨agr, q - (i + 1), by omega, _, ⟨i + 1, rfl, by omega, rfl, rfl⟩, H⟩
end
structure Hd where
 op : Bool
 node : Int
 at_ : Int
def Hd.cells (h : Hd) : List Value := [.bool h.op, .int .i64 h.node, .int .i64 h.at_]
def Hd.zero : Hd := ⟨false, 0, 0⟩
def Hd.Ok (h : Hd) : Prop := 0 ≤ h.at_ ∧ h.at_ ≤ 80
def HOk (hs : List Hd) : Prop := hs.length = 4 ∧ ∀ h ∈ hs, h.Ok
theorem Hd.cells_len (h : Hd) : h.cells.length = 3 := rfl
theorem Hd.cells_one (h : Hd) : ∀ v ∈ h.cells, v.oneCell' = true := by
 intro v hv
 simp only [Hd.cells, List.mem_cons, List.not_mem_nil, or_false] at hv
 rcases hv with rfl | rfl | rfl <;> rfl
theorem HOk.get {hs : List Hd} (h : HOk hs) {i : Nat} (hi : i < 4) : (hs[i]?.getD Hd.zero).Ok := by
 rw [List.getElem?_eq_getElem (by rw [h.1]; exact hi)]
 exact h.2 _ (List.getElem_mem _)
theorem HOk.set {hs : List Hd} (h : HOk hs) (i : Nat) {x : Hd} (hx : x.Ok) : HOk (hs.set i x) := ⟨by rw [List.length_set, h.1], fun y hy => by
 rcases List.mem_or_eq_of_mem_set hy with hy | rfl
 ·exact h.2 y hy
 ·exact hx⟩
theorem HOk.rep : HOk (List.replicate 4 Hd.zero) := ⟨rfl, fun x hx => by
 rw [List.eq_of_mem_replicate hx]; exact ⟨by decide, by decide⟩⟩
abbrev hd (hs : List Hd) (i : Nat) : Hd := hs[i]?.getD Hd.zero
def fsC (bL : Nat) (t : TR) (q : Int) (hs : List Hd) : List Value := .pointer (some ⟨bL, 0, none⟩) :: (t.cells ++ (.int .i64 q :: hs.flatMap Hd.cells))
abbrev fsV (bF bL : Nat) (t : TR) (q : Int) (hs : List Hd) : Asn := var bF 102 (fsC bL t q hs)
section
variable {bL : Nat} {t u : TR} {q : Int} {hs : List Hd}
theorem hs_len (h : hs.length = 4) : (hs.flatMap Hd.cells).length = 12 := by rw [flatS_len hs (fun x _ => Hd.cells_len x), h]
theorem fsC_len (ht : t.Ok) (h : hs.length = 4) : (fsC bL t q hs).length = 382 := by
 unfold fsC
 rw [List.length_cons, List.length_append, List.length_cons, TR.cells_len ht, hs_len h]
theorem fs_app (ht : t.Ok) : fsC bL t q hs = (.pointer (some ⟨bL, 0, none⟩) :: (t.cells ++ [.int .i64 q])) ++ hs.flatMap Hd.cells := by
 unfold fsC
 simp
theorem fs_pre (ht : t.Ok) : (Value.pointer (some ⟨bL, 0, none⟩) :: (t.cells ++ [.int .i64 q])).length = 370 := by
 rw [List.length_cons, List.length_append, TR.cells_len ht]; rfl
theorem fs_tree (ht : t.Ok) : ((fsC bL t q hs).drop 1).take 368 = t.cells := by
 unfold fsC
 rw [List.drop_succ_cons, List.drop_zero, List.take_left' (TR.cells_len ht)]
theorem fs_put (ht : t.Ok) : (fsC bL t q hs).take 1 ++ u.cells ++ (fsC bL t q hs).drop (1 + 368) = fsC bL u q hs := by
 unfold fsC
 rw [show 1 + 368 = 368 + 1 by rfl, List.drop_succ_cons, List.drop_left' (TR.cells_len ht)]
 simp
theorem fs_q (ht : t.Ok) : (fsC bL t q hs)[369]? = some (.int .i64 q) := by
 unfold fsC
 rw [List.getElem?_cons_succ, List.getElem?_append_right (by rw [TR.cells_len ht]; exact Nat.le_refl _), TR.cells_len ht]
 rfl
theorem hd_get (h : hs.length = 4) {i : Nat} (hi : i < 4) : hd hs i = hs[i]'(by rw [h]; exact hi) := by
 unfold hd
 rw [List.getElem?_eq_getElem (by rw [h]; exact hi)]; rfl
theorem fs_h (ht : t.Ok) (h : hs.length = 4) {i : Nat} (hi : i < 4) {k : Nat} {v : Value} (hk : (hd hs i).cells[k]? = some v) : (fsC bL t q hs)[370 + i * 3 + k]? = some v := by
 have hk3 : k < 3 := by
  rw [← Hd.cells_len (hd hs i)]
  exact (List.getElem?_eq_some_iff.1 hk).1
 rw [fs_app ht, List.getElem?_append_right (by rw [fs_pre ht]; omega), fs_pre ht, show 370 + i * 3 + k - 370 = i * 3 + k by omega, flat_get hs (fun x _ => Hd.cells_len x) i k (by rw [h]; exact hi) hk3, ← hd_get h hi]
 exact hk
theorem fs_hs (ht : t.Ok) (h : hs.length = 4) : ((fsC bL t q hs).drop 370).take 12 = hs.flatMap Hd.cells := by
 rw [fs_app ht, List.drop_left' (fs_pre ht), List.take_of_length_le (by rw [hs_len h]; exact Nat.le_refl _)]
theorem fs_set (ht : t.Ok) (h : hs.length = 4) {i : Nat} (hi : i < 4) {k : Nat} (hk : k < 3) {v : Value} {x : Hd} (hx : x.cells = (hd hs i).cells.set k v) : (fsC bL t q hs).set (370 + i * 3 + k) v = fsC bL t q (hs.set i x) := by
 rw [fs_app ht, fs_app ht, List.set_append_right _ _ (by rw [fs_pre ht]; omega), fs_pre ht, show 370 + i * 3 + k - 370 = i * 3 + k by omega, flatS_set (f := Hd.cells) hs (fun x _ => Hd.cells_len x) i k v x (by rw [h]; exact hi) hk (by rw [hx, hd_get h hi])]
theorem fs_putH (ht : t.Ok) (h : hs.length = 4) {i : Nat} (hi : i < 4) (x : Hd) : (fsC bL t q hs).take (370 + i * 3) ++ x.cells ++ (fsC bL t q hs).drop (370 + i * 3 + 3) = fsC bL t q (hs.set i x) := by
 have e : putL (fsC bL t q hs) (370 + i * 3) x.cells = fsC bL t q (hs.set i x) := by
  rw [fs_app ht, fs_app ht, putL_right (by rw [fs_pre ht]; omega), fs_pre ht, show 370 + i * 3 - 370 = i * 3 + 0 by omega, flatS_put (f := Hd.cells) hs (fun x _ => Hd.cells_len x) i 0 x.cells x (by rw [h]; exact hi) (by rw [Hd.cells_len]; omega) (by simp [putL, Hd.cells])]
 exact e
end
section
variable {n : Nat} {ops : Array Oper} {Q : Post} {rest : List Oper} {e : Env} {w : World} {s : Ro} {rs R : List Asn} {tt : Nat} {pp : String} {af : Array Edge} {g : Option (Nat × Bool)} {d : Nat}
variable {x y : Operand} {b bL : Nat} {tp : TypeId} {t u : TR} {q : Int} {hs : List Hd} {f : List Value → List Asn}
theorem X.ldF (H : Holds s w rs) (h : L Tryz.prog n ops Q rest (upd e d (.agg t.cells.toArray)) w) (hw : wg n ops g e = true := by rfl) (hd : Nat.blt d n = true := by rfl) (hx : ev e x = .pointer (some ⟨b, 1, none⟩) := by rfl) (T : PutV rs b tp (fsC bL t q hs) f := by infer_instance) (ht : t.Ok := by assumption) : L Tryz.prog n ops Q (⟨some d, .load 41 x, tt, pp, af, g⟩ :: rest) e w :=
 X.ldp (k := 368) t.cells H h hw hd hx T (fs_tree ht) (TR.cells_len ht)
theorem X.stF (H : Holds s w rs) (h : ∀ w', Holds s w' (f (fsC bL u q hs)) → L Tryz.prog n ops Q rest e w') (hw : wg n ops g e = true := by rfl) (hx : ev e x = .pointer (some ⟨b, 1, none⟩) := by rfl) (V : PutV rs b tp (fsC bL t q hs) f := by infer_instance) (hy : ev e y = .agg u.cells.toArray := by rfl) (ht : t.Ok := by assumption) (hu : u.Ok := by assumption) (h8 : hs.length = 4 := by assumption) : L Tryz.prog n ops Q (⟨none, .store 41 x y, tt, pp, af, g⟩ :: rest) e w :=
 X.stp (k := 368) (ys := u.cells) (fsC bL u q hs) H h hw hx V hy (fs_put ht) (TR.cells_all hu) (TR.cells_len hu) (by rw [Nat.ble_eq, fsC_len ht h8]; decide)
theorem X.ldFq {ty : TypeId} [OneC Tryz.prog ty] (H : Holds s w rs) (h : L Tryz.prog n ops Q rest (upd e d (.int .i64 q)) w) (hw : wg n ops g e = true := by rfl) (hd : Nat.blt d n = true := by rfl) (hx : ev e x = .pointer (some ⟨b, 369, none⟩) := by rfl) (T : PutV rs b tp (fsC bL t q hs) f := by infer_instance) (ht : t.Ok := by assumption) : L Tryz.prog n ops Q (⟨some d, .load ty x, tt, pp, af, g⟩ :: rest) e w := X.ld H h hw hd hx T (fs_q ht)
theorem X.ldH {ty : TypeId} [OneC Tryz.prog ty] {v : Value} {off : Nat} (i k : Nat) (H : Holds s w rs) (hi : i < 4) (hk : (Go.Proofs.YtgilmcpdpggikaaGreatDoor.hd hs i).cells[k]? = some v) (h : L Tryz.prog n ops Q rest (upd e d v) w) (ho : off = 370 + i * 3 + k := by rfl) (hw : wg n ops g e = true := by rfl) (hd : Nat.blt d n = true := by rfl) (hx : ev e x = .pointer (some ⟨b, off, none⟩) := by rfl) (T : PutV rs b tp (fsC bL t q hs) f := by infer_instance) (ht : t.Ok := by assumption) (h8 : hs.length = 4 := by assumption) : L Tryz.prog n ops Q (⟨some d, .load ty x, tt, pp, af, g⟩ :: rest) e w := by
 subst ho
 exact X.ld H h hw hd hx T (fs_h ht h8 hi hk)
theorem X.stH {ty : TypeId} [OneC Tryz.prog ty] {v : Value} {off : Nat} (i k : Nat) (z : Hd) (H : Holds s w rs) (hi : i < 4) (hk : k < 3) (hz : z.cells = (Go.Proofs.YtgilmcpdpggikaaGreatDoor.hd hs i).cells.set k v) (h : ∀ w', Holds s w' (f (fsC bL t q (hs.set i z))) → L Tryz.prog n ops Q rest e w') (ho : off = 370 + i * 3 + k := by rfl) (hw : wg n ops g e = true := by rfl) (hx : ev e x = .pointer (some ⟨b, off, none⟩) := by rfl) (V : PutV rs b tp (fsC bL t q hs) f := by infer_instance) (hy : ev e y = v := by rfl) (h1 : v.oneCell' = true := by rfl) (ht : t.Ok := by assumption) (h8 : hs.length = 4 := by assumption) : L Tryz.prog n ops Q (⟨none, .store ty x y, tt, pp, af, g⟩ :: rest) e w := by
 obtain ⟨j, hj, hf⟩ := V.ix
 subst ho
 exact K.store j H hw hx hj hy h1 (by rw [Nat.blt_eq, fsC_len ht h8]; omega) (fun w' H' => h w' (by rw [hf, fs_set ht h8 hi hk hz] at H'; exact H'))
theorem X.putH {ty : TypeId} [RowC Tryz.prog ty 3] {off : Nat} (i : Nat) (z : Hd) (H : Holds s w rs) (hi : i < 4) (h : ∀ w', Holds s w' (f (fsC bL t q (hs.set i z))) → L Tryz.prog n ops Q rest e w') (ho : off = 370 + i * 3 := by rfl) (hw : wg n ops g e = true := by rfl) (hx : ev e x = .pointer (some ⟨b, off, none⟩) := by rfl) (V : PutV rs b tp (fsC bL t q hs) f := by infer_instance) (hy : ev e y = .agg z.cells.toArray := by rfl) (ht : t.Ok := by assumption) (h8 : hs.length = 4 := by assumption) : L Tryz.prog n ops Q (⟨none, .store ty x y, tt, pp, af, g⟩ :: rest) e w := by
 subst ho
 exact X.stp (k := 3) (ys := z.cells) (fsC bL t q (hs.set i z)) H h hw hx V hy (fs_putH ht h8 hi z) (List.all_eq_true.2 (Hd.cells_one z)) (Hd.cells_len z) (by rw [Nat.ble_eq, fsC_len ht h8]; omega)
theorem X.ldHs {ty : TypeId} [RowC Tryz.prog ty 12] (H : Holds s w rs) (h : L Tryz.prog n ops Q rest (upd e d (.agg (hs.flatMap Hd.cells).toArray)) w) (hw : wg n ops g e = true := by rfl) (hd : Nat.blt d n = true := by rfl) (hx : ev e x = .pointer (some ⟨b, 370, none⟩) := by rfl) (T : PutV rs b tp (fsC bL t q hs) f := by infer_instance) (ht : t.Ok := by assumption) (h8 : hs.length = 4 := by assumption) : L Tryz.prog n ops Q (⟨some d, .load ty x, tt, pp, af, g⟩ :: rest) e w :=
 X.ldp (k := 12) (hs.flatMap Hd.cells) H h hw hd hx T (fs_hs ht h8) (hs_len h8)
end
end Go.Proofs.YtgilmcpdpggikaaGreatDoor

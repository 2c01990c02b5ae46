/- Trees, plain: Write, whole: what is read behind it, how many blocks there are. Trees, plain: a node's path is its own alone; what is done elsewhere leaves it. Trees, plain: what is done to one path leaves what is read by another. nacelleref17, walked weakly: paths. -/
import Derived.Test.YtlchnabnhimlcaaApTzw
set_option linter.unusedSimpArgs false
set_option linter.unusedVariables false
namespace Go.Proofs.Ytlchnabnhimlcaa
open Go Go.RowKit Go.Own
theorem sum_set : ∀ (l : List Nat) (i x : Nat) (h : i < l.length), (l.set i x).sum + l[i] = l.sum + x
  | a :: l, 0, x, _ => by simp only [List.set_cons_zero, List.sum_cons, List.getElem_cons_zero]; omega
  | a :: l, i + 1, x, h => by
    have := sum_set l i x (by simpa using h)
    simp only [List.set_cons_succ, List.sum_cons, List.getElem_cons_succ]
    omega
theorem used_set {t : TR} (ht : t.Ok) {f : Nat} (hf : f < 8) (x : Nd) : usedN (t.set f x) + (t.n f).nblk = usedN t + x.nblk := by
  have := sum_set (t.nd.map Nd.nblk) f x.nblk (by rw [List.length_map, ht.n8]; exact hf)
  rw [← List.map_set, List.getElem_map, ← TR.n_get ht hf] at this
  exact this
theorem pokes_nd {f : Nat} : ∀ {l : Str} {u : TR} {p : Nat}, (pokesM u f p l).nd = u.nd
  | [], u, p => rfl
  | c :: l, u, p => by rw [pokesM, pokes_nd]; rfl
theorem growJ_used {t v : TR} (ht : t.Ok) {f : Nat} (hf : f < 8) {size quota : Int} {j : Nat} (hj : j < 2) (h : growJ t f size quota j = some v) : v.Ok ∧ ((usedN v : Int) ≤ usedN t ∨ (usedN v : Int) ≤ quota) := by
  unfold growJ at h
  split at h
  · cases h; exact ⟨ht, .inl (Int.le_refl _)⟩
  · rename_i hc
    split at h
    · cases h
    · rename_i hc2
      cases h
      refine ⟨TR.ok_set ht _ _, .inr ?_⟩
      have h1 := used_set ht hf ((t.n f).setBlk j (unusedM t))
      have h2 : ((t.n f).setBlk j (unusedM t)).nblk ≤ (t.n f).nblk + 1 := by
        unfold Nd.setBlk Nd.nblk
        split <;> dsimp only <;> split <;> split <;> omega
      omega
theorem growM_used {t u : TR} (ht : t.Ok) {f : Nat} (hf : f < 8) {size quota : Int} (h : growM t f size quota = some u) : (usedN u : Int) ≤ usedN t ∨ (usedN u : Int) ≤ quota := by
  rw [growM_eq] at h
  unfold growTo growTo growTo at h
  simp only [Option.bind_some] at h
  cases h0 : growJ t f size quota 0 with
  | none => rw [h0] at h; cases h
  | some a =>
    rw [h0, Option.bind_some] at h
    cases h1 : growJ a f size quota 1 with
    | none => rw [h1] at h; cases h
    | some b =>
      rw [h1, Option.map_some] at h
      cases h
      obtain ⟨a1, a2⟩ := growJ_used ht hf (by omega) h0
      obtain ⟨b1, b2⟩ := growJ_used a1 hf (by omega) h1
      have h3 := used_set b1 hf ⟨(b.n f).kind, (b.n f).parent, (b.n f).name, size, (b.n f).b0, (b.n f).b1⟩
      have h4 : (⟨(b.n f).kind, (b.n f).parent, (b.n f).name, size, (b.n f).b0, (b.n f).b1⟩ : Nd).nblk = (b.n f).nblk := rfl
      change (usedN (b.set f ⟨(b.n f).kind, (b.n f).parent, (b.n f).name, size, (b.n f).b0, (b.n f).b1⟩) : Int) ≤ _ ∨ _
      omega
/-- what Write has done, when it answers OK -/
structure Written (t w : TR) (p : Str) (o : Nat) (l : Str) (quota : Int) : Prop where
  chk : checkM w = true
  rd : (readM w p 0 80).2 = 0
  used : (usedN w : Int) ≤ usedN t ∨ (usedN w : Int) ≤ quota
  len : (readM w p 0 80).1.length = if l.length = 0 ∨ o + l.length < (readM t p 0 80).1.length then (readM t p 0 80).1.length else o + l.length
  byte : ∀ i : Nat, i < (readM w p 0 80).1.length → (readM w p 0 80).1[i]? = some (if o ≤ i ∧ i - o < l.length then l[i - o]?.getD 0 else if i < (readM t p 0 80).1.length then (readM t p 0 80).1[i]?.getD 0 else 0)
theorem file_size {t : TR} (h : WF t) {f : Nat} (hf : f < 8) (hk : (t.n f).kind = 2) : 0 ≤ (t.n f).size ∧ (t.n f).size ≤ 80 := by
  have := ((h.nd f (file_pos h.root hk) hf).resolve_left (kind_nz (by rw [hk]; decide))).sh
  unfold Shaped at this
  omega
theorem written {t : TR} (ht : t.Ok) {p : Str} {a : Int} {l : Str} {qu : Int} (h : (writeM t p a l qu).2 = 0) : ∃ o : Nat, a = o ∧ o ≤ 80 ∧ Written t (writeM t p a l qu).1 p o l qu := by
  have hcw := check_write ht h
  obtain ⟨hc, f, o, hfd, hf, hk, rfl, ho, hcase⟩ := write_ok h
  have hw := (check_wf ht).1 hc
  have hf1 := file_pos hw.root hk
  have hsz := file_size hw hf hk
  have hrt := read_all hc hfd hk hsz.2
  refine ⟨o, rfl, by omega, ?_⟩
  rcases hcase with ⟨hl, e⟩ | ⟨hl, u, hg, e⟩
  · rw [e]
    refine ⟨hc, by rw [hrt], .inl (Int.le_refl _), by rw [hrt, if_pos (.inl hl)], fun i hi => ?_⟩
    rw [hrt] at hi ⊢
    dsimp only at hi ⊢
    rw [if_neg (by omega), if_pos hi, List.getElem?_eq_getElem hi]
    rfl
  · rw [e] at hcw ⊢
    have hg' := growM_facts ht hf (bksJ_iff.2 (hw.bks f hf)) hg
    have hmo : most (t.n f).size ((o : Int) + l.length) ≤ 80 := by unfold most; split <;> omega
    obtain ⟨x0, x1, G⟩ := grown_of ht hf hg
    have hsame : SameP t (pokesM u f o l) := fun j => by
      rw [pokes_n, G.eq, TR.n_set ht hf]
      split
      · rename_i e'; subst e'; exact ⟨rfl, rfl, rfl⟩
      · exact ⟨rfl, rfl, rfl⟩
    have hfw : findM (pokesM u f o l) p = ((f : Int), 0) := by rw [find_same hsame, hfd]
    have hkw : ((pokesM u f o l).n f).kind = 2 := by rw [(hsame f).2.2, hk]
    have hsw : ((pokesM u f o l).n f).size = most (t.n f).size ((o : Int) + l.length) := by rw [pokes_n]; exact hg'.2.2.1
    have hrw := read_all hcw hfw hkw (by rw [hsw]; exact hmo)
    have hlw : (bytesOf (pokesM u f o l) f).length = (most (t.n f).size ((o : Int) + l.length)).toNat := by rw [bytesOf_len, hsw]
    have hlt : (bytesOf t f).length = (t.n f).size.toNat := bytesOf_len
    refine ⟨hcw, by rw [hrw], ?_, ?_, fun i hi => ?_⟩
    · have := growM_used ht hf hg
      unfold usedN at this ⊢
      rw [pokes_nd]
      exact this
    · rw [hrw, hrt]
      dsimp only
      rw [hlw, hlt]
      unfold most
      split <;> split <;> omega
    · rw [hrw] at hi ⊢
      rw [hrt]
      dsimp only at hi ⊢
      rw [hlw] at hi
      rw [bytesOf_get (by rw [hsw]; exact hi), write_peek hw hf1 hf hk hg (by unfold most; split <;> omega) hmo (by unfold most; split <;> omega) (by omega), hlt]
      by_cases h1 : o ≤ i ∧ i < o + l.length
      · rw [if_pos h1, if_pos (by omega)]
      · have e1 : ¬ (o ≤ i ∧ i - o < l.length) := by omega
        rw [if_neg h1, if_neg e1]
        by_cases h2 : (i : Int) < (t.n f).size
        · rw [if_pos h2, if_pos (by omega), bytesOf_get (by omega)]
          rfl
        · rw [if_neg h2, if_neg (by omega)]
end Go.Proofs.Ytlchnabnhimlcaa
set_option linter.unusedSimpArgs false
set_option linter.unusedVariables false
namespace Go.Proofs.Ytlchnabnhimlcaa
open Go Go.RowKit Go.Own
def joinS : List Str → Str
  | [] => []
  | [x] => x
  | x :: y :: r => x ++ 47 :: joinS (y :: r)
theorem join_app : ∀ {a m : List Str}, a ≠ [] → m ≠ [] → joinS (a ++ m) = joinS a ++ 47 :: joinS m
  | [], _, h, _ => absurd rfl h
  | [x], [], _, h => absurd rfl h
  | [x], y :: m, _, _ => rfl
  | x :: y :: a, m, _, h => by
    rw [List.cons_append, List.cons_append, joinS, joinS, List.append_assoc, List.cons_append, ← join_app (a := y :: a) (by simp) h, List.cons_append]
theorem join_parts : ∀ (n : Nat) (s : Str), s.length ≤ n → joinS (parts s) = s
  | n, s, hn => by
    rcases cut_cases s with h | ⟨a, r, ha, rfl⟩
    · rw [parts_no h]; rfl
    · rw [parts_app ha]
      cases n with
      | zero => simp at hn
      | succ n =>
        have ih := join_parts n r (by simp at hn; omega)
        cases hp : parts r with
        | nil => exact absurd hp (parts_ne r)
        | cons y m => rw [joinS, ← hp, ih]
/-- does a path lie within another one's? -/
def underP (p d : Str) : Prop := d.length < p.length ∧ p.take d.length = d ∧ p[d.length]? = some 47
theorem names_inj {p q : Str} (hp : isInnerM p = true) (hq : isInnerM q = true) {m : List Str} (h : namesM p = namesM q ++ m) : p = q ∨ underP p q := by
  obtain ⟨r, rfl, _, _, e1, _⟩ := inner_names hp
  obtain ⟨r', rfl, _, _, e2, _⟩ := inner_names hq
  rw [e1, e2] at h
  have j1 := join_parts r.length r (Nat.le_refl _)
  have j2 := join_parts r'.length r' (Nat.le_refl _)
  by_cases hm : m = []
  · subst hm
    rw [List.append_nil] at h
    left
    rw [← j1, ← j2, h]
  · right
    rw [h, join_app (parts_ne r') hm, j2] at j1
    rw [← j1]
    refine ⟨by simp, by simp [List.take_append], by simp⟩
abbrev Match (t : TR) (d : Int) (nm : Str) (j : Nat) : Prop := (t.n j).kind ≠ 0 ∧ (t.n j).parent = d ∧ (t.n j).name = nm
theorem child_spec {t : TR} {d : Int} {nm : Str} {c : Nat} (h : childM t d nm = (c : Int)) : 1 ≤ c ∧ c < 8 ∧ Match t d nm c ∧ ∀ j, 1 ≤ j → j < c → ¬ Match t d nm j := by
  have key : ∀ (f i : Nat), childFrom t d nm f i = (c : Int) → i ≤ c ∧ c < i + f ∧ Match t d nm c ∧ ∀ j, i ≤ j → j < c → ¬ Match t d nm j := by
    intro f
    induction f with
    | zero => intro i h; rw [childFrom] at h; omega
    | succ f ih =>
      intro i h
      rw [childFrom] at h
      split at h
      · rename_i hm
        obtain rfl : i = c := by omega
        exact ⟨Nat.le_refl _, by omega, hm, fun j h1 h2 => by omega⟩
      · rename_i hm
        obtain ⟨a1, a2, a3, a4⟩ := ih (i + 1) h
        refine ⟨by omega, by omega, a3, fun j h1 h2 => ?_⟩
        by_cases e : j = i
        · subst e; exact hm
        · exact a4 j (by omega) h2
  obtain ⟨a1, a2, a3, a4⟩ := key 7 1 h
  exact ⟨a1, by omega, a3, a4⟩
theorem child_of {t : TR} {d : Int} {nm : Str} {c : Nat} (h1 : 1 ≤ c) (h8 : c < 8) (hm : Match t d nm c) (hn : ∀ j, 1 ≤ j → j < c → ¬ Match t d nm j) : childM t d nm = (c : Int) := by
  have key : ∀ (f i : Nat), i ≤ c → c < i + f → 1 ≤ i → childFrom t d nm f i = (c : Int) := by
    intro f
    induction f with
    | zero => intro i h1 h2; omega
    | succ f ih =>
      intro i h1 h2 h3
      rw [childFrom]
      by_cases e : i = c
      · subst e; rw [if_pos hm]
      · rw [if_neg (hn i h3 (by omega))]
        exact ih (i + 1) (by omega) (by omega) (by omega)
  exact key 7 1 h1 (by omega) (by omega)
theorem walk_keep {t t' : TR} {S : Nat → Prop} (hk : ∀ d, d < 8 → ¬ S d → (t'.n d).kind = (t.n d).kind) (hc : ∀ (d : Nat) (nm : Str) (c : Nat), childM t (d : Int) nm = (c : Int) → ¬ S c → childM t' (d : Int) nm = (c : Int)) : ∀ (l : List Str) (a g : Nat), a < 8 → walkM t l a = ((g : Int), 0) → (∀ (l1 : List Str) (c : Nat), l1 <+: l → walkM t l1 a = ((c : Int), 0) → ¬ S c) → walkM t' l a = ((g : Int), 0)
  | [], a, g, _, h, _ => h
  | nm :: l, a, g, ha, h, hp => by
    have hsa := hp [] a (List.nil_prefix) rfl
    rw [walkM] at h ⊢
    rw [Int.toNat_natCast] at h ⊢
    rw [hk a ha hsa]
    split at h
    · cases h
    rename_i h1
    rw [if_neg h1]
    split at h
    · cases h
    rename_i h2
    rcases childM_range (t := t) (d := (a : Int)) (nm := nm) with hn | ⟨c, hc8, hc1, hce, _⟩
    · exact absurd hn h2
    · have hw1 : walkM t [nm] a = ((c : Int), 0) := by
        rw [walkM, Int.toNat_natCast, if_neg h1, if_neg h2, walkM, hce]
      have hsc := hp [nm] c (by simp) hw1
      rw [hc a nm c hce hsc, if_neg (by omega)]
      rw [hce] at h
      refine walk_keep hk hc l c g hc8 h (fun l1 x hl1 hw => hp (nm :: l1) x (by rw [List.cons_prefix_cons]; exact ⟨rfl, hl1⟩) ?_)
      rw [walkM, Int.toNat_natCast, if_neg h1, if_neg h2, hce]
      exact hw
theorem walk_uniq {t : TR} : ∀ (n : Nat) (l l' : List Str) (g : Nat), l.length ≤ n → walkM t l ((0 : Nat) : Int) = ((g : Int), 0) → walkM t l' ((0 : Nat) : Int) = ((g : Int), 0) → l = l'
  | n, l, l', g, hn, h, h' => by
    rcases List.eq_nil_or_concat l with rfl | ⟨l0, nm, rfl⟩
    · rw [walkM] at h
      rcases List.eq_nil_or_concat l' with rfl | ⟨l1, nm', rfl⟩
      · rfl
      · rw [List.concat_eq_append] at h'
        obtain ⟨d, hd, _, _, hc⟩ := walk_snoc (by omega) h'
        have := (child_spec hc).1
        have := (Prod.mk.inj h).1
        omega
    · rw [List.concat_eq_append] at h hn ⊢
      obtain ⟨d, hd, hw, _, hc⟩ := walk_snoc (by omega) h
      have hs := child_spec hc
      rcases List.eq_nil_or_concat l' with rfl | ⟨l1, nm', rfl⟩
      · rw [walkM] at h'
        have := (Prod.mk.inj h').1
        omega
      · rw [List.concat_eq_append] at h' ⊢
        obtain ⟨d', hd', hw', _, hc'⟩ := walk_snoc (by omega) h'
        have hs' := child_spec hc'
        obtain rfl : d = d' := by
          have := hs.2.2.1.2.1
          have := hs'.2.2.1.2.1
          omega
        have e2 : nm = nm' := by rw [← hs.2.2.1.2.2, ← hs'.2.2.1.2.2]
        cases n with
        | zero => simp at hn
        | succ n =>
          rw [e2, walk_uniq n l0 l1 d (by simp at hn; omega) hw hw']
/-- who reads through another's path reads within it -/
theorem passes {t : TR} {p q : Str} {f : Nat} (hp : isInnerM p = true) (hq : isInnerM q = true) (hf : findM t q = ((f : Int), 0)) {l1 : List Str} (hl : l1 <+: namesM p) (hw : walkM t l1 ((0 : Nat) : Int) = ((f : Int), 0)) : p = q ∨ underP p q := by
  have hqp : isPathM q = true := by
    unfold isInnerM at hq
    simp only [Bool.and_eq_true] at hq
    exact hq.2
  unfold findM at hf
  rw [if_pos hqp] at hf
  have e := walk_uniq l1.length l1 (namesM q) f (Nat.le_refl _) hw hf
  obtain ⟨m, hm⟩ := hl
  exact names_inj hp hq (m := m) (by rw [← hm, e])
end Go.Proofs.Ytlchnabnhimlcaa
set_option linter.unusedSimpArgs false
set_option linter.unusedVariables false
namespace Go.Proofs.Ytlchnabnhimlcaa
open Go Go.RowKit Go.Own
theorem read_ok {t : TR} {p : Str} (h : (readM t p 0 80).2 = 0) : checkM t = true ∧ ∃ g : Nat, findM t p = ((g : Int), 0) ∧ g < 8 ∧ (t.n g).kind = 2 := by
  unfold readM at h
  by_cases h1 : checkM t = false
  · rw [if_pos h1] at h; cases h
  rw [if_neg h1] at h
  by_cases h2 : (kindOfM t p 2).2 ≠ 0
  · rw [if_pos h2] at h; exact absurd h h2
  obtain ⟨g, hg, hk, hkg, hfg⟩ := kindOf_err h2
  exact ⟨by simpa using h1, g, hfg, hg, hkg⟩
theorem file_inner {t : TR} {p : Str} {g : Nat} (hr : t.n 0 = Nd.root) (hf : findM t p = ((g : Int), 0)) (hk : (t.n g).kind = 2) : isInnerM p = true := by
  have hp : isPathM p = true := by
    unfold findM at hf
    split at hf
    · assumption
    · cases hf
  unfold isInnerM
  rw [hp, Bool.and_true, decide_eq_true_eq]
  intro e
  subst e
  unfold findM at hf
  rw [if_pos hp, show namesM [47] = [] from rfl, walkM] at hf
  have : g = 0 := by have := (Prod.mk.inj hf).1; omega
  subst this
  rw [hr] at hk
  exact absurd hk (by decide)
theorem read_keep {t t' : TR} {p : Str} {g : Nat} (hw : WF t) (hc' : checkM t' = true) (hf : findM t p = ((g : Int), 0)) (hg : g < 8) (hk : (t.n g).kind = 2) (hf' : findM t' p = ((g : Int), 0)) (hn : t'.n g = t.n g) (hb : ∀ (j k q : Nat), j < 2 → k < 8 → q < 40 → (t.n g).blk j = (k : Int) + 1 → (t'.b k)[q]? = (t.b k)[q]?) : readM t' p 0 80 = readM t p 0 80 := by
  have hs := file_size hw hg hk
  have hc : checkM t = true := (check_wf hw.ok).2 hw
  rw [read_all hc hf hk hs.2, read_all hc' hf' (by rw [hn]; exact hk) (by rw [hn]; exact hs.2)]
  congr 1
  unfold bytesOf
  rw [hn]
  refine List.map_congr_left (fun i hi => ?_)
  have hi' := List.mem_range.1 hi
  have hj : i / 40 < 2 := by omega
  have hp := blk_pos hw (file_pos hw.root hk) hg hk hj (by have := Nat.div_mul_le_self i 40; omega)
  unfold peekM
  rw [hn, hb (i / 40) ((t.n g).blk (i / 40) - 1).toNat (i % 40) hj (by omega) (Nat.mod_lt _ (by omega)) (by omega)]
theorem find_walk {t : TR} {p : Str} {g : Nat} (hf : findM t p = ((g : Int), 0)) : isPathM p = true ∧ walkM t (namesM p) ((0 : Nat) : Int) = ((g : Int), 0) := by
  unfold findM at hf
  split at hf
  · rename_i h; exact ⟨h, hf⟩
  · cases hf
theorem find_keep {t t' : TR} {S : Nat → Prop} {p : Str} {g : Nat} (hk : ∀ d, d < 8 → ¬ S d → (t'.n d).kind = (t.n d).kind) (hc : ∀ (d : Nat) (nm : Str) (c : Nat), childM t (d : Int) nm = (c : Int) → ¬ S c → childM t' (d : Int) nm = (c : Int)) (hf : findM t p = ((g : Int), 0)) (hp : ∀ (l1 : List Str) (c : Nat), l1 <+: namesM p → walkM t l1 ((0 : Nat) : Int) = ((c : Int), 0) → ¬ S c) : findM t' p = ((g : Int), 0) := by
  obtain ⟨h1, h2⟩ := find_walk hf
  unfold findM
  rw [if_pos h1]
  exact walk_keep hk hc (namesM p) 0 g (by omega) h2 hp
theorem walk_alive {t : TR} {l : List Str} {c : Nat} (h : walkM t l ((0 : Nat) : Int) = ((c : Int), 0)) : c = 0 ∨ (t.n c).kind ≠ 0 := by
  rcases List.eq_nil_or_concat l with rfl | ⟨l0, nm, rfl⟩
  · rw [walkM] at h
    left
    have := (Prod.mk.inj h).1
    omega
  · rw [List.concat_eq_append] at h
    obtain ⟨d, hd, _, _, hc⟩ := walk_snoc (by omega) h
    exact .inr (child_spec hc).2.2.1.1
theorem not_same {t : TR} {p q : Str} {f g : Nat} (hp : isInnerM p = true) (hq : isInnerM q = true) (h1 : p ≠ q) (h2 : ¬ underP p q) (hg : findM t p = ((g : Int), 0)) (hf : findM t q = ((f : Int), 0)) : g ≠ f := by
  intro e
  subst e
  rcases passes hp hq hf (List.prefix_refl _) (find_walk hg).2 with h | h
  · exact h1 h
  · exact h2 h
theorem blk_apart {t : TR} (h : WF t) {f g i j : Nat} (hf : f < 8) (hg : g < 8) (hi : i < 2) (hj : j < 2) (hne : g ≠ f) (h0 : (t.n g).blk j ≠ 0) : (t.n g).blk j ≠ (t.n f).blk i := by
  have hc : ∀ f j, j < 2 → (clAt t (2 * f + j)).1 = (t.n f).blk j := by
    intro f j hj
    rw [clAt_of, show (2 * f + j) / 2 = f by omega, show (2 * f + j) % 2 = j by omega]
    rfl
  have := h.bf.one (2 * g + j) (2 * f + i) (by omega) (by omega) (by omega) (by rw [hc g j hj]; exact h0)
  rw [hc g j hj, hc f i hi] at this
  exact this
section
variable {t : TR} (ht : t.Ok) {p q r : Str} (hr : (readM t p 0 80).2 = 0)
include ht hr
theorem apart_make {k : Int} (he : (makeM t q k).2 = 0) : readM (makeM t q k).1 p 0 80 = readM t p 0 80 := by
  obtain ⟨hc, g, hf, hg, hk⟩ := read_ok hr
  have hw := (check_wf ht).1 hc
  have hc' := check_make ht he
  obtain ⟨_, _, _, i, d, _, hd, hkd, hch, hi1, hi, hki, e⟩ := make_ok he
  rw [e] at hc' ⊢
  have hn : ∀ j, (t.set i ⟨k, (d : Int), (splitM q).2, 0, 0, 0⟩).n j = if i = j then ⟨k, (d : Int), (splitM q).2, 0, 0, 0⟩ else t.n j := fun j => TR.n_set ht hi _ j
  have hgi : i ≠ g := fun e' => by rw [← e', hki] at hk; exact absurd hk (by decide)
  refine read_keep hw hc' hf hg hk (find_keep (S := fun c => c = i) (fun d' _ hs => ?_) (fun d' nm c hcc hs => ?_) hf (fun l1 c _ hwl hs => ?_)) (by rw [hn, if_neg hgi]) (fun j k q _ _ _ _ => rfl)
  · rw [hn, if_neg (fun e' => hs e'.symm)]
  · obtain ⟨c1, c8, cm, cn⟩ := child_spec hcc
    refine child_of c1 c8 ?_ (fun j h1 h2 hm => ?_)
    · unfold Match at cm ⊢
      rw [hn, if_neg (fun e' => hs e'.symm)]
      exact cm
    · unfold Match at hm
      rw [hn] at hm
      split at hm
      · obtain ⟨_, m1, m2⟩ := hm
        dsimp only at m1 m2
        rw [m1, m2, hcc] at hch
        omega
      · exact cn j h1 h2 hm
  · subst hs
    rcases walk_alive hwl with h | h
    · omega
    · exact h hki
theorem apart_cut (h1 : p ≠ q) (h2 : ¬ underP p q) (he : (cutM t q).2 = 0) : readM (cutM t q).1 p 0 80 = readM t p 0 80 := by
  obtain ⟨hc, g, hf, hg, hk⟩ := read_ok hr
  have hw := (check_wf ht).1 hc
  have hc' := check_cut ht he
  obtain ⟨_, f, hff, hf8, hkf, e⟩ := cut_ok he
  have hne := not_same (file_inner hw.root hf hk) (file_inner hw.root hff hkf) h1 h2 hf hff
  rw [e] at hc' ⊢
  have hn : ∀ j, (emptyM t f).n j = if f = j then { t.n f with size := 0, b0 := 0, b1 := 0 } else t.n j := fun j => by
    unfold emptyM
    rw [TR.n_set (ok_clr (ok_clr ht)) hf8, n_clr, n_clr]
  have hs : SameP t (emptyM t f) := fun j => by
    rw [hn]
    split
    · rename_i e'; subst e'; exact ⟨rfl, rfl, rfl⟩
    · exact ⟨rfl, rfl, rfl⟩
  refine read_keep hw hc' hf hg hk (by rw [find_same hs, hf]) (by rw [hn, if_neg (fun e' => hne e'.symm)]) (fun j k q hj hk8 hq hb => ?_)
  unfold emptyM
  rw [empty_b ht (hw.bks f hf8) hk8, if_neg]
  have a0 := blk_apart hw (i := 0) hf8 hg (by omega) hj hne (by omega)
  have a1 := blk_apart hw (i := 1) hf8 hg (by omega) hj hne (by omega)
  rw [hb] at a0 a1
  rintro (h | h)
  · exact a0 h.symm
  · exact a1 h.symm
theorem apart_remove (h1 : p ≠ q) (h2 : ¬ underP p q) (he : (removeM t q).2 = 0) : readM (removeM t q).1 p 0 80 = readM t p 0 80 := by
  obtain ⟨hc, g, hf, hg, hk⟩ := read_ok hr
  have hw := (check_wf ht).1 hc
  have hc' := check_remove ht he
  obtain ⟨_, hin, f, hff, hf1, hf8, _, e⟩ := remove_ok he
  have hpi := file_inner hw.root hf hk
  have hne := not_same hpi hin h1 h2 hf hff
  rw [e] at hc' ⊢
  have e0 : (emptyM t f).set f Nd.zero = (clrM (clrM t (t.n f).b0) (t.n f).b1).set f Nd.zero := by
    unfold emptyM
    rw [TR.set, TR.set, List.set_set]
    rfl
  rw [e0] at hc' ⊢
  have hn : ∀ j, ((clrM (clrM t (t.n f).b0) (t.n f).b1).set f Nd.zero).n j = if f = j then Nd.zero else t.n j := fun j => by
    rw [TR.n_set (ok_clr (ok_clr ht)) hf8, n_clr, n_clr]
  refine read_keep hw hc' hf hg hk (find_keep (S := fun c => c = f) (fun d' _ hs => ?_) (fun d' nm c hcc hs => ?_) hf (fun l1 c hl1 hwl hs => ?_)) (by rw [hn, if_neg (fun e' => hne e'.symm)]) (fun j k q hj hk8 hq hb => ?_)
  · rw [hn, if_neg (fun e' => hs e'.symm)]
  · obtain ⟨c1, c8, cm, cn⟩ := child_spec hcc
    refine child_of c1 c8 ?_ (fun j h1 h2 hm => ?_)
    · unfold Match at cm ⊢
      rw [hn, if_neg (fun e' => hs e'.symm)]
      exact cm
    · unfold Match at hm
      rw [hn] at hm
      split at hm
      · exact hm.1 rfl
      · exact cn j h1 h2 hm
  · subst hs
    rcases passes hpi hin hff hl1 hwl with h | h
    · exact h1 h
    · exact h2 h
  · rw [empty_b ht (hw.bks f hf8) hk8, if_neg]
    have a0 := blk_apart hw (i := 0) hf8 hg (by omega) hj hne (by omega)
    have a1 := blk_apart hw (i := 1) hf8 hg (by omega) hj hne (by omega)
    rw [hb] at a0 a1
    rintro (h | h)
    · exact a0 h.symm
    · exact a1 h.symm
theorem apart_move (h1 : p ≠ q) (h2 : ¬ underP p q) (he : (moveM t q r).2 = 0) : readM (moveM t q r).1 p 0 80 = readM t p 0 80 := by
  obtain ⟨hc, g, hf, hg, hk⟩ := read_ok hr
  have hw := (check_wf ht).1 hc
  have hc' := check_move ht he
  obtain ⟨_, hin, _, a, d, hfa, ha1, ha8, hka, _, hd, hkd, _, hch, e⟩ := move_ok he
  have hpi := file_inner hw.root hf hk
  have hne := not_same hpi hin h1 h2 hf hfa
  rw [e] at hc' ⊢
  have hn : ∀ j, (t.set a { t.n a with parent := (d : Int), name := (splitM r).2 }).n j = if a = j then { t.n a with parent := (d : Int), name := (splitM r).2 } else t.n j := fun j => TR.n_set ht ha8 _ j
  refine read_keep hw hc' hf hg hk (find_keep (S := fun c => c = a) (fun d' _ hs => ?_) (fun d' nm c hcc hs => ?_) hf (fun l1 c hl1 hwl hs => ?_)) (by rw [hn, if_neg (fun e' => hne e'.symm)]) (fun j k q _ _ _ _ => rfl)
  · rw [hn, if_neg (fun e' => hs e'.symm)]
  · obtain ⟨c1, c8, cm, cn⟩ := child_spec hcc
    refine child_of c1 c8 ?_ (fun j h1 h2 hm => ?_)
    · unfold Match at cm ⊢
      rw [hn, if_neg (fun e' => hs e'.symm)]
      exact cm
    · unfold Match at hm
      rw [hn] at hm
      split at hm
      · obtain ⟨_, m1, m2⟩ := hm
        dsimp only at m1 m2
        rw [m1, m2, hcc] at hch
        omega
      · exact cn j h1 h2 hm
  · subst hs
    rcases passes hpi hin hfa hl1 hwl with h | h
    · exact h1 h
    · exact h2 h
theorem apart_write (h1 : p ≠ q) (h2 : ¬ underP p q) {a : Int} {l : Str} {qu : Int} (he : (writeM t q a l qu).2 = 0) : readM (writeM t q a l qu).1 p 0 80 = readM t p 0 80 := by
  obtain ⟨hc, g, hf, hg, hk⟩ := read_ok hr
  have hw := (check_wf ht).1 hc
  have hc' := check_write ht he
  have hok' := ok_write ht (p := q) (a := a) (l := l) (qu := qu)
  obtain ⟨_, f, o, hff, hf8, hkf, rfl, ho, ⟨_, e⟩ | ⟨hl, u, hgr, e⟩⟩ := write_ok he
  · rw [e]
  have hne := not_same (file_inner hw.root hf hk) (file_inner hw.root hff hkf) h1 h2 hf hff
  rw [e] at hc' hok' ⊢
  have hw' := (check_wf hok').1 hc'
  obtain ⟨x0, x1, G⟩ := grown_of ht hf8 hgr
  obtain ⟨hu, hub, hus, hun⟩ := growM_facts ht hf8 (bksJ_iff.2 (hw.bks f hf8)) hgr
  have hn : ∀ j, j ≠ f → (pokesM u f o l).n j = t.n j := fun j hj => by rw [pokes_n, G.eq, TR.n_set ht hf8, if_neg (fun e' => hj e'.symm)]
  have hs : SameP t (pokesM u f o l) := fun j => by
    rw [pokes_n, G.eq, TR.n_set ht hf8]
    split
    · rename_i e'; subst e'; exact ⟨rfl, rfl, rfl⟩
    · exact ⟨rfl, rfl, rfl⟩
  have hsz := file_size hw hf8 hkf
  have hblk : ∀ i : Nat, o ≤ i → i < o + l.length → 0 < (u.n f).blk (i / 40) ∧ (u.n f).blk (i / 40) ≤ 8 := by
    intro i h1 h2
    have hj : i / 40 < 2 := by omega
    have b1 := hub _ hj
    have b2 := hun _ hj (by have := Nat.div_mul_le_self i 40; unfold most; split <;> omega)
    omega
  refine read_keep hw hc' hf hg hk (by rw [find_same hs, hf]) (hn g hne) (fun j k q hj hk8 hq hb => ?_)
  have hbu : u.b k = t.b k := by rw [G.eq]; rfl
  have hpk : ∀ i : Nat, o ≤ i → i < o + l.length → ¬ ((u.n f).blk (i / 40) = (k : Int) + 1 ∧ i % 40 = q) := by
    rintro i h1 h2 ⟨e1, _⟩
    have a := blk_apart hw' (i := i / 40) (j := j) hf8 hg (by omega) hj hne (by rw [hn g hne]; omega)
    rw [hn g hne, pokes_n] at a
    omega
  rw [pokes_other hu hblk hpk, hbu]
end
end Go.Proofs.Ytlchnabnhimlcaa
set_option linter.unusedSimpArgs false
set_option linter.unusedVariables false
namespace Go.Proofs.Ytlchnabnhimlcaa
open Go Go.RowKit Go.Own
/-- a path without its last name, and that -/
def aboveM (s : Str) (i : Nat) : Str × Str := if i = 0 then ([47], s.drop 1) else (s.take i, s.drop (i + 1))
section
variable {n : Nat} {ops : Array Oper} {Q : Post} {rest : List Oper} {e : Env} {w : World} {s : Ro} {rs R : List Asn} {tt : Nat} {pp : String} {af : Array Edge} {g : Option (Nat × Bool)} {d : Nat}
variable {p : Str}
set_option maxRecDepth 100000 in
set_option maxHeartbeats 1000000 in
theorem Above_w (H : Holds s w R) (hp : 1 ≤ p.length) (hl : p.length ≤ 140737488355328) : Calls Try.prog 52 #[.string ⟨p.toArray⟩] w fun e w' => ∃ i : Nat, i < p.length ∧ e = .returned (.tuple #[.string ⟨(aboveM p i).1.toArray⟩, .string ⟨(aboveM p i).2.toArray⟩]) ∧ Holds s w' R := by
  refine enter Try.func52 rfl Try.ntmps52 rfl ?_
  repeat' (first | (refine X.lenL ?_) | (refine X.lv H ?_) | (refine X.lp H ?_) | (refine X.eqL ?_ ?_ <;> intro hc <;> first | (exfalso; first | exact absurd hc (by assumption) | exact absurd (by assumption) hc) | skip) | refine Z H ?_ | (refine Zc ?_ ?_ <;> intro hc <;> first | (exfalso; omega) | skip) | (refine Y ?_; try change C _ _ _ _ _ _) | (refine Zs H ?_; clear H; (try clear w); intro w H) | (refine Zn H ?_; clear H; (try clear w); intro _ w H) | (refine Ze H ?_; clear H; (try clear w); intro gv w H))
  refine C.loopH H [4, 8, 9, 10, 11, 12, 13, 14, 15, 16, 17] [4] rfl (fun m vs => ∃ i : Nat, m = i ∧ i < p.length ∧ vs = [.int .i64 (i : Int)]) (p.length - 1) ⟨p.length - 1, rfl, by omega, ?_⟩ ?_
  · show [Value.int .i64 ((p.length : Int) - 1)] = _
    rw [show ((p.length : Int) - 1) = ((p.length - 1 : Nat) : Int) by omega]
  clear H
  rintro m vs hv w ⟨i, rfl, hi, rfl⟩ H
  by_cases h0 : m = 0
  · subst h0
    repeat' (first | (refine X.lenL ?_) | (refine X.lv H ?_) | (refine X.lp H ?_) | (refine X.eqL ?_ ?_ <;> intro hc <;> first | (exfalso; first | exact absurd hc (by assumption) | exact absurd (by assumption) hc) | skip) | refine Z H ?_ | (refine Zc ?_ ?_ <;> intro hc <;> first | (exfalso; omega) | skip) | (refine Y ?_; try change C _ _ _ _ _ _) | (refine Zs H ?_; clear H; (try clear w); intro w H) | (refine Zn H ?_; clear H; (try clear w); intro _ w H) | (refine Ze H ?_; clear H; (try clear w); intro gv w H))
    refine C.drawn1 [0, 0, 0, 0] [0, 1, 0, 7] (by kernel_rfl) ?_; replace H := H.drew
    repeat' (first | (refine X.from (l := p) 1 ?_ rfl (by omega)) | (refine X.lenL ?_) | (refine X.lv H ?_) | (refine X.lp H ?_) | (refine X.eqL ?_ ?_ <;> intro hc <;> first | (exfalso; first | exact absurd hc (by assumption) | exact absurd (by assumption) hc) | skip) | refine Z H ?_ | (refine Zc ?_ ?_ <;> intro hc <;> first | (exfalso; omega) | skip) | (refine Y ?_; try change C _ _ _ _ _ _) | (refine Zs H ?_; clear H; (try clear w); intro w H) | (refine Zn H ?_; clear H; (try clear w); intro _ w H) | (refine Ze H ?_; clear H; (try clear w); intro gv w H))
    exact ⟨_, resTT rfl, 0, hi, rfl, H⟩
  · by_cases hb : (((p[m]?.getD 0).toNat : Nat) : Int) = 47
    · repeat' (first | (refine X.sidx (l := p) m ?_) | (refine X.lenL ?_) | (refine X.lv H ?_) | (refine X.lp H ?_) | (refine X.eqL ?_ ?_ <;> intro hc <;> first | (exfalso; first | exact absurd hc (by assumption) | exact absurd (by assumption) hc) | skip) | refine Z H ?_ | (refine Zc ?_ ?_ <;> intro hc <;> first | (exfalso; omega) | skip) | (refine Y ?_; try change C _ _ _ _ _ _) | (refine Zs H ?_; clear H; (try clear w); intro w H) | (refine Zn H ?_; clear H; (try clear w); intro _ w H) | (refine Ze H ?_; clear H; (try clear w); intro gv w H))
      refine C.drawn1 [0, 0, 0, 0, 0, 0, 0, 0, 0] [0, 0, 3, 0, 0, 16, 56, 7, 255] (by kernel_rfl) ?_; replace H := H.drew
      repeat' (first | (refine X.upto (l := p) m ?_ rfl (by omega)) | (refine X.from (l := p) (m + 1) ?_ rfl (by omega)) | (refine X.lenL ?_) | (refine X.lv H ?_) | (refine X.lp H ?_) | (refine X.eqL ?_ ?_ <;> intro hc <;> first | (exfalso; first | exact absurd hc (by assumption) | exact absurd (by assumption) hc) | skip) | refine Z H ?_ | (refine Zc ?_ ?_ <;> intro hc <;> first | (exfalso; omega) | skip) | (refine Y ?_; try change C _ _ _ _ _ _) | (refine Zs H ?_; clear H; (try clear w); intro w H) | (refine Zn H ?_; clear H; (try clear w); intro _ w H) | (refine Ze H ?_; clear H; (try clear w); intro gv w H))
      exact ⟨_, resTT rfl, m, hi, by unfold aboveM; rw [if_neg h0]; rfl, H⟩
    · repeat' (first | (refine X.sidx (l := p) m ?_) | (refine X.lenL ?_) | (refine X.lv H ?_) | (refine X.lp H ?_) | (refine X.eqL ?_ ?_ <;> intro hc <;> first | (exfalso; first | exact absurd hc (by assumption) | exact absurd (by assumption) hc) | skip) | refine Z H ?_ | (refine Zc ?_ ?_ <;> intro hc <;> first | (exfalso; omega) | skip) | (refine Y ?_; try change C _ _ _ _ _ _) | (refine Zs H ?_; clear H; (try clear w); intro w H) | (refine Zn H ?_; clear H; (try clear w); intro _ w H) | (refine Ze H ?_; clear H; (try clear w); intro gv w H))
      refine ⟨by (repeat (first | exact Agr.refl | exact Agr.hav | refine Agr.upd rfl ?_ | refine Agr.in rfl ?_)), m - 1, by omega, ⟨m - 1, rfl, by omega, ?_⟩, H⟩
      show [Value.int .i64 ((m : Int) - 1)] = _
      rw [show ((m : Int) - 1) = ((m - 1 : Nat) : Int) by omega]
def alph : Str := [97, 98, 99, 100, 101, 102, 103, 104, 105, 106, 107, 108, 109, 110, 111, 112, 113, 114, 115, 116, 117, 118, 119, 120, 121, 122, 48, 49, 50, 51, 52, 53, 54, 55, 56, 57, 46, 95]
set_option maxRecDepth 100000 in
set_option maxHeartbeats 1000000 in
theorem IsName_w (H : Holds s w R) (hl : p.length ≤ 140737488355328) : Calls Try.prog 70 #[.string ⟨p.toArray⟩] w fun e w' => ∃ b : Bool, e = .returned (.bool b) ∧ Holds s w' R := by
  refine enter Try.func70 rfl Try.ntmps70 rfl ?_
  repeat' (first | (refine X.lenL ?_) | (refine X.lv H ?_) | (refine X.lp H ?_) | (refine X.eqL ?_ ?_ <;> intro hc <;> first | (exfalso; first | exact absurd hc (by assumption) | exact absurd (by assumption) hc) | skip) | refine Z H ?_ | (refine Zc ?_ ?_ <;> intro hc <;> first | (exfalso; omega) | skip) | (refine Y ?_; try change C _ _ _ _ _ _) | (refine Zs H ?_; clear H; (try clear w); intro w H) | (refine Zn H ?_; clear H; (try clear w); intro _ w H) | (refine Ze H ?_; clear H; (try clear w); intro gv w H))
  refine C.loopH H [2, 3, 4, 5, 6, 7, 8, 9, 10, 11, 12, 13, 14, 15, 16, 17, 18, 19, 20, 21, 22, 23] [3] rfl (fun m vs => ∃ i : Nat, m = p.length - i ∧ i ≤ p.length ∧ vs = [.int .i64 (i : Int)]) p.length ⟨0, rfl, by omega, rfl⟩ ?_
  clear H
  rintro m vs hv w ⟨i, rfl, hi, rfl⟩ H
  by_cases hlt : i < p.length
  rotate_left
  · repeat' (first | (refine X.lenL ?_) | (refine X.lv H ?_) | (refine X.lp H ?_) | (refine X.eqL ?_ ?_ <;> intro hc <;> first | (exfalso; first | exact absurd hc (by assumption) | exact absurd (by assumption) hc) | skip) | refine Z H ?_ | (refine Zc ?_ ?_ <;> intro hc <;> first | (exfalso; omega) | skip) | (refine Y ?_; try change C _ _ _ _ _ _) | (refine Zs H ?_; clear H; (try clear w); intro w H) | (refine Zn H ?_; clear H; (try clear w); intro _ w H) | (refine Ze H ?_; clear H; (try clear w); intro gv w H))
    all_goals exact ⟨_, resT rfl, _, rfl, H⟩
  repeat' (first | (refine X.lenL ?_) | (refine X.lv H ?_) | (refine X.lp H ?_) | (refine X.eqL ?_ ?_ <;> intro hc <;> first | (exfalso; first | exact absurd hc (by assumption) | exact absurd (by assumption) hc) | skip) | refine Z H ?_ | (refine Zc ?_ ?_ <;> intro hc <;> first | (exfalso; omega) | skip) | (refine Y ?_; try change C _ _ _ _ _ _) | (refine Zs H ?_; clear H; (try clear w); intro w H) | (refine Zn H ?_; clear H; (try clear w); intro _ w H) | (refine Ze H ?_; clear H; (try clear w); intro gv w H))
  refine C.loopH H [4, 5, 12, 13, 14, 15, 16, 17, 18, 19, 20, 21] [4, 5] rfl (fun m vs => ∃ (k : Nat) (b : Bool), m = 38 - k ∧ k ≤ 38 ∧ vs = [.bool b, .int .i64 (k : Int)]) 38 ⟨0, false, rfl, by omega, rfl⟩ ?_
  clear H
  rintro m vs hv2 w ⟨k, b, rfl, hk, rfl⟩ H
  by_cases hkl : k < 38
  · repeat' (first | (refine X.lenL ?_) | (refine X.lv H ?_) | (refine X.lp H ?_) | (refine X.eqL ?_ ?_ <;> intro hc <;> first | (exfalso; first | exact absurd hc (by assumption) | exact absurd (by assumption) hc) | skip) | refine Z H ?_ | (refine Zc ?_ ?_ <;> intro hc <;> first | (exfalso; omega) | skip) | (refine Y ?_; try change C _ _ _ _ _ _) | (refine Zs H ?_; clear H; (try clear w); intro w H) | (refine Zn H ?_; clear H; (try clear w); intro _ w H) | (refine Ze H ?_; clear H; (try clear w); intro gv w H))
    refine C.drawn1 [0, 0, 0, 0, 0, 0] [0, 0, 3, 0, 8, 31] (by kernel_rfl) ?_; replace H := H.drew
    repeat' (first | (refine X.sidx (l := p) i ?_) | (refine X.sidx (l := alph) k ?_ (hl := hkl)) | (refine X.lenL ?_) | (refine X.lv H ?_) | (refine X.lp H ?_) | (refine X.eqL ?_ ?_ <;> intro hc <;> first | (exfalso; first | exact absurd hc (by assumption) | exact absurd (by assumption) hc) | skip) | refine Z H ?_ | (refine Zc ?_ ?_ <;> intro hc <;> first | (exfalso; omega) | skip) | (refine Y ?_; try change C _ _ _ _ _ _) | (refine Zs H ?_; clear H; (try clear w); intro w H) | (refine Zn H ?_; clear H; (try clear w); intro _ w H) | (refine Ze H ?_; clear H; (try clear w); intro gv w H))
    · exact ⟨by (repeat (first | exact Agr.refl | exact Agr.hav | refine Agr.upd rfl ?_ | refine Agr.in rfl ?_)), 38 - (k + 1), by omega, ⟨k + 1, true, rfl, by omega, rfl⟩, H⟩
    · exact ⟨by (repeat (first | exact Agr.refl | exact Agr.hav | refine Agr.upd rfl ?_ | refine Agr.in rfl ?_)), 38 - (k + 1), by omega, ⟨k + 1, b, rfl, by omega, rfl⟩, H⟩
  · cases b
    · repeat' (first | (refine X.lenL ?_) | (refine X.lv H ?_) | (refine X.lp H ?_) | (refine X.eqL ?_ ?_ <;> intro hc <;> first | (exfalso; first | exact absurd hc (by assumption) | exact absurd (by assumption) hc) | skip) | refine Z H ?_ | (refine Zc ?_ ?_ <;> intro hc <;> first | (exfalso; omega) | skip) | (refine Y ?_; try change C _ _ _ _ _ _) | (refine Zs H ?_; clear H; (try clear w); intro w H) | (refine Zn H ?_; clear H; (try clear w); intro _ w H) | (refine Ze H ?_; clear H; (try clear w); intro gv w H))
      exact ⟨_, resT rfl, _, rfl, H⟩
    · repeat' (first | (refine X.lenL ?_) | (refine X.lv H ?_) | (refine X.lp H ?_) | (refine X.eqL ?_ ?_ <;> intro hc <;> first | (exfalso; first | exact absurd hc (by assumption) | exact absurd (by assumption) hc) | skip) | refine Z H ?_ | (refine Zc ?_ ?_ <;> intro hc <;> first | (exfalso; omega) | skip) | (refine Y ?_; try change C _ _ _ _ _ _) | (refine Zs H ?_; clear H; (try clear w); intro w H) | (refine Zn H ?_; clear H; (try clear w); intro _ w H) | (refine Ze H ?_; clear H; (try clear w); intro gv w H))
      exact ⟨by (repeat (first | exact Agr.refl | exact Agr.hav | refine Agr.upd rfl ?_ | refine Agr.in rfl ?_)), p.length - (i + 1), by omega, ⟨i + 1, rfl, by omega, rfl⟩, H⟩
end
end Go.Proofs.Ytlchnabnhimlcaa

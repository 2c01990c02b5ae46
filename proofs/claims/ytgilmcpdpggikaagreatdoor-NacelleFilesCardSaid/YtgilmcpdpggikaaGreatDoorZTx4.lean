/- Squeezed copy of the texts Tx4 To Tl Tv Tu Tz Tzw. -/
import Derived.Test.YtgilmcpdpggikaaGreatDoorZTx2
set_option maxRecDepth 100000
set_option maxHeartbeats 1000000
set_option linter.unusedSimpArgs false
set_option linter.unusedVariables false
namespace Go.Proofs.YtgilmcpdpggikaaGreatDoor
open Go Go.RowKit Go.Own
theorem ok_poke {t : TR} (h : t.Ok) {f p : Nat} {c : UInt8} (hb : 0 < (t.n f).blk (p / 40) ∧ (t.n f).blk (p / 40) ≤ 8) : (pokeM t f p c).Ok :=
 TR.ok_setB h _ (by rw [List.length_set, TR.b_len h (by omega)])
section
variable {n : Nat} {ops : Array Oper} {Q : Post} {rest : List Oper} {e : Env} {w : World} {s : Ro} {rs R : List Asn} {tt : Nat} {pp : String} {af : Array Edge} {g : Option (Nat × Bool)} {d : Nat}
variable {p q : Str} {b : Nat} {t : TR}
theorem write_t {l : Str} {a : Option Addr} {c : Nat} {at_ quota : Int} (H : Holds s w R) (ht : t.Ok) (h : SlS s (.slice a l.length c) 1 l.length (u8s l)) (hl : l.length ≤ 140737488355328) : Calls Tryz.prog 47 #[.agg t.cells.toArray, .string ⟨p.toArray⟩, .int .i64 at_, .slice a l.length c, .int .i64 quota] w fun e w' => e = .returned (.tuple #[.agg (writeM t p at_ l quota).1.cells.toArray, .int .i64 (writeM t p at_ l quota).2]) ∧ Holds s w' R := by
 have hz := TR.ok_zero
 refine enter Tryz.func47 rfl Tryz.ntmps47 rfl ?_
 repeat' (first | refine Go4 H ?_ | (refine Gs4 H ?_; clear H; (try clear w); intro w H) | (refine Gn H ?_; clear H; (try clear w); (first | ((fail_if_success (have := bl1)); intro bl1 w H) | intro _ w H)))
 have hC := Check_s H ht
 by_cases hchk : checkM t = true
 rotate_left
 ·have em : writeM t p at_ l quota = (TR.zero, 3) := by rw [writeM, if_pos (by simpa using hchk)]
  rw [show checkM t = false by simpa using hchk] at hC
  (refine X.call (hC) ?_; (try clear H); rintro _ w ⟨rfl, H⟩; refine ⟨_, rfl, ?_⟩)
  clear hC
  (refine Gq4 H ?_; clear H; (try clear w); intro w H)
  exact ⟨_, resVT (cs := TR.zero.cells) H rfl rfl inferInstance (TR.cells_len hz), by rw [em]; rfl, H.tail.tail⟩
 rw [hchk] at hC
 (refine X.call (hC) ?_; (try clear H); rintro _ w ⟨rfl, H⟩; refine ⟨_, rfl, ?_⟩)
 clear hC
 refine Gq4 H ?_
 replace H : Holds _ _ (var bl1 41 _ :: _) := tp H
 (refine X.call (kindOf_s (p := p) (k := 2) H ht) ?_; (try clear H); rintro _ w ⟨rfl, H⟩; refine ⟨_, rfl, ?_⟩)
 have em : writeM t p at_ l quota = if (kindOfM t p 2).2 ≠ 0 then (TR.zero, (kindOfM t p 2).2) else if at_ < 0 then (TR.zero, 4) else
   if at_ > 80 - (l.length : Int) then (TR.zero, 5) else if l.length = 0 then (t, 0) else
   match growM t (kindOfM t p 2).1.toNat (most (t.n (kindOfM t p 2).1.toNat).size (at_ + l.length)) quota with
   | none => (TR.zero, 5)
   | some u => (pokesM u (kindOfM t p 2).1.toNat at_.toNat l, 0) := by
  rw [writeM, if_neg (by simp [hchk])]
  rfl
 by_cases hk : (kindOfM t p 2).2 = 0
 rotate_left
 ·rw [if_pos hk] at em
  (refine Gq4 H ?_; clear H; (try clear w); intro w H)
  exact ⟨_, resVT (cs := TR.zero.cells) H rfl rfl inferInstance (TR.cells_len hz), by rw [em]; rfl, H.tail.tail⟩
 rw [if_neg (by simp [hk])] at em
 obtain ⟨f, hf, hkf, hkd, hfd⟩ := kindOfM_range hk
 rw [hkf] at em ⊢
 clear hkf hk
 by_cases hat : at_ < 0
 ·rw [if_pos hat] at em
  (refine Gq4 H ?_; clear H; (try clear w); intro w H)
  exact ⟨_, resVT (cs := TR.zero.cells) H rfl rfl inferInstance (TR.cells_len hz), by rw [em]; rfl, H.tail.tail⟩
 rw [if_neg hat] at em
 obtain ⟨o, rfl⟩ : ∃ o : Nat, at_ = o := ⟨at_.toNat, by omega⟩
 by_cases hfu : (o : Int) > 80 - (l.length : Int)
 ·rw [if_pos hfu] at em
  (refine Gq4 H ?_; clear H; (try clear w); intro w H)
  exact ⟨_, resVT (cs := TR.zero.cells) H rfl rfl inferInstance (TR.cells_len hz), by rw [em]; rfl, H.tail.tail⟩
 rw [if_neg hfu] at em
 by_cases hl0 : l.length = 0
 ·rw [if_pos hl0] at em
  (refine Gq4 H ?_; clear H; (try clear w); intro w H)
  exact ⟨_, resVT (cs := t.cells) H rfl rfl inferInstance (TR.cells_len ht), by rw [em]; rfl, H.tail.tail⟩
 rw [if_neg hl0] at em
 have c3 := TR.cell ht hf 3 _ rfl
 have hbk := bksJ_iff.2 (bks_of hchk hf)
 repeat' (first | (refine K.iaA (i := f) rfl rfl rfl rfl rfl hf ?_) | (refine X.max (most (t.n f).size ((o : Int) + (l.length : Int))) ?_ rfl) | refine Go4 H ?_ | (refine Gs4 H ?_; clear H; (try clear w); intro w H) | (refine Gn H ?_; clear H; (try clear w); (first | ((fail_if_success (have := bl1)); intro bl1 w H) | intro _ w H)))
 have hG := grow_s (f := f) (size := most (t.n f).size ((o : Int) + (l.length : Int))) (quota := quota) H ht hf
 have em2 : writeM t p (o : Int) l quota = match growM t f (most (t.n f).size ((o : Int) + l.length)) quota with
   | none => (TR.zero, 5)
   | some u => (pokesM u f o l, 0) := em
 clear em
 cases hgr : growM t f (most (t.n f).size ((o : Int) + (l.length : Int))) quota with
 | none =>
  rw [hgr] at hG em2
  (refine X.call (hG) ?_; (try clear H); rintro _ w ⟨rfl, u, H⟩; refine ⟨_, rfl, ?_⟩)
  clear hG
  (refine Gq4 H ?_; clear H; (try clear w); intro w H)
  exact ⟨_, resVT (cs := TR.zero.cells) H rfl rfl inferInstance (TR.cells_len hz), by rw [em2]; rfl, H.tail.tail⟩
 | some u =>
  rw [hgr] at hG em2
  (refine X.call (hG) ?_; (try clear H); rintro _ w ⟨rfl, H⟩; refine ⟨_, rfl, ?_⟩)
  clear hG
  obtain ⟨hu, hub, hus, hun⟩ := growM_facts ht hf hbk hgr
  have hsz : (o : Int) + (l.length : Int) ≤ (u.n f).size := by rw [hus]; unfold most; split <;> omega
  refine Gq4 H ?_
  refine C.loopR H [14, 15, 16, 60, 61, 62, 63, 64, 65, 66, 67, 68, 69, 70, 71, 72, 73, 74, 75, 76, 77, 78, 79, 80, 81, 82, 83] [60] rfl (fun m vs A => ∃ i : Nat, m = l.length - i ∧ i ≤ l.length ∧ vs = [.int .i64 (i : Int)] ∧ A = var bl1 41 (pokesM u f o (l.take i)).cells ∧ (pokesM u f o (l.take i)).Ok) l.length ⟨0, rfl, Nat.zero_le _, rfl, rfl, hu⟩ ?_
  clear H
  rintro m vs hv w A ⟨i, rfl, hi, rfl, rfl, hk⟩ H
  by_cases hlt : i < l.length
  rotate_left
  ·obtain rfl : i = l.length := by omega
   rw [List.take_length] at H hk
   (refine Gq4 H ?_; clear H; (try clear w); intro w H)
   exact ⟨_, resVT (cs := (pokesM u f o l).cells) H rfl rfl inferInstance (TR.cells_len hk), by rw [em2]; rfl, H.tail.tail⟩
  obtain ⟨g, o', c', hv', _, _, hp⟩ := elemS1 h (by omega)
  cases hv'
  have pn : Pin s g (o' + i * 1) (.int .u8 (l[i].toNat : Int)) := by rw [Nat.mul_one]; exact hp i hlt
  have hnf : (pokesM u f o (l.take i)).n f = u.n f := pokes_n
  have hst : pokesM u f o (l.take (i + 1)) = pokeM (pokesM u f o (l.take i)) f (o + i) l[i] := by
   rw [List.take_succ_eq_append_getElem hlt, pokes_snoc, List.length_take, Nat.min_eq_left (by omega)]
  generalize pokesM u f o (l.take i) = v at *
  generalize l[i] = x at *
  have hj2 : (o + i) / 40 < 2 := by omega
  have hbc := blk_cell hk hf hj2
  have hbj : 0 < (v.n f).blk ((o + i) / 40) ∧ (v.n f).blk ((o + i) / 40) ≤ 8 := by
   rw [hnf]
   have h1 := hub _ hj2
   have h2 := hun _ hj2 (by rw [← hus]; have := Nat.div_mul_le_self (o + i) 40; omega)
   omega
  have hpk := ok_poke hk (c := x) hbj
  have hq : (v.n f).blk ((o + i) / 40) - 1 = (((v.n f).blk ((o + i) / 40) - 1).toNat : Int) := by omega
  have hq8 : ((v.n f).blk ((o + i) / 40) - 1).toNat < 8 := by omega
  obtain ⟨y, hy⟩ : ∃ y, y = (o + i) % 40 := ⟨_, rfl⟩
  have hm40 : y < 40 := by rw [hy]; exact Nat.mod_lt _ (by omega)
  repeat' (first | (refine X.quoI (o + i) 40 rfl (by decide) (by omega) ?_) | (refine X.remI (o + i) 40 y rfl (by decide) hy.symm ?_) | (refine K.iaA (i := f) rfl rfl rfl rfl rfl hf ?_) | (refine K.iaA (i := (o + i) / 40) rfl rfl rfl rfl rfl hj2 ?_) | (refine K.iaA (i := y) rfl rfl rfl rfl rfl hm40 ?_) | (refine K.iaA (i := ((v.n f).blk ((o + i) / 40) - 1).toNat) rfl rfl rfl rfl hq hq8 ?_) | (refine X.stY ((v.n f).blk ((o + i) / 40) - 1).toNat y x hk hq8 hm40 H ?_; clear H; (try clear w); intro w H) | refine Go4 H ?_ | (refine Gs4 H ?_; clear H; (try clear w); intro w H) | (refine Gn H ?_; clear H; (try clear w); (first | ((fail_if_success (have := bl1)); intro bl1 w H) | intro _ w H)))
  exact ⟨agr, l.length - (i + 1), by omega, _, ⟨i + 1, rfl, by omega, rfl, rfl, by rw [hst]; exact hpk⟩, by subst hy; rw [hst]; exact H⟩
end
theorem ok_pokes {f : Nat} : ∀ {l : Str} {u : TR} {p : Nat}, u.Ok → (∀ k : Nat, p ≤ k → k < p + l.length → 0 < (u.n f).blk (k / 40) ∧ (u.n f).blk (k / 40) ≤ 8) → (pokesM u f p l).Ok
 | [], u, p, hu, _ => hu
 | c :: l, u, p, hu, hb => by
  rw [pokesM]
  refine ok_pokes (ok_poke hu (hb p (Nat.le_refl _) (by simp))) (fun k h1 h2 => ?_)
  have : (pokeM u f p c).n f = u.n f := rfl
  rw [this]
  exact hb k (by omega) (by simp only [List.length_cons]; omega)
theorem ok_make {t : TR} (ht : t.Ok) {p : Str} {k : Int} : (makeM t p k).1.Ok := by
 unfold makeM
 repeat' split
 all_goals first | exact TR.ok_zero | exact TR.ok_set ht _ _
theorem ok_remove {t : TR} (ht : t.Ok) {p : Str} : (removeM t p).1.Ok := by
 unfold removeM
 repeat' split
 all_goals first | exact TR.ok_zero | exact TR.ok_set (ok_empty ht) _ _
theorem ok_write {t : TR} (ht : t.Ok) {p : Str} {a : Int} {l : Str} {qu : Int} : (writeM t p a l qu).1.Ok := by
 unfold writeM
 split
 ·exact TR.ok_zero
 rename_i hchk
 split
 ·exact TR.ok_zero
 rename_i hk
 split
 ·exact TR.ok_zero
 split
 ·exact TR.ok_zero
 split
 ·exact ht
 obtain ⟨f, hf, hkf, hkd, hfd⟩ := kindOfM_range (by simpa using hk : (kindOfM t p 2).2 = 0)
 rw [hkf]
 split
 ·exact TR.ok_zero
 ·rename_i u hg
  have hg' : growM t f (most (t.n f).size (a + l.length)) qu = some u := hg
  obtain ⟨hu, hub, hus, hun⟩ := growM_facts ht hf (bksJ_iff.2 (bks_of (by simpa using hchk) hf)) hg'
  refine ok_pokes hu (fun k h1 h2 => ?_)
  have hj2 : k / 40 < 2 := by omega
  have hlt : ((k / 40 : Nat) : Int) * 40 < most (t.n f).size (a + l.length) := by
   have := Nat.div_mul_le_self k 40
   unfold most
   split <;> omega
  have := hub _ hj2
  have h3 := hun _ hj2 hlt
  have h4 : (u.n ((f : Int).toNat)) = u.n f := rfl
  show 0 < (u.n f).blk (k / 40) ∧ (u.n f).blk (k / 40) ≤ 8
  omega
def clAt (t : TR) (p : Nat) : Int × Int := if p % 2 = 0 then ((t.n (p / 2)).b0, least (t.n (p / 2)).size 40) else ((t.n (p / 2)).b1, least ((t.n (p / 2)).size - 40) 40)
abbrev Marks := List (Option Int)
def markL : List (Int × Int) → Marks → Option Marks
 | [], m => some m
 | c :: r, m => (mark m c.1 c.2).bind (markL r)
theorem markL_app : ∀ {a b : List (Int × Int)} {m : Marks}, markL (a ++ b) m = (markL a m).bind (markL b)
 | [], b, m => rfl
 | c :: a, b, m => by
  rw [List.cons_append, markL, markL]
  cases mark m c.1 c.2 with
  | none => rfl
  | some m' => exact markL_app
theorem marks_eq {t : TR} {i : Nat} {m : Marks} : marks (t.n i) m = markL [clAt t (2 * i), clAt t (2 * i + 1)] m := by
 have e1 : clAt t (2 * i) = ((t.n i).b0, least (t.n i).size 40) := by
  unfold clAt; rw [if_pos (by omega), show 2 * i / 2 = i by omega]
 have e2 : clAt t (2 * i + 1) = ((t.n i).b1, least ((t.n i).size - 40) 40) := by
  unfold clAt; rw [if_neg (by omega), show (2 * i + 1) / 2 = i by omega]
 rw [e1, e2, marks, markL]
 cases mark m (t.n i).b0 (least (t.n i).size 40) with
 | none => rfl
 | some m' =>
  show mark m' _ _ = markL [_] m'
  rw [markL]
  cases mark m' (t.n i).b1 (least ((t.n i).size - 40) 40) <;> rfl
theorem markFrom_eq {t : TR} : ∀ (f i : Nat) (m : Marks), markFrom t f i m = markL ((List.range' (2 * i) (2 * f)).map (clAt t)) m
 | 0, i, m => rfl
 | f + 1, i, m => by
  rw [markFrom, marks_eq, show 2 * (f + 1) = 2 * f + 1 + 1 by omega, List.range'_succ, List.range'_succ, List.map_cons, List.map_cons]
  rw [show clAt t (2 * i) :: clAt t (2 * i + 1) :: (List.range' (2 * i + 1 + 1) (2 * f)).map (clAt t) = [clAt t (2 * i), clAt t (2 * i + 1)] ++ (List.range' (2 * i + 1 + 1) (2 * f)).map (clAt t) from rfl, markL_app]
  congr 1
  funext m'
  rw [markFrom_eq f (i + 1) m', show 2 * (i + 1) = 2 * i + 1 + 1 by omega]
def got (m : Marks) (k : Nat) : Option Int := m[k]?.getD none
theorem got_set {m : Marks} {k j : Nat} {v : Int} (hj : j < m.length) : got (m.set j (some v)) k = if j = k then some v else got m k := by
 unfold got
 by_cases e : j = k
 ·subst e; rw [if_pos rfl, List.getElem?_set_self hj]; rfl
 ·rw [if_neg e, List.getElem?_set_ne e]
abbrev Bd (c : Int × Int) : Prop := 0 ≤ c.1 ∧ c.1 ≤ 8
theorem markL_some : ∀ {l : List (Int × Int)} {m m' : Marks}, (∀ c ∈ l, Bd c) → m.length = 8 → markL l m = some m' →
  m'.length = 8 ∧ l.Pairwise (fun a b => a.1 ≠ 0 → a.1 ≠ b.1) ∧ (∀ c ∈ l, c.1 ≠ 0 → got m (c.1 - 1).toNat = none) ∧ (∀ c ∈ l, c.1 ≠ 0 → got m' (c.1 - 1).toNat = some c.2) ∧ (∀ k : Nat, (∀ c ∈ l, c.1 ≠ (k : Int) + 1) → got m' k = got m k)
 | [], m, m', _, hm, h => by
  cases h
  exact ⟨hm, List.Pairwise.nil, by simp, by simp, fun _ _ => rfl⟩
 | c :: l, m, m', hb, hm, h => by
  rw [markL] at h
  have hc := hb c (by simp)
  have hbl : ∀ c ∈ l, Bd c := fun x hx => hb x (by simp [hx])
  unfold mark at h
  split at h
  ·rename_i h0
   rw [Option.bind_some] at h
   obtain ⟨a1, a2, a3, a4, a5⟩ := markL_some hbl hm h
   refine ⟨a1, List.Pairwise.cons (fun b _ hn => absurd h0 hn) a2, ?_, ?_, ?_⟩
   ·intro x hx hn
    rcases List.mem_cons.1 hx with rfl | hx
    ·exact absurd h0 hn
    ·exact a3 x hx hn
   ·intro x hx hn
    rcases List.mem_cons.1 hx with rfl | hx
    ·exact absurd h0 hn
    ·exact a4 x hx hn
   ·intro k hk
    exact a5 k (fun x hx => hk x (by simp [hx]))
  ·rename_i h0
   split at h
   ·cases h
   ·rename_i hs
    rw [Option.bind_some] at h
    have hlt : (c.1 - 1).toNat < m.length := by rw [hm]; unfold Bd at hc; omega
    have hgn : got m (c.1 - 1).toNat = none := by
     unfold got
     cases hx : (m[(c.1 - 1).toNat]?.getD none) with
     | none => rfl
     | some v => rw [hx] at hs; exact absurd rfl hs
    obtain ⟨a1, a2, a3, a4, a5⟩ := markL_some hbl (by rw [List.length_set, hm]) h
    have hne : ∀ x ∈ l, x.1 ≠ 0 → c.1 ≠ x.1 := by
     intro x hx hn e
     have := a3 x hx hn
     rw [got_set hlt, if_pos (by rw [e])] at this
     cases this
    refine ⟨a1, List.Pairwise.cons (fun x hx hn e => ?_) a2, ?_, ?_, ?_⟩
    ·exact hne x hx (by rw [← e]; exact hn) e
    ·intro x hx hn
     rcases List.mem_cons.1 hx with rfl | hx
     ·exact hgn
     ·have h3 := a3 x hx hn
      rw [got_set hlt] at h3
      split at h3
      ·cases h3
      ·exact h3
    ·intro x hx hn
     rcases List.mem_cons.1 hx with rfl | hx
     ·rw [a5 (x.1 - 1).toNat (fun y hy e => ?_), got_set hlt, if_pos rfl]
      have hyb := hbl y hy
      unfold Bd at hyb hc
      exact hne y hy (by omega) (by omega)
     ·exact a4 x hx hn
    ·intro k hk
     rw [a5 k (fun x hx => hk x (by simp [hx])), got_set hlt, if_neg]
     have := hk c (by simp)
     unfold Bd at hc
     omega
theorem markL_ok : ∀ {l : List (Int × Int)} {m : Marks}, (∀ c ∈ l, Bd c) → m.length = 8 → l.Pairwise (fun a b => a.1 ≠ 0 → a.1 ≠ b.1) → (∀ c ∈ l, c.1 ≠ 0 → got m (c.1 - 1).toNat = none) → ∃ m', markL l m = some m'
 | [], m, _, _, _, _ => ⟨m, rfl⟩
 | c :: l, m, hb, hm, hp, hn => by
  have hc := hb c (by simp)
  have hbl : ∀ c ∈ l, Bd c := fun x hx => hb x (by simp [hx])
  rw [List.pairwise_cons] at hp
  rw [markL, mark]
  split
  ·exact markL_ok hbl hm hp.2 (fun x hx => hn x (by simp [hx]))
  ·rename_i h0
   have hg := hn c (by simp) h0
   unfold got at hg
   rw [hg, if_neg (by decide), Option.bind_some]
   have hlt : (c.1 - 1).toNat < m.length := by rw [hm]; unfold Bd at hc; omega
   refine markL_ok hbl (by rw [List.length_set, hm]) hp.2 (fun x hx h1 => ?_)
   rw [got_set hlt, if_neg]
   ·exact hn x (by simp [hx]) h1
   ·have hxb := hbl x hx
    have := hp.1 x hx h0
    unfold Bd at hc hxb
    omega
structure BF (t : TR) : Prop where
 one : ∀ p q : Nat, p < 16 → q < 16 → p ≠ q → (clAt t p).1 ≠ 0 → (clAt t p).1 ≠ (clAt t q).1
 nought : ∀ k q : Nat, k < 8 → q < 40 → (∀ p : Nat, p < 16 → (clAt t p).1 = (k : Int) + 1 → (clAt t p).2 ≤ (q : Int)) → (t.b k)[q]? = some 0
theorem markAll_eq {t : TR} : markAll t = markL ((List.range 16).map (clAt t)) (List.replicate 8 none) := by
 rw [markAll, markFrom_eq, List.range_eq_range']
theorem got_rep (k : Nat) : got (List.replicate 8 (none : Option Int)) k = none := by
 unfold got
 cases h : (List.replicate 8 (none : Option Int))[k]? with
 | none => rfl
 | some v => rw [List.eq_of_mem_replicate (List.mem_of_getElem? h)]; rfl
theorem pairs_iff {t : TR} : ((List.range 16).map (clAt t)).Pairwise (fun a b => a.1 ≠ 0 → a.1 ≠ b.1) ↔ ∀ p q : Nat, p < 16 → q < 16 → p ≠ q → (clAt t p).1 ≠ 0 → (clAt t p).1 ≠ (clAt t q).1 := by
 rw [List.pairwise_iff_getElem]
 constructor
 ·intro h p q hp hq hne h0
  rcases Nat.lt_or_ge p q with hlt | hge
  ·have := h p q (by simpa using hp) (by simpa using hq) hlt
   simpa [h0] using this
  ·have := h q p (by simpa using hq) (by simpa using hp) (by omega)
   simp only [List.getElem_map, List.getElem_range] at this
   intro e
   exact this (by rw [← e]; exact h0) e.symm
 ·intro h i j hi hj hij
  simp only [List.getElem_map, List.getElem_range]
  exact h i j (by simpa using hi) (by simpa using hj) (by omega)
theorem blocks_iff {t : TR} (hb : ∀ p, p < 16 → Bd (clAt t p)) : blocksFitM t = true ↔ BF t := by
 have hbl : ∀ c ∈ (List.range 16).map (clAt t), Bd c := by
  intro c hc
  obtain ⟨p, hp, rfl⟩ := List.mem_map.1 hc
  exact hb p (by simpa using hp)
 have hmem : ∀ p, p < 16 → clAt t p ∈ (List.range 16).map (clAt t) := fun p hp => List.mem_map.2 ⟨p, by simpa using hp, rfl⟩
 constructor
 ·intro h
  unfold blocksFitM at h
  cases hm : markAll t with
  | none => rw [hm] at h; cases h
  | some m =>
   rw [hm] at h
   rw [markAll_eq] at hm
   have hcl := of_decide_eq_true h
   obtain ⟨a1, a2, a3, a4, a5⟩ := markL_some hbl (by simp) hm
   refine ⟨pairs_iff.1 a2, fun k q hk hq hp => hcl k hk q hq ?_⟩
   unfold lenOf
   show (got m k).getD 0 ≤ _
   by_cases hx : ∃ p, p < 16 ∧ (clAt t p).1 = (k : Int) + 1
   ·obtain ⟨p, hp16, he⟩ := hx
    have := a4 _ (hmem p hp16) (by omega)
    rw [he, show ((k : Int) + 1 - 1).toNat = k by omega] at this
    rw [this]
    exact hp p hp16 he
   ·rw [a5 k (fun c hc he => ?_), got_rep]
    ·show (0 : Int) ≤ q
     omega
    ·obtain ⟨p, hp16, rfl⟩ := List.mem_map.1 hc
     exact hx ⟨p, by simpa using hp16, he⟩
 ·intro h
  obtain ⟨m, hm⟩ := markL_ok (m := List.replicate 8 none) hbl (by simp) (pairs_iff.2 h.one) (fun c _ _ => got_rep _)
  obtain ⟨a1, a2, a3, a4, a5⟩ := markL_some hbl (by simp) hm
  unfold blocksFitM
  rw [markAll_eq, hm]
  refine decide_eq_true (fun k hk q hq hl => h.nought k q hk hq (fun p hp he => ?_))
  have := a4 _ (hmem p hp) (by omega)
  rw [he, show ((k : Int) + 1 - 1).toNat = k by omega] at this
  unfold lenOf at hl
  change (got m k).getD 0 ≤ _ at hl
  rw [this] at hl
  exact hl
def up (t : TR) (j : Nat) : Nat := (t.n j).parent.toNat
def it (t : TR) : Nat → Nat → Nat
 | 0, j => j
 | f + 1, j => it t f (up t j)
theorem it_zero {t : TR} (h0 : up t 0 = 0) : ∀ f, it t f 0 = 0
 | 0 => rfl
 | f + 1 => by rw [it, h0]; exact it_zero h0 f
theorem it_add {t : TR} : ∀ (a b j : Nat), it t (a + b) j = it t b (it t a j)
 | 0, b, j => by rw [Nat.zero_add]; rfl
 | a + 1, b, j => by rw [show a + 1 + b = (a + b) + 1 by omega, it, it_add a b, it]
theorem it_more {t : TR} (h0 : up t 0 = 0) {f g j : Nat} (h : it t f j = 0) (hg : f ≤ g) : it t g j = 0 := by
 obtain ⟨d, rfl⟩ : ∃ d, g = f + d := ⟨g - f, by omega⟩
 rw [it_add, h, it_zero h0]
theorem it_lt {t : TR} (hu : ∀ j, j < 8 → up t j < 8) : ∀ (f j : Nat), j < 8 → it t f j < 8
 | 0, j, h => h
 | f + 1, j, h => it_lt hu f _ (hu j h)
theorem nodup_le : ∀ (n : Nat) (l : List Nat), l.Nodup → (∀ x ∈ l, x < n) → l.length ≤ n
 | 0, [], _, _ => Nat.le_refl _
 | 0, x :: l, _, h => absurd (h x (by simp)) (by omega)
 | n + 1, l, hn, h => by
  by_cases hm : n ∈ l
  ·have h1 := nodup_le n (l.erase n) (hn.erase n) (fun x hx => by
    have h2 := h x (List.mem_of_mem_erase hx)
    have h3 : x ≠ n := by
     intro e
     subst e
     exact (List.Nodup.not_mem_erase hn) hx
    omega)
   rw [List.length_erase_of_mem hm] at h1
   omega
  ·have h1 := nodup_le n l hn (fun x hx => by
    have h2 := h x hx
    have h3 : x ≠ n := fun e => hm (by rw [← e]; exact hx)
    omega)
   omega
theorem reach {t : TR} (h0 : up t 0 = 0) (hu : ∀ j, j < 8 → up t j < 8) {j : Nat} (hj : j < 8) {F : Nat} (hF : it t F j = 0) : it t 7 j = 0 := by
 apply Classical.byContradiction
 intro hne
 have hnz : ∀ k, k ≤ 7 → it t k j ≠ 0 := fun k hk h => hne (it_more h0 h hk)
 by_cases hp : ∃ a b, a < b ∧ b ≤ 7 ∧ it t a j = it t b j
 ·obtain ⟨a, b, hab, hb7, he⟩ := hp
  have hall : ∀ F, it t F j ≠ 0 := by
   intro F
   induction F using Nat.strongRecOn with
   | _ F ih =>
    by_cases hF7 : F ≤ 7
    ·exact hnz F hF7
    ·have e : it t F j = it t (a + (F - b)) j := by
      rw [it_add, he, ← it_add, show b + (F - b) = F by omega]
     rw [e]
     exact ih _ (by omega)
  exact hall F hF
 ·have hnd : ((List.range 8).map fun k => it t k j).Nodup := by
   unfold List.Nodup
   rw [List.pairwise_iff_getElem]
   intro i k hi hk hik
   simp only [List.getElem_map, List.getElem_range]
   exact fun e => hp ⟨i, k, hik, by simp at hk; omega, e⟩
  have hnd2 : (0 :: (List.range 8).map fun k => it t k j).Nodup := by
   rw [List.nodup_cons]
   refine ⟨fun hm => ?_, hnd⟩
   obtain ⟨k, hk, e⟩ := List.mem_map.1 hm
   exact hnz k (by have := List.mem_range.1 hk; omega) e
  have := nodup_le 8 _ hnd2 (fun x hx => by
   rcases List.mem_cons.1 hx with rfl | hx
   ·omega
   ·obtain ⟨k, _, rfl⟩ := List.mem_map.1 hx
    exact it_lt hu k j hj)
  simp at this
structure Good (t : TR) (i : Nat) : Prop where
 p0 : 0 ≤ (t.n i).parent
 p8 : (t.n i).parent < 8
 dir : (t.n (up t i)).kind = 1
 nm : isNameM (t.n i).name = true
 rt : ∃ f, it t f i = 0
 sh : Shaped (t.n i)
structure WF (t : TR) : Prop where
 ok : t.Ok
 root : t.n 0 = Nd.root
 nd : ∀ i, 1 ≤ i → i < 8 → t.n i = Nd.zero ∨ Good t i
 un : ∀ i j, 1 ≤ i → i < 8 → 1 ≤ j → j < 8 → i ≠ j → t.n i ≠ Nd.zero → t.n j ≠ Nd.zero → ¬ Same (t.n i) (t.n j)
 bf : BF t
theorem up_root {t : TR} (h : t.n 0 = Nd.root) : up t 0 = 0 := by rw [up, h]; rfl
theorem rooted_it {t : TR} (hr : t.n 0 = Nd.root) (hp : ∀ j, j < 8 → 0 ≤ (t.n j).parent ∧ (t.n j).parent < 8) : ∀ (f j : Nat), j < 8 → (rootedFrom t f (j : Int) = true ↔ it t f j = 0)
 | 0, j, hj => by
  rw [rootedFrom, it, decide_eq_true_eq]; omega
 | f + 1, j, hj => by
  rw [rootedFrom, it]
  by_cases h : j = 0
  ·subst h
   rw [if_pos (by simp), up_root hr, it_zero (up_root hr)]
   simp
  ·have := hp j hj
   rw [if_neg (by omega), Int.toNat_natCast, if_neg (by omega)]
   have e : (t.n j).parent = ((up t j : Nat) : Int) := by unfold up; omega
   rw [e]
   exact rooted_it hr hp f (up t j) (by unfold up; omega)
theorem par_of {t : TR} (hr : t.n 0 = Nd.root) (h : ∀ i, 1 ≤ i → i < 8 → t.n i = Nd.zero ∨ (0 ≤ (t.n i).parent ∧ (t.n i).parent < 8)) : ∀ j, j < 8 → 0 ≤ (t.n j).parent ∧ (t.n j).parent < 8 := by
 intro j hj
 by_cases h0 : j = 0
 ·subst h0; rw [hr]; decide
 ·rcases h j (by omega) hj with hz | h
  ·rw [hz]; decide
  ·exact h
theorem bd_of {t : TR} (hb : ∀ i, i < 8 → Bks (t.n i)) : ∀ p, p < 16 → Bd (clAt t p) := by
 intro p hp
 have := hb (p / 2) (by omega)
 unfold Bks at this
 unfold clAt Bd
 split <;> (dsimp only; omega)
theorem bks_shaped {n : Nd} (h : Shaped n) : Bks n := by
 unfold Shaped at h
 unfold Bks
 omega
theorem WF.bks {t : TR} (h : WF t) : ∀ i, i < 8 → Bks (t.n i) := by
 intro i hi
 by_cases h0 : i = 0
 ·subst h0; rw [h.root]; decide
 ·rcases h.nd i (by omega) hi with hz | hg
  ·rw [hz]; decide
  ·exact bks_shaped hg.sh
theorem WF.par {t : TR} (h : WF t) : ∀ j, j < 8 → 0 ≤ (t.n j).parent ∧ (t.n j).parent < 8 := par_of h.root fun i h1 hi => (h.nd i h1 hi).imp id fun g => ⟨g.p0, g.p8⟩
theorem WF.up8 {t : TR} (h : WF t) : ∀ j, j < 8 → up t j < 8 := fun j hj => by have := h.par j hj; unfold up; omega
theorem check_wf {t : TR} (ht : t.Ok) : checkM t = true ↔ WF t := by
 rw [check_iff]
 constructor
 ·rintro ⟨h1, h2, h3⟩
  have hp := par_of h1 fun i hi1 hi => (h2 i hi hi1).imp id fun g => ⟨g.1.1, g.1.2.1⟩
  refine ⟨ht, h1, fun i hi1 hi => (h2 i hi hi1).imp id fun ⟨⟨f1, f2, f3, f4, f5, f6⟩, _⟩ => ⟨f1, f2, f3, f4, ⟨8, (rooted_it h1 hp 8 i hi).1 f5⟩, f6⟩, ?_, ?_⟩
  ·intro i j hi1 hi hj1 hj hne hzi hzj hs
   rcases Nat.lt_or_ge j i with hlt | hge
   ·rcases h2 i hi hi1 with hz | ⟨_, hl⟩
    ·exact hzi hz
    ·exact hl j hlt hj1 hzj ⟨hs.1.symm, hs.2.symm⟩
   ·rcases h2 j hj hj1 with hz | ⟨_, hl⟩
    ·exact hzj hz
    ·exact hl i (by omega) hi1 hzi hs
  ·refine (blocks_iff (bd_of fun i hi => ?_)).1 h3
   by_cases h0 : i = 0
   ·subst h0; rw [h1]; decide
   ·rcases h2 i hi (by omega) with hz | hg
    ·rw [hz]; decide
    ·exact bks_shaped hg.1.2.2.2.2.2
 ·intro h
  refine ⟨h.root, fun i hi hi1 => ?_, (blocks_iff (bd_of h.bks)).2 h.bf⟩
  by_cases hz : t.n i = Nd.zero
  ·exact .inl hz
  ·right
   have hg := (h.nd i hi1 hi).resolve_left hz
   refine ⟨⟨hg.p0, hg.p8, hg.dir, hg.nm, ?_, hg.sh⟩, fun j hj hj1 hzj hs => h.un j i hj1 (by omega) hi1 hi (by omega) hzj hz hs⟩
   obtain ⟨f, hf⟩ := hg.rt
   have h7 := reach (up_root h.root) h.up8 hi hf
   exact (rooted_it h.root h.par 8 i hi).2 (it_more (up_root h.root) h7 (by omega))
theorem it_same {t t' : TR} {S : Nat → Prop} (hc : ∀ j, S j → j ≠ 0 → S (up t j)) (ha : ∀ j, S j → j ≠ 0 → up t' j = up t j) (h0 : up t 0 = 0) (h0' : up t' 0 = 0) : ∀ (f j : Nat), S j → it t f j = 0 → it t' f j = 0
 | 0, j, _, h => h
 | f + 1, j, hs, h => by
  by_cases hj : j = 0
  ·subst hj; exact it_zero h0' _
  ·rw [it] at h ⊢
   rw [ha j hs hj]
   exact it_same hc ha h0 h0' f _ (hc j hs hj) h
theorem kind_of_good {t : TR} (h : WF t) {i : Nat} (hi : i < 8) (hk : (t.n i).kind = 0) : 1 ≤ i ∧ t.n i = Nd.zero := by
 by_cases h0 : i = 0
 ·subst h0; rw [h.root] at hk; exact absurd hk (by decide)
 ·refine ⟨by omega, ?_⟩
  rcases h.nd i (by omega) hi with hz | hg
  ·exact hz
  ·have := hg.sh
   unfold Shaped at this
   omega
theorem nz_kind {t : TR} (h : WF t) {i : Nat} (hi : i < 8) (hn : t.n i ≠ Nd.zero) : (t.n i).kind ≠ 0 := fun hk => hn (kind_of_good h hi hk).2
theorem kind_nz {t : TR} {i : Nat} (hk : (t.n i).kind ≠ 0) : t.n i ≠ Nd.zero := fun e => hk (by rw [e]; rfl)
theorem WF.alive_up {t : TR} (h : WF t) {i : Nat} (hi : i < 8) (h0 : i ≠ 0) (hn : t.n i ≠ Nd.zero) : (t.n (up t i)).kind = 1 :=
 ((h.nd i (by omega) hi).resolve_left hn).dir
theorem bf_same {t t' : TR} (hc : ∀ p, p < 16 → (clAt t' p).1 = (clAt t p).1 ∧ ((clAt t p).1 ≠ 0 → (clAt t' p).2 = (clAt t p).2)) (hb : ∀ k, k < 8 → t'.b k = t.b k) (h : BF t) : BF t' := by
 refine ⟨fun p q hp hq hne h1 => ?_, fun k q hk hq hl => ?_⟩
 ·rw [(hc p hp).1] at h1 ⊢
  rw [(hc q hq).1]
  exact h.one p q hp hq hne h1
 ·rw [hb k hk]
  refine h.nought k q hk hq (fun p hp he => ?_)
  rw [← (hc p hp).2 (by omega)]
  exact hl p hp (by rw [(hc p hp).1]; exact he)
theorem clAt_set {t : TR} (ht : t.Ok) {i : Nat} (hi : i < 8) {x : Nd} (h0 : x.b0 = (t.n i).b0) (h1 : x.b1 = (t.n i).b1) (hs : (t.n i).b0 ≠ 0 ∨ (t.n i).b1 ≠ 0 → x.size = (t.n i).size) : ∀ p, p < 16 → (clAt (t.set i x) p).1 = (clAt t p).1 ∧ ((clAt t p).1 ≠ 0 → (clAt (t.set i x) p).2 = (clAt t p).2) := by
 intro p hp
 unfold clAt
 by_cases e : i = p / 2
 ·have hn : (t.set i x).n (p / 2) = x := by rw [TR.n_set ht hi, if_pos e]
  rw [hn, ← e]
  split
  ·exact ⟨h0, fun hne => by dsimp only at hne ⊢; rw [hs (.inl hne)]⟩
  ·exact ⟨h1, fun hne => by dsimp only at hne ⊢; rw [hs (.inr hne)]⟩
 ·have hn : (t.set i x).n (p / 2) = t.n (p / 2) := by rw [TR.n_set ht hi, if_neg e]
  rw [hn]
  exact ⟨rfl, fun _ => rfl⟩
theorem childM_none {t : TR} {d : Int} {nm : Str} (h : childM t d nm < 0) : ∀ j : Nat, 1 ≤ j → j < 8 → ¬ ((t.n j).kind ≠ 0 ∧ (t.n j).parent = d ∧ (t.n j).name = nm) := by
 have key : ∀ (f i : Nat), childFrom t d nm f i < 0 → ∀ j, i ≤ j → j < i + f → ¬ ((t.n j).kind ≠ 0 ∧ (t.n j).parent = d ∧ (t.n j).name = nm) := by
  intro f
  induction f with
  | zero => intro i _ j h1 h2; omega
  | succ f ih =>
   intro i h j h1 h2
   rw [childFrom] at h
   split at h
   ·omega
   ·rename_i hn
    by_cases e : j = i
    ·subst e; exact hn
    ·exact ih (i + 1) h j (by omega) (by omega)
 exact fun j h1 h2 => key 7 1 h j h1 (by omega)
theorem freeFrom_some {t : TR} : ∀ {f i k : Nat}, freeFrom t f i = some k → i ≤ k ∧ k < i + f ∧ (t.n k).kind = 0
 | 0, i, k, h => by cases h
 | f + 1, i, k, h => by
  rw [freeFrom] at h
  split at h
  ·rename_i hk
   cases h
   exact ⟨Nat.le_refl _, by omega, hk⟩
  ·have := freeFrom_some h
   omega
theorem wf_make {t : TR} (h : WF t) {i d : Nat} {k : Int} {nm : Str} (hi1 : 1 ≤ i) (hi : i < 8) (hz : t.n i = Nd.zero) (hk : k = 1 ∨ k = 2) (hd : d < 8) (hdk : (t.n d).kind = 1) (hnm : isNameM nm = true) (hch : childM t (d : Int) nm < 0) : WF (t.set i ⟨k, (d : Int), nm, 0, 0, 0⟩) := by
 have hn : ∀ j, (t.set i ⟨k, (d : Int), nm, 0, 0, 0⟩).n j = if i = j then ⟨k, (d : Int), nm, 0, 0, 0⟩ else t.n j := fun j => TR.n_set h.ok hi _ j
 have hdi : i ≠ d := fun e => by rw [← e, hz] at hdk; exact absurd hdk (by decide)
 have h0 := up_root h.root
 have hr : (t.set i ⟨k, (d : Int), nm, 0, 0, 0⟩).n 0 = Nd.root := by rw [hn, if_neg (by omega), h.root]
 have h0' := up_root hr
 have hsame := it_same (t := t) (t' := t.set i ⟨k, (d : Int), nm, 0, 0, 0⟩) (S := fun j => j < 8 ∧ t.n j ≠ Nd.zero)
  (fun j hj hj0 => ⟨h.up8 j hj.1, kind_nz (by rw [h.alive_up hj.1 hj0 hj.2]; decide)⟩)
  (fun j hj hj0 => by
   have : i ≠ j := fun e => hj.2 (by rw [← e, hz])
   unfold up; rw [hn, if_neg this]) h0 h0'
 have hrd : ∀ j, j < 8 → t.n j ≠ Nd.zero → ∃ f, it (t.set i ⟨k, (d : Int), nm, 0, 0, 0⟩) f j = 0 := by
  intro j hj hnz
  by_cases hj0 : j = 0
  ·subst hj0; exact ⟨0, rfl⟩
  ·obtain ⟨f, hf⟩ := ((h.nd j (by omega) hj).resolve_left hnz).rt
   exact ⟨f, hsame f j ⟨hj, hnz⟩ hf⟩
 refine ⟨TR.ok_set h.ok _ _, hr, fun j hj1 hj => ?_, ?_, ?_⟩
 ·by_cases e : i = j
  ·right
   subst e
   have hni : (t.set i ⟨k, (d : Int), nm, 0, 0, 0⟩).n i = ⟨k, (d : Int), nm, 0, 0, 0⟩ := by rw [hn, if_pos rfl]
   have hup : up (t.set i ⟨k, (d : Int), nm, 0, 0, 0⟩) i = d := by unfold up; rw [hni]; exact Int.toNat_natCast d
   refine ⟨by rw [hni]; dsimp only; omega, by rw [hni]; dsimp only; omega, by rw [hup, hn, if_neg hdi]; exact hdk, by rw [hni]; exact hnm, ?_, ?_⟩
   ·obtain ⟨f, hf⟩ := hrd d hd (kind_nz (by rw [hdk]; decide))
    exact ⟨f + 1, by rw [it, hup]; exact hf⟩
   ·rw [hni]; unfold Shaped; dsimp only; omega
  ·by_cases hnz : t.n j = Nd.zero
   ·left; rw [hn, if_neg e]; exact hnz
   ·right
    have hg := (h.nd j hj1 hj).resolve_left hnz
    have hnj : (t.set i ⟨k, (d : Int), nm, 0, 0, 0⟩).n j = t.n j := by rw [hn, if_neg e]
    have hup : up (t.set i ⟨k, (d : Int), nm, 0, 0, 0⟩) j = up t j := by unfold up; rw [hnj]
    have hne : i ≠ up t j := fun e' => by have := hg.dir; rw [← e', hz] at this; exact absurd this (by decide)
    exact ⟨by rw [hnj]; exact hg.p0, by rw [hnj]; exact hg.p8, by rw [hup, hn, if_neg hne]; exact hg.dir, by rw [hnj]; exact hg.nm, hrd j hj hnz, by rw [hnj]; exact hg.sh⟩
 ·intro a b ha1 ha hb1 hb hne hza hzb hs
  rw [hn] at hza hs
  rw [hn b] at hzb hs
  by_cases ea : i = a
  ·rw [if_pos ea] at hs
   have eb : i ≠ b := fun e => hne (by rw [← ea, e])
   rw [if_neg eb] at hs hzb
   exact childM_none hch b hb1 hb ⟨nz_kind h hb hzb, hs.1.symm, hs.2.symm⟩
  ·rw [if_neg ea] at hs hza
   by_cases eb : i = b
   ·rw [if_pos eb] at hs
    exact childM_none hch a ha1 ha ⟨nz_kind h ha hza, hs.1, hs.2⟩
   ·rw [if_neg eb] at hs hzb
    exact h.un a b ha1 ha hb1 hb hne hza hzb hs
 ·refine bf_same (clAt_set h.ok hi (by rw [hz]; rfl) (by rw [hz]; rfl) (fun hx => ?_)) (fun k hk => rfl) h.bf
  rw [hz] at hx
  rcases hx with hx | hx <;> exact absurd rfl hx
theorem bf_clear {t t' : TR} {i : Nat} (h : BF t) (hp : ∀ p, p < 16 → p / 2 ≠ i → clAt t' p = clAt t p) (hi : ∀ p, p < 16 → p / 2 = i → (clAt t' p).1 = 0)
  (hc : ∀ k p : Nat, k < 8 → p < 16 → p / 2 = i → (clAt t p).1 = (k : Int) + 1 → t'.b k = List.replicate 40 0) (hs : ∀ k : Nat, k < 8 → (∀ p, p < 16 → p / 2 = i → (clAt t p).1 ≠ (k : Int) + 1) → t'.b k = t.b k) : BF t' := by
 have hin : ∀ p, p < 16 → (clAt t' p).1 ≠ 0 → p / 2 ≠ i := fun p hp16 hn e => hn (hi p hp16 e)
 refine ⟨fun p q hp16 hq16 hne h1 => ?_, fun k q hk hq hl => ?_⟩
 ·have e1 := hin p hp16 h1
  rw [hp p hp16 e1] at h1 ⊢
  by_cases e2 : q / 2 = i
  ·rw [hi q hq16 e2]; exact h1
  ·rw [hp q hq16 e2]
   exact h.one p q hp16 hq16 hne h1
 ·by_cases hx : ∃ p, p < 16 ∧ p / 2 = i ∧ (clAt t p).1 = (k : Int) + 1
  ·obtain ⟨p, hp16, e, he⟩ := hx
   rw [hc k p hk hp16 e he]
   rw [List.getElem?_replicate, if_pos hq]
  ·rw [hs k hk (fun p hp16 e he => hx ⟨p, hp16, e, he⟩)]
   refine h.nought k q hk hq (fun p hp16 he => ?_)
   have e : p / 2 ≠ i := fun e => hx ⟨p, hp16, e, he⟩
   rw [← hp p hp16 e]
   exact hl p hp16 (by rw [hp p hp16 e]; exact he)
theorem clr_b {t : TR} (ht : t.Ok) {b : Int} (hb : 0 ≤ b ∧ b ≤ 8) {k : Nat} (hk : k < 8) : (clrM t b).b k = if b = (k : Int) + 1 then List.replicate 40 0 else t.b k := by
 unfold clrM
 by_cases h : b = 0
 ·subst h
  rw [if_neg (by simp), if_neg (by omega)]
 ·rw [if_pos h, TR.b_setB ht (by omega)]
  by_cases e : b = (k : Int) + 1
  ·rw [if_pos (by omega), if_pos e]
  ·rw [if_neg (by omega), if_neg e]
theorem clAt_of {t : TR} {p : Nat} : (clAt t p).1 = if p % 2 = 0 then (t.n (p / 2)).b0 else (t.n (p / 2)).b1 := by
 unfold clAt
 split <;> rfl
theorem empty_b {t : TR} (ht : t.Ok) {i : Nat} (hb : Bks (t.n i)) {x : Nd} {k : Nat} (hk : k < 8) : ((clrM (clrM t (t.n i).b0) (t.n i).b1).set i x).b k = if (t.n i).b0 = (k : Int) + 1 ∨ (t.n i).b1 = (k : Int) + 1 then List.replicate 40 0 else t.b k := by
 rw [TR.b_set, clr_b (ok_clr ht) ⟨hb.2.2.1, hb.2.2.2⟩ hk, clr_b ht ⟨hb.1, hb.2.1⟩ hk]
 by_cases h1 : (t.n i).b1 = (k : Int) + 1
 ·rw [if_pos h1, if_pos (.inr h1)]
 ·rw [if_neg h1]
  by_cases h0 : (t.n i).b0 = (k : Int) + 1
  ·rw [if_pos h0, if_pos (.inl h0)]
  ·rw [if_neg h0, if_neg (by intro h; exact h.elim h0 h1)]
theorem bf_empty {t : TR} (h : WF t) {i : Nat} (hi : i < 8) {x : Nd} (h0 : x.b0 = 0) (h1 : x.b1 = 0) : BF ((clrM (clrM t (t.n i).b0) (t.n i).b1).set i x) := by
 have hb := h.bks i hi
 have hok := ok_clr (ok_clr h.ok (b := (t.n i).b0)) (b := (t.n i).b1)
 have hn : ∀ j, ((clrM (clrM t (t.n i).b0) (t.n i).b1).set i x).n j = if i = j then x else t.n j := fun j => by rw [TR.n_set hok hi, n_clr, n_clr]
 refine bf_clear (i := i) h.bf (fun p hp e => ?_) (fun p hp e => ?_) (fun k p hk hp e he => ?_) (fun k hk hp => ?_)
 ·have hne := hn (p / 2)
  rw [if_neg (fun e' => e e'.symm)] at hne
  unfold clAt
  rw [hne]
 ·rw [clAt_of, hn, if_pos e.symm, h0, h1]
  split <;> rfl
 ·rw [empty_b h.ok hb hk, if_pos]
  rw [clAt_of, e] at he
  split at he
  ·exact .inl he
  ·exact .inr he
 ·rw [empty_b h.ok hb hk, if_neg]
  have a0 := hp (2 * i) (by omega) (by omega)
  have a1 := hp (2 * i + 1) (by omega) (by omega)
  rw [clAt_of, if_pos (by omega), show 2 * i / 2 = i by omega] at a0
  rw [clAt_of, if_neg (by omega), show (2 * i + 1) / 2 = i by omega] at a1
  intro hx
  exact hx.elim a0 a1
theorem held_none {t : TR} {a : Int} : ∀ {f i : Nat}, heldFrom t a f i = false → ∀ j, i ≤ j → j < i + f → ¬ ((t.n j).kind ≠ 0 ∧ (t.n j).parent = a)
 | 0, i, _, j, h1, h2 => by omega
 | f + 1, i, h, j, h1, h2 => by
  rw [heldFrom] at h
  split at h
  ·cases h
  ·rename_i hn
   by_cases e : j = i
   ·subst e; exact hn
   ·exact held_none h j (by omega) (by omega)
theorem wf_remove {t : TR} (h : WF t) {i : Nat} (hi1 : 1 ≤ i) (hi : i < 8) (hh : heldFrom t (i : Int) 7 1 = false) : WF ((emptyM t i).set i Nd.zero) := by
 have e0 : (emptyM t i).set i Nd.zero = (clrM (clrM t (t.n i).b0) (t.n i).b1).set i Nd.zero := by
  unfold emptyM
  rw [TR.set, TR.set, List.set_set]
  rfl
 have hn : ∀ j, ((emptyM t i).set i Nd.zero).n j = if i = j then Nd.zero else t.n j := fun j => by
  rw [e0, TR.n_set (ok_clr (ok_clr h.ok)) hi, n_clr, n_clr]
 have hb : BF ((emptyM t i).set i Nd.zero) := by rw [e0]; exact bf_empty h hi rfl rfl
 have hok := TR.ok_set (ok_empty h.ok (i := i)) i Nd.zero
 generalize (emptyM t i).set i Nd.zero = t' at *
 have hr : t'.n 0 = Nd.root := by rw [hn, if_neg (by omega), h.root]
 have hnz : ∀ j, t'.n j ≠ Nd.zero → i ≠ j ∧ t'.n j = t.n j := fun j hz => by
  rw [hn] at hz ⊢
  split at hz
  ·exact absurd rfl hz
  ·rename_i e; exact ⟨e, by rw [if_neg e]⟩
 have hch : ∀ j, 1 ≤ j → j < 8 → t.n j ≠ Nd.zero → up t j ≠ i := fun j hj1 hj hz e => held_none hh j hj1 (by omega) ⟨nz_kind h hj hz, by
  have := h.par j hj
  unfold up at e
  omega⟩
 refine ⟨hok, hr, fun j hj1 hj => ?_, fun a b ha1 ha hb1 hb' hne hza hzb hs => ?_, hb⟩
 ·by_cases hz : t'.n j = Nd.zero
  ·exact .inl hz
  ·right
   obtain ⟨e, hnj⟩ := hnz j hz
   have hzt : t.n j ≠ Nd.zero := by rw [← hnj]; exact hz
   have hg := (h.nd j hj1 hj).resolve_left hzt
   obtain ⟨f, hf⟩ := hg.rt
   have hupj : up t' j = up t j := by unfold up; rw [hnj]
   have hkd : (t'.n (up t j)).kind = 1 := by
    rw [hn, if_neg (fun e' => hch j hj1 hj hzt e'.symm)]
    exact hg.dir
   refine ⟨by rw [hnj]; exact hg.p0, by rw [hnj]; exact hg.p8, by rw [hupj]; exact hkd, by rw [hnj]; exact hg.nm, ⟨f, ?_⟩, by rw [hnj]; exact hg.sh⟩
   refine it_same (S := fun j => j < 8 ∧ t.n j ≠ Nd.zero ∧ i ≠ j) (fun j hs h0 => ⟨h.up8 j hs.1, kind_nz (by rw [h.alive_up hs.1 h0 hs.2.1]; decide), fun e' => hch j (by omega) hs.1 hs.2.1 e'.symm⟩) (fun j hs h0 => by unfold up; rw [hn, if_neg hs.2.2]) (up_root h.root) (up_root hr) f j ⟨hj, hzt, e⟩ hf
 ·obtain ⟨ea, na⟩ := hnz a hza
  obtain ⟨eb, nb⟩ := hnz b hzb
  rw [na] at hza hs
  rw [nb] at hzb hs
  exact h.un a b ha1 ha hb1 hb' hne hza hzb hs
theorem wf_same {t t' : TR} (h : WF t) (hok : t'.Ok) (hr : t'.n 0 = Nd.root) (hp : ∀ j, (t'.n j).parent = (t.n j).parent ∧ (t'.n j).name = (t.n j).name ∧ (t'.n j).kind = (t.n j).kind) (hz : ∀ j, j < 8 → t.n j = Nd.zero → t'.n j = Nd.zero) (hsh : ∀ j, 1 ≤ j → j < 8 → t.n j ≠ Nd.zero → Shaped (t'.n j)) (hb : BF t') : WF t' := by
 have hup : ∀ j, up t' j = up t j := fun j => by unfold up; rw [(hp j).1]
 refine ⟨hok, hr, fun j hj1 hj => ?_, fun a b ha1 ha hb1 hb' hne hza hzb hs => ?_, hb⟩
 ·by_cases hzj : t.n j = Nd.zero
  ·exact .inl (hz j hj hzj)
  ·right
   have hg := (h.nd j hj1 hj).resolve_left hzj
   obtain ⟨f, hf⟩ := hg.rt
   refine ⟨by rw [(hp j).1]; exact hg.p0, by rw [(hp j).1]; exact hg.p8, by rw [hup, (hp _).2.2]; exact hg.dir, by rw [(hp j).2.1]; exact hg.nm, ⟨f, ?_⟩, hsh j hj1 hj hzj⟩
   exact it_same (S := fun _ => True) (fun _ _ _ => trivial) (fun j _ _ => hup j) (up_root h.root) (up_root hr) f j trivial hf
 ·exact h.un a b ha1 ha hb1 hb' hne (fun e => hza (hz a ha e)) (fun e => hzb (hz b hb' e)) ⟨by rw [← (hp a).1, ← (hp b).1]; exact hs.1, by rw [← (hp a).2.1, ← (hp b).2.1]; exact hs.2⟩
def Fresh (t : TR) (x : Int) : Prop := 1 ≤ x ∧ x ≤ 8 ∧ ∀ i, i < 8 → (t.n i).b0 ≠ x ∧ (t.n i).b1 ≠ x
theorem unusedFrom_fresh {t : TR} : ∀ {f b : Nat}, unusedFrom t f b ≠ 0 → hasB t (unusedFrom t f b) = false
 | 0, b, h => absurd rfl h
 | f + 1, b, h => by
  rw [unusedFrom] at h ⊢
  split at h
  ·rename_i hb
   rw [if_pos hb]
   exact unusedFrom_fresh h
  ·rename_i hb
   rw [if_neg hb]
   simpa using hb
theorem unused_fresh {t : TR} (ht : t.Ok) (h : unusedM t ≠ 0) : Fresh t (unusedM t) := by
 have h1 : hasB t (unusedM t) = false := unusedFrom_fresh h
 refine ⟨by omega, by have := unusedM_le (t := t); omega, fun i hi => ?_⟩
 unfold hasB at h1
 rw [List.any_eq_false] at h1
 have := h1 (t.n i) (by rw [TR.n_get ht hi]; exact List.getElem_mem _)
 simpa using this
structure Grown (t u : TR) (f : Nat) (size : Int) (x0 x1 : Int) : Prop where
 eq : u = t.set f { t.n f with size := size, b0 := x0, b1 := x1 }
 a0 : x0 = (t.n f).b0 ∨ ((t.n f).b0 = 0 ∧ 0 < size ∧ Fresh t x0)
 a1 : x1 = (t.n f).b1 ∨ ((t.n f).b1 = 0 ∧ 40 < size ∧ Fresh t x1 ∧ x1 ≠ x0)
 c0 : 0 < size → x0 ≠ 0
 c1 : 40 < size → x1 ≠ 0
theorem set_self_n {t : TR} (ht : t.Ok) {f : Nat} (hf : f < 8) : t.set f (t.n f) = t := by
 unfold TR.set
 rw [TR.n_get ht hf, List.set_getElem_self]
theorem grown_of {t u : TR} {f : Nat} {size quota : Int} (ht : t.Ok) (hf : f < 8) (h : growM t f size quota = some u) : ∃ x0 x1, Grown t u f size x0 x1 := by
 rw [growM_eq] at h
 unfold growTo growTo growTo at h
 simp only [Option.bind_some] at h
 cases h0 : growJ t f size quota 0 with
 | none => rw [h0] at h; cases h
 | some a =>
  rw [h0, Option.bind_some] at h
  cases h1 : growJ a f size quota 1 with
  | none => rw [h1] at h; cases h
  | some b =>
   rw [h1, Option.map_some] at h
   cases h
   have e0 : ∃ x0, a = t.set f { t.n f with b0 := x0 } ∧ (x0 = (t.n f).b0 ∨ ((t.n f).b0 = 0 ∧ 0 < size ∧ Fresh t x0)) ∧ (0 < size → x0 ≠ 0) := by
    unfold growJ at h0
    split at h0
    ·rename_i hc
     cases h0
     refine ⟨(t.n f).b0, (set_self_n ht hf).symm, .inl rfl, fun hs => ?_⟩
     rcases hc with hc | hc
     ·omega
     ·exact hc
    ·rename_i hc
     split at h0
     ·cases h0
     ·rename_i hc2
      cases h0
      have hfr := unused_fresh ht (show unusedM t ≠ 0 by omega)
      have hc' : ¬ (size ≤ ((0 : Nat) : Int) * 40) ∧ ¬ ((t.n f).b0 ≠ 0) := ⟨fun h => hc (.inl h), fun h => hc (.inr h)⟩
      exact ⟨unusedM t, rfl, .inr ⟨by omega, by omega, hfr⟩, fun _ => by have := hfr.1; omega⟩
   obtain ⟨x0, ea, p0, q0⟩ := e0
   have oka : a.Ok := by rw [ea]; exact TR.ok_set ht _ _
   have ena : a.n f = { t.n f with b0 := x0 } := by rw [ea, TR.n_set ht hf, if_pos rfl]
   have e1 : ∃ x1, b = t.set f { t.n f with b0 := x0, b1 := x1 } ∧ (x1 = (t.n f).b1 ∨ ((t.n f).b1 = 0 ∧ 40 < size ∧ Fresh t x1 ∧ x1 ≠ x0)) ∧ (40 < size → x1 ≠ 0) := by
    unfold growJ at h1
    split at h1
    ·rename_i hc
     cases h1
     refine ⟨(t.n f).b1, ?_, .inl rfl, fun hs => ?_⟩
     ·exact ea
     ·rcases hc with hc | hc
      ·omega
      ·rw [ena] at hc; exact hc
    ·rename_i hc
     split at h1
     ·cases h1
     ·rename_i hc2
      cases h1
      have hfr := unused_fresh oka (show unusedM a ≠ 0 by omega)
      have hc' : ¬ (size ≤ ((1 : Nat) : Int) * 40) ∧ ¬ ((a.n f).b1 ≠ 0) := ⟨fun h => hc (.inl h), fun h => hc (.inr h)⟩
      have hb1 : (a.n f).b1 = (t.n f).b1 := by rw [ena]
      have hx0 : (a.n f).b0 = x0 := by rw [ena]
      have hff := hfr.2.2 f hf
      refine ⟨unusedM a, ?_, .inr ⟨by omega, by omega, ⟨hfr.1, hfr.2.1, fun i hi => ?_⟩, by omega⟩, fun _ => by have := hfr.1; omega⟩
      ·rw [ena, ea]
       unfold TR.set
       rw [List.set_set]
       rfl
      ·by_cases e : f = i
       ·subst e
        refine ⟨?_, by rw [← hb1]; exact hff.2⟩
        rcases p0 with p0 | p0
        ·rw [← p0, ← hx0]; exact hff.1
        ·have := hfr.1; omega
       ·have := hfr.2.2 i hi
        have hni : a.n i = t.n i := by rw [ea, TR.n_set ht hf, if_neg e]
        rw [hni] at this
        exact this
   obtain ⟨x1, eb, p1, q1⟩ := e1
   have okb : b.n f = { t.n f with b0 := x0, b1 := x1 } := by rw [eb, TR.n_set ht hf, if_pos rfl]
   refine ⟨x0, x1, ?_, p0, p1, q0, q1⟩
   rw [okb, eb]
   unfold TR.set
   rw [List.set_set]
theorem poke_other {u : TR} (hu : u.Ok) {f p : Nat} {c : UInt8} (hb : 0 < (u.n f).blk (p / 40) ∧ (u.n f).blk (p / 40) ≤ 8) {k q : Nat} (hn : ¬ ((u.n f).blk (p / 40) = (k : Int) + 1 ∧ p % 40 = q)) : ((pokeM u f p c).b k)[q]? = (u.b k)[q]? := by
 unfold pokeM
 rw [TR.b_setB hu (by omega)]
 by_cases e : ((u.n f).blk (p / 40) - 1).toNat = k
 ·rw [if_pos e, e]
  have : p % 40 ≠ q := fun h => hn ⟨by omega, h⟩
  rw [List.getElem?_set_ne this]
 ·rw [if_neg e]
theorem pokes_other {f k q : Nat} : ∀ {l : Str} {u : TR} {p : Nat}, u.Ok → (∀ i : Nat, p ≤ i → i < p + l.length → 0 < (u.n f).blk (i / 40) ∧ (u.n f).blk (i / 40) ≤ 8) → (∀ i : Nat, p ≤ i → i < p + l.length → ¬ ((u.n f).blk (i / 40) = (k : Int) + 1 ∧ i % 40 = q)) → ((pokesM u f p l).b k)[q]? = (u.b k)[q]?
 | [], u, p, _, _, _ => rfl
 | c :: l, u, p, hu, hb, hn => by
  rw [pokesM, pokes_other (ok_poke hu (hb p (Nat.le_refl _) (by simp))) (fun i h1 h2 => hb i (by omega) (by simp only [List.length_cons]; omega)) (fun i h1 h2 => hn i (by omega) (by simp only [List.length_cons]; omega))]
  exact poke_other hu (hb p (Nat.le_refl _) (by simp)) (hn p (Nat.le_refl _) (by simp))
theorem wf_write {t u : TR} (h : WF t) {f : Nat} (hf1 : 1 ≤ f) (hf : f < 8) (hk : (t.n f).kind = 2) {size quota : Int} (hg : growM t f size quota = some u) (hs1 : (t.n f).size ≤ size) (hs2 : size ≤ 80) {a : Nat} {l : Str} (hal : (a : Int) + l.length ≤ size) : WF (pokesM u f a l) := by
 obtain ⟨x0, x1, G⟩ := grown_of h.ok hf hg
 obtain ⟨hu, hub, hus, hun⟩ := growM_facts h.ok hf (bksJ_iff.2 (h.bks f hf)) hg
 have hnz : t.n f ≠ Nd.zero := kind_nz (by rw [hk]; decide)
 have hsh := ((h.nd f hf1 hf).resolve_left hnz).sh
 have hun' : ∀ j, u.n j = if f = j then { t.n f with size := size, b0 := x0, b1 := x1 } else t.n j := fun j => by rw [G.eq, TR.n_set h.ok hf]
 have hblk : ∀ i : Nat, a ≤ i → i < a + l.length → 0 < (u.n f).blk (i / 40) ∧ (u.n f).blk (i / 40) ≤ 8 := by
  intro i h1 h2
  have hj : i / 40 < 2 := by omega
  have b1 := hub _ hj
  have b2 := hun _ hj (by have := Nat.div_mul_le_self i 40; omega)
  omega
 have hok : (pokesM u f a l).Ok := ok_pokes hu hblk
 have hn : ∀ j, (pokesM u f a l).n j = u.n j := fun j => pokes_n
 have hb0 : (u.n f).blk 0 = x0 := by rw [hun', if_pos rfl]; rfl
 have hb1 : (u.n f).blk 1 = x1 := by rw [hun', if_pos rfl]; rfl
 have hub0 := hub 0 (by omega)
 have hub1 := hub 1 (by omega)
 rw [hb0] at hub0
 rw [hb1] at hub1
 have hct : ∀ p, (clAt (pokesM u f a l) p) = clAt u p := fun p => by unfold clAt; rw [hn]
 -- a place's number is as it was, or fresh
 have hcl : ∀ p, p < 16 → (p / 2 ≠ f → clAt u p = clAt t p) ∧ (p / 2 = f → (clAt u p).1 = if p % 2 = 0 then x0 else x1) ∧ (p / 2 = f → (clAt t p).1 = if p % 2 = 0 then (t.n f).b0 else (t.n f).b1) := by
  intro p hp
  refine ⟨fun e => ?_, fun e => ?_, fun e => ?_⟩
  ·have := hun' (p / 2)
   rw [if_neg (fun e' => e e'.symm)] at this
   unfold clAt
   rw [this]
  ·rw [clAt_of, e, hun', if_pos rfl]
  ·rw [clAt_of, e]
 have hfr : ∀ x, Fresh t x → ∀ p, p < 16 → (clAt t p).1 ≠ x := by
  intro x hx p hp
  rw [clAt_of]
  have := hx.2.2 (p / 2) (by omega)
  split
  ·exact this.1
  ·exact this.2
 have hor : ∀ p, p < 16 → (clAt u p).1 = (clAt t p).1 ∨ ((clAt t p).1 = 0 ∧ Fresh t (clAt u p).1 ∧ p / 2 = f) := by
  intro p hp
  obtain ⟨q1, q2, q3⟩ := hcl p hp
  by_cases e : p / 2 = f
  ·rw [q2 e, q3 e]
   split
   ·rcases G.a0 with h' | ⟨h1, _, h3⟩
    ·exact .inl h'
    ·exact .inr ⟨h1, h3, e⟩
   ·rcases G.a1 with h' | ⟨h1, _, h3, _⟩
    ·exact .inl h'
    ·exact .inr ⟨h1, h3, e⟩
  ·exact .inl (by rw [q1 e])
 refine wf_same h hok ?_ (fun j => ?_) (fun j hj hz => ?_) (fun j hj1 hj hz => ?_) ⟨fun p q hp hq hne h0 => ?_, fun k q hk8 hq hl => ?_⟩
 ·rw [hn, hun', if_neg (by omega), h.root]
 ·rw [hn, hun']
  split
  ·rename_i e; subst e; exact ⟨rfl, rfl, rfl⟩
  ·exact ⟨rfl, rfl, rfl⟩
 ·rw [hn, hun', if_neg (fun e => hnz (by rw [e]; exact hz)), hz]
 ·rw [hn, hun']
  split
  ·unfold Shaped at hsh ⊢
   dsimp only
   have c0 := G.c0
   have c1 := G.c1
   have a0 := G.a0
   have a1 := G.a1
   right
   refine ⟨hk, by omega, hs2, fun hz' => ?_, fun hz' => ⟨by have := c0 hz'; omega, by omega⟩, fun hz' => ?_, fun hz' => ⟨by have := c1 hz'; omega, by omega⟩⟩
   ·rcases a0 with h' | ⟨_, h', _⟩
    ·omega
    ·omega
   ·rcases a1 with h' | ⟨_, h', _⟩
    ·omega
    ·omega
  ·exact ((h.nd j hj1 hj).resolve_left hz).sh
 ·rw [hct p] at h0 ⊢
  rw [hct q]
  rcases hor p hp with e1 | ⟨e1, f1, g1⟩
  ·rw [e1] at h0 ⊢
   rcases hor q hq with e2 | ⟨e2, f2, g2⟩
   ·rw [e2]; exact h.bf.one p q hp hq hne h0
   ·exact hfr _ f2 p hp
  ·rcases hor q hq with e2 | ⟨e2, f2, g2⟩
   ·rw [e2]; exact fun e => hfr _ f1 q hq e.symm
   ·obtain ⟨_, p2, p3⟩ := hcl p hp
    obtain ⟨_, q2, q3⟩ := hcl q hq
    rw [p2 g1] at f1 ⊢
    rw [q2 g2] at f2 ⊢
    rw [p3 g1] at e1
    rw [q3 g2] at e2
    rcases (show p % 2 = 0 ∧ q % 2 = 1 ∨ p % 2 = 1 ∧ q % 2 = 0 by omega) with ⟨m1, m2⟩ | ⟨m1, m2⟩
    ·rw [if_pos m1, if_neg (by omega)]
     rw [if_pos m1] at f1
     rw [if_neg (by omega)] at f2 e2
     rcases G.a1 with h' | ⟨_, _, _, h'⟩
     ·have := f2.1; omega
     ·exact fun e => h' e.symm
    ·rw [if_neg (by omega), if_pos m2]
     rw [if_neg (by omega)] at f1 e1
     rcases G.a1 with h' | ⟨_, _, _, h'⟩
     ·have := f1.1; omega
     ·exact h'
 ·have hl' : ∀ p, p < 16 → (clAt u p).1 = (k : Int) + 1 → (clAt u p).2 ≤ (q : Int) := fun p hp he => by
   rw [← hct p]; exact hl p hp (by rw [hct p]; exact he)
  have hpk : ∀ i : Nat, a ≤ i → i < a + l.length → ¬ ((u.n f).blk (i / 40) = (k : Int) + 1 ∧ i % 40 = q) := by
   rintro i h1 h2 ⟨e1, e2⟩
   have hj : i / 40 < 2 := by omega
   have hq2 := hl' (2 * f + i / 40) (by omega) (by
    rw [clAt_of, show (2 * f + i / 40) / 2 = f by omega, show (2 * f + i / 40) % 2 = i / 40 by omega, ← e1]
    rfl)
   unfold clAt at hq2
   rw [show (2 * f + i / 40) / 2 = f by omega, show (2 * f + i / 40) % 2 = i / 40 by omega, hun', if_pos rfl] at hq2
   unfold least at hq2
   split at hq2 <;> dsimp only at hq2 <;> split at hq2 <;> omega
  rw [pokes_other hu hblk hpk]
  have hbu : u.b k = t.b k := by rw [G.eq]; rfl
  rw [hbu]
  refine h.bf.nought k q hk8 hq (fun p hp he => ?_)
  obtain ⟨p1, p2, p3⟩ := hcl p hp
  by_cases e : p / 2 = f
  ·have he2 : (clAt u p).1 = (k : Int) + 1 := by
    rcases hor p hp with e1 | ⟨e1, _⟩
    ·rw [e1]; exact he
    ·omega
   have := hl' p hp he2
   have hmono : (clAt t p).2 ≤ (clAt u p).2 := by
    unfold clAt
    rw [e, hun', if_pos rfl]
    unfold least
    split <;> dsimp only <;> split <;> split <;> omega
   omega
  ·rw [← p1 e]
   exact hl' p hp (by rw [p1 e]; exact he)
end Go.Proofs.YtgilmcpdpggikaaGreatDoor

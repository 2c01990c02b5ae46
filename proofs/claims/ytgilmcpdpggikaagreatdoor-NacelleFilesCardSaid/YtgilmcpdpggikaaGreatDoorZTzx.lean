/- Squeezed copy of the texts Tzx Tzy Oc Ks Tg Th Ti. -/
import Derived.Test.YtgilmcpdpggikaaGreatDoorZTx4
import Derived.Test.YtgilmcpdpggikaaGreatDoorZK4
import Derived.Test.YtgilmcpdpggikaaGreatDoorZTy
import Derived.Test.YtgilmcpdpggikaaGreatDoorZTb
set_option maxRecDepth 100000
set_option maxHeartbeats 1000000
set_option linter.unusedSimpArgs false
set_option linter.unusedVariables false
namespace Go.Proofs.YtgilmcpdpggikaaGreatDoor
open Go Go.RowKit Go.Own
def NoSl (s : Str) : Prop := ∀ x ∈ s, x ≠ 47
theorem NoSl.nil : NoSl [] := fun x hx => by cases hx
theorem cut_cases : ∀ s : Str, NoSl s ∨ ∃ a r, NoSl a ∧ s = a ++ 47 :: r
 | [] => .inl NoSl.nil
 | c :: s => by
  by_cases hc : c = 47
  ·subst hc; exact .inr ⟨[], s, NoSl.nil, rfl⟩
  ·rcases cut_cases s with h | ⟨a, r, h1, h2⟩
   ·left; intro x hx
    rcases List.mem_cons.1 hx with rfl | hx
    ·exact hc
    ·exact h x hx
   ·right
    refine ⟨c :: a, r, fun x hx => ?_, by rw [h2]; rfl⟩
    rcases List.mem_cons.1 hx with rfl | hx
    ·exact hc
    ·exact h1 x hx
theorem cutS_no : ∀ {s : Str}, NoSl s → cutS s = (s, none)
 | [], _ => rfl
 | c :: s, h => by
  rw [cutS, if_neg (h c (by simp)), cutS_no (fun x hx => h x (by simp [hx]))]
theorem cutS_app : ∀ {a r : Str}, NoSl a → cutS (a ++ 47 :: r) = (a, some r)
 | [], r, _ => by rw [List.nil_append, cutS, if_pos rfl]
 | c :: a, r, h => by
  rw [List.cons_append, cutS, if_neg (h c (by simp)), cutS_app (fun x hx => h x (by simp [hx]))]
theorem parts_no {s : Str} (h : NoSl s) : parts s = [s] := by
 have e := cutS_no h
 rw [parts_none (by rw [e]), e]
theorem parts_app {a r : Str} (h : NoSl a) : parts (a ++ 47 :: r) = a :: parts r := by
 have e := cutS_app (r := r) h
 rw [parts_some (r := r) (by rw [e]), e]
theorem lastM_no : ∀ {s : Str}, NoSl s → lastM s = none
 | [], _ => rfl
 | c :: s, h => by
  rw [lastM, lastM_no (fun x hx => h x (by simp [hx]))]
  simp [h c (by simp)]
theorem lastM_app : ∀ {a r : Str}, lastM (a ++ 47 :: r) = some (a.length + match lastM r with | some j => j + 1 | none => 0)
 | [], r => by
  rw [List.nil_append, lastM]
  cases lastM r with
  | none => simp
  | some j => simp
 | c :: a, r => by
  rw [List.cons_append, lastM, lastM_app]
  simp
  omega
theorem lastM_none_no {s : Str} (h : lastM s = none) : NoSl s := by
 rcases cut_cases s with h' | ⟨a, r, _, rfl⟩
 ·exact h'
 ·rw [lastM_app] at h; cases h
theorem parts_last : ∀ (n : Nat) (s : Str) (i : Nat), s.length ≤ n → lastM s = some i → parts s = parts (s.take i) ++ [s.drop (i + 1)]
 | 0, s, i, hn, h => by
  obtain rfl : s = [] := List.eq_nil_of_length_eq_zero (by omega)
  cases h
 | n + 1, s, i, hn, h => by
  rcases cut_cases s with h' | ⟨a, r, ha, rfl⟩
  ·rw [lastM_no h'] at h; cases h
  ·rw [lastM_app] at h
   have hrl : r.length ≤ n := by simp at hn; omega
   cases hr : lastM r with
   | none =>
    rw [hr] at h
    simp at h
    subst h
    rw [parts_app ha, parts_no (lastM_none_no hr), List.take_left, parts_no ha]
    simp [List.drop_append]
   | some j =>
    rw [hr] at h
    simp at h
    subst h
    have e1 : (a ++ 47 :: r).take (a.length + (j + 1)) = a ++ 47 :: r.take j := by
     rw [List.take_append, List.take_of_length_le (by omega), show a.length + (j + 1) - a.length = j + 1 by omega, List.take_succ_cons]
    have e2 : (a ++ 47 :: r).drop (a.length + (j + 1) + 1) = r.drop (j + 1) := by
     rw [List.drop_append, List.drop_of_length_le (by omega), show a.length + (j + 1) + 1 - a.length = (j + 1) + 1 by omega, List.nil_append, List.drop_succ_cons]
    rw [e1, e2, parts_app ha, parts_app ha, parts_last n r j hrl hr, List.cons_append]
theorem names_cons {r : Str} (h : r ≠ []) : namesM (47 :: r) = parts r := by
 unfold namesM
 rw [if_neg (by intro e; exact h (by simpa using e))]
 rfl
theorem isName_ne {s : Str} (h : isNameM s = true) : s ≠ [] ∧ s.length ≤ 8 := by
 unfold isNameM at h
 simp only [Bool.and_eq_true, decide_eq_true_eq] at h
 refine ⟨fun e => ?_, h.1.2⟩
 subst e
 simp at h
theorem inner_names {p : Str} (h : isInnerM p = true) : ∃ r, p = 47 :: r ∧ r ≠ [] ∧ p.length ≤ 72 ∧ namesM p = parts r ∧ ∀ x ∈ parts r, isNameM x = true := by
 obtain ⟨h1, h2⟩ := inner_facts h
 unfold isInnerM isPathM at h
 simp only [Bool.and_eq_true, Bool.or_eq_true, decide_eq_true_eq] at h
 cases p with
 | nil => cases h2
 | cons c r =>
  simp at h2; subst h2
  have hr : r ≠ [] := fun e => h.1 (by rw [e])
  have hn := names_cons hr
  rcases h.2 with h3 | h3
  ·exact absurd h3 h.1
  ·refine ⟨r, rfl, hr, h1, hn, fun x hx => ?_⟩
   have := h3.2
   rw [hn] at this
   exact List.all_eq_true.1 this x hx
theorem split_names {p : Str} (h : isInnerM p = true) : namesM p = namesM (splitM p).1 ++ [(splitM p).2] ∧ isNameM (splitM p).2 = true ∧ isPathM (splitM p).1 = true := by
 obtain ⟨r, rfl, hr, hl, hn, hall⟩ := inner_names h
 have hlm : lastM (47 :: r) = some (match lastM r with | some j => j + 1 | none => 0) := by
  have := lastM_app (a := []) (r := r)
  rw [List.nil_append] at this
  rw [this]
  simp
 cases hj : lastM r with
 | none =>
  rw [hj] at hlm
  have hs : splitM (47 :: r) = ([47], r) := by unfold splitM; rw [hlm]; rfl
  have hp := parts_no (lastM_none_no hj)
  rw [hs, hn, hp]
  exact ⟨rfl, hall r (by rw [hp]; simp), rfl⟩
 | some j =>
  rw [hj] at hlm
  have hs : splitM (47 :: r) = (47 :: r.take j, r.drop (j + 1)) := by
   unfold splitM
   rw [hlm]
   simp
  have hp := parts_last r.length r j (Nat.le_refl _) hj
  have hne : r.take j ≠ [] := by
   intro e
   have := hall [] (by rw [hp, e]; exact List.mem_append_left _ (by rw [parts_no NoSl.nil]; simp))
   exact (isName_ne this).1 rfl
  have hnt := names_cons hne
  rw [hs]
  refine ⟨by dsimp only; rw [hn, hp, hnt], hall _ (by rw [hp]; simp), ?_⟩
  dsimp only
  unfold isPathM
  rw [hnt]
  have h1 : (47 :: r.take j).length ≤ 72 := by
   simp only [List.length_cons, List.length_take] at hl ⊢
   omega
  rw [decide_eq_true (show (47 :: r.take j : Str) ≠ [] ∧ (47 :: r.take j).length ≤ 72 ∧ (47 :: r.take j)[0]? = some 47 from ⟨by simp, h1, by simp⟩)]
  simp only [Bool.true_and, Bool.or_eq_true]
  right
  exact List.all_eq_true.2 fun x hx => hall x (by rw [hp]; exact List.mem_append_left _ hx)
theorem walk_snoc {t : TR} {l : List Str} {nm : Str} {a k : Nat} (ha : a < 8) (h : walkM t (l ++ [nm]) a = ((k : Int), 0)) : ∃ d : Nat, d < 8 ∧ walkM t l a = ((d : Int), 0) ∧ (t.n d).kind = 1 ∧ childM t (d : Int) nm = (k : Int) := by
 by_cases he : (walkM t l a).2 = 0
 ·obtain ⟨d, hd, hw⟩ := walk_range l a ha he
  rw [walk_app hw] at h
  rw [walkM] at h
  split at h
  ·cases h
  ·rename_i hk
   split at h
   ·cases h
   ·rw [walkM] at h
    rw [Int.toNat_natCast] at hk
    exact ⟨d, hd, hw, by simpa using hk, (Prod.mk.inj h).1⟩
 ·rw [walk_err he] at h
  rw [h] at he
  exact absurd rfl he
theorem find_inner {t : TR} {p : Str} (hin : isInnerM p = true) {k : Nat} (h : findM t p = ((k : Int), 0)) : 1 ≤ k ∧ k < 8 ∧ (t.n k).kind ≠ 0 ∧ ∃ d : Nat, d < 8 ∧ findM t (splitM p).1 = ((d : Int), 0) ∧ (t.n d).kind = 1 ∧ childM t (d : Int) (splitM p).2 = (k : Int) := by
 obtain ⟨h1, h2, h3⟩ := split_names hin
 have hp : isPathM p = true := by
  unfold isInnerM at hin
  simp only [Bool.and_eq_true] at hin
  exact hin.2
 unfold findM at h
 rw [if_pos hp, h1] at h
 obtain ⟨d, hd, hw, hk, hc⟩ := walk_snoc (a := 0) (by omega) h
 rcases childM_range (t := t) (d := (d : Int)) (nm := (splitM p).2) with hn | ⟨k', hk8, hk1, he, hkk, _, _⟩
 ·omega
 ·obtain rfl : k = k' := by omega
  refine ⟨hk1, hk8, hkk, d, hd, ?_, hk, hc⟩
  unfold findM
  rw [if_pos h3]
  exact hw
theorem kindOf_err {t : TR} {p : Str} {k : Int} (h : ¬ (kindOfM t p k).2 ≠ 0) : ∃ q : Nat, q < 8 ∧ kindOfM t p k = ((q : Int), 0) ∧ (t.n q).kind = k ∧ findM t p = ((q : Int), 0) := kindOfM_range (by simpa using h)
theorem make_ok {t : TR} {p : Str} {k : Int} (h : (makeM t p k).2 = 0) : checkM t = true ∧ (k = 1 ∨ k = 2) ∧ isInnerM p = true ∧ ∃ i d : Nat, findM t (splitM p).1 = ((d : Int), 0) ∧ d < 8 ∧ (t.n d).kind = 1 ∧ childM t (d : Int) (splitM p).2 < 0 ∧ 1 ≤ i ∧ i < 8 ∧ (t.n i).kind = 0 ∧ (makeM t p k).1 = t.set i ⟨k, (d : Int), (splitM p).2, 0, 0, 0⟩ := by
 unfold makeM at h ⊢
 split at h
 ·cases h
 rename_i h1
 split at h
 ·cases h
 rename_i h2
 split at h
 ·rename_i h3; exact absurd h h3
 rename_i h3
 obtain ⟨d, hd, hk, hkd, hfd⟩ := kindOf_err h3
 split at h
 ·cases h
 rename_i h4
 rw [hk] at h4
 split at h
 ·cases h
 rename_i i hi
 have hfr := freeFrom_some hi
 rw [if_neg h1, if_neg h2, if_neg h3, hk, if_neg h4]
 refine ⟨by simpa using h1, by omega, by simpa using fun e => h2 (.inr e), i, d, hfd, hd, hkd, by dsimp only at h4; omega, hfr.1, by omega, hfr.2.2, rfl⟩
theorem check_make {t : TR} (ht : t.Ok) {p : Str} {k : Int} (h : (makeM t p k).2 = 0) : checkM (makeM t p k).1 = true := by
 obtain ⟨hc, hk, hin, i, d, hf, hd, hkd, hch, hi1, hi, hki, e⟩ := make_ok h
 have hw := (check_wf ht).1 hc
 rw [e, check_wf (TR.ok_set ht _ _)]
 exact wf_make hw hi1 hi (kind_of_good hw hi hki).2 hk hd hkd (split_names hin).2.1 hch
theorem file_pos {t : TR} (h : t.n 0 = Nd.root) {f : Nat} (hk : (t.n f).kind = 2) : 1 ≤ f := by
 by_cases h0 : f = 0
 ·subst h0; rw [h] at hk; exact absurd hk (by decide)
 ·omega
theorem remove_ok {t : TR} {p : Str} (h : (removeM t p).2 = 0) : checkM t = true ∧ isInnerM p = true ∧ ∃ f : Nat, findM t p = ((f : Int), 0) ∧ 1 ≤ f ∧ f < 8 ∧ heldFrom t (f : Int) 7 1 = false ∧ (removeM t p).1 = (emptyM t f).set f Nd.zero := by
 unfold removeM at h ⊢
 split at h
 ·cases h
 rename_i h1
 split at h
 ·cases h
 rename_i h2
 split at h
 ·rename_i h3; exact absurd h h3
 rename_i h3
 obtain ⟨f, hf, hfd⟩ := findM_range (t := t) (p := p) (by simpa using h3)
 rw [hfd] at h
 split at h
 ·cases h
 rename_i h4
 have hin : isInnerM p = true := by simpa using h2
 have hfi := find_inner hin hfd
 rw [if_neg h1, if_neg h2, if_neg h3, hfd, if_neg h4]
 exact ⟨by simpa using h1, hin, f, rfl, hfi.1, hf, by simpa using h4, rfl⟩
theorem check_remove {t : TR} (ht : t.Ok) {p : Str} (h : (removeM t p).2 = 0) : checkM (removeM t p).1 = true := by
 obtain ⟨hc, _, f, _, hf1, hf, hh, e⟩ := remove_ok h
 have hw := (check_wf ht).1 hc
 rw [e, check_wf (TR.ok_set (ok_empty ht) _ _)]
 exact wf_remove hw hf1 hf hh
theorem write_ok {t : TR} {p : Str} {a : Int} {l : Str} {qu : Int} (h : (writeM t p a l qu).2 = 0) : checkM t = true ∧ ∃ f o : Nat, findM t p = ((f : Int), 0) ∧ f < 8 ∧ (t.n f).kind = 2 ∧ a = (o : Int) ∧ (o : Int) + l.length ≤ 80 ∧
  ((l.length = 0 ∧ (writeM t p a l qu).1 = t) ∨ (l.length ≠ 0 ∧ ∃ u, growM t f (most (t.n f).size ((o : Int) + l.length)) qu = some u ∧ (writeM t p a l qu).1 = pokesM u f o l)) := by
 unfold writeM at h ⊢
 split at h
 ·cases h
 rename_i h1
 split at h
 ·rename_i h3; exact absurd h h3
 rename_i h3
 obtain ⟨f, hf, hk, hkf, hff⟩ := kindOf_err h3
 split at h
 ·cases h
 rename_i h4
 split at h
 ·cases h
 rename_i h5
 obtain ⟨o, rfl⟩ : ∃ o : Nat, a = o := ⟨a.toNat, by omega⟩
 rw [if_neg h1, if_neg h3, if_neg h4, if_neg h5]
 refine ⟨by simpa using h1, f, o, hff, hf, hkf, rfl, by omega, ?_⟩
 split at h
 ·rename_i h6
  exact .inl ⟨h6, by rw [if_pos h6]⟩
 rename_i h6
 right
 rw [if_neg h6]
 rw [hk] at h ⊢
 refine ⟨h6, ?_⟩
 cases hg : growM t f (most (t.n f).size ((o : Int) + l.length)) qu with
 | none =>
  have : growM t ((f : Int), (0 : Int)).1.toNat (most (t.n ((f : Int), (0 : Int)).1.toNat).size ((o : Int) + l.length)) qu = none := hg
  rw [this] at h
  cases h
 | some u =>
  have : growM t ((f : Int), (0 : Int)).1.toNat (most (t.n ((f : Int), (0 : Int)).1.toNat).size ((o : Int) + l.length)) qu = some u := hg
  rw [this]
  exact ⟨u, rfl, rfl⟩
theorem check_write {t : TR} (ht : t.Ok) {p : Str} {a : Int} {l : Str} {qu : Int} (h : (writeM t p a l qu).2 = 0) : checkM (writeM t p a l qu).1 = true := by
 obtain ⟨hc, f, o, _, hf, hk, rfl, ho, ⟨_, e⟩ | ⟨hl, u, hg, e⟩⟩ := write_ok h
 ·rw [e]; exact hc
 ·have hw := (check_wf ht).1 hc
  have hf1 := file_pos hw.root hk
  have hok := ok_write ht (p := p) (a := (o : Int)) (l := l) (qu := qu)
  rw [e] at hok ⊢
  have hsh := ((hw.nd f hf1 hf).resolve_left (kind_nz (by rw [hk]; decide))).sh
  unfold Shaped at hsh
  rw [check_wf hok]
  exact wf_write hw hf1 hf hk hg (by unfold most; split <;> omega) (by unfold most; split <;> omega) (by unfold most; split <;> omega)
theorem check_new : checkM TR.new = true := by decide +kernel
def byteAt (n i : Nat) : UInt8 := UInt8.ofNat (n >>> (8 * i))
def putN (n size : Nat) : List UInt8 := (List.range size).map (byteAt n)
theorem putN_len (n size : Nat) : (putN n size).length = size := by simp [putN]
theorem putN_succ (n i : Nat) : putN n (i + 1) = putN n i ++ [byteAt n i] := by simp [putN, List.range_succ]
theorem put_set (n : Nat) {i size : Nat} (h : i < size) : (u8s (putN n i ++ List.replicate (size - i) 0)).set (0 + i * 1) (.int .u8 ((n >>> (8 * i) % 2 ^ 8 : Nat) : Int)) = u8s (putN n (i + 1) ++ List.replicate (size - (i + 1)) 0) := by
 have e1 : size - i = (size - (i + 1)) + 1 := by omega
 have e2 : (Value.int .u8 ((n >>> (8 * i) % 2 ^ 8 : Nat) : Int)) = u8 (byteAt n i) := by simp [u8, byteAt]
 rw [e1, List.replicate_succ, u8s_app, u8s_app, putN_succ, u8s_app, Nat.zero_add, Nat.mul_one, e2, List.set_append_right _ _ (by rw [u8s_len, putN_len]; exact Nat.le_refl _), u8s_len, putN_len, Nat.sub_self, List.append_assoc]
 rfl
theorem rep_flat (n : Nat) (v : Value) : (List.replicate n [v]).flatten = List.replicate n v := by
 induction n with
 | zero => rfl
 | succ n ih => rw [List.replicate_succ, List.flatten_cons, ih, List.replicate_succ]; rfl
def numI (l : List UInt8) : Nat → Nat
 | 0 => 0
 | i + 1 => numI l i ||| ((l[i]?.getD 0).toNat <<< (8 * i))
def numN (l : List UInt8) : Nat := numI l l.length
theorem shl_lt (x : UInt8) (i : Nat) : x.toNat <<< (8 * i) < 2 ^ (8 * (i + 1)) := by
 rw [Nat.shiftLeft_eq, Nat.mul_add, Nat.pow_add, Nat.mul_comm]
 exact Nat.mul_lt_mul_of_pos_left (by have := x.toNat_lt; omega) (Nat.two_pow_pos _)
theorem numI_lt (l : List UInt8) : ∀ i, numI l i < 2 ^ (8 * i)
 | 0 => by simp [numI]
 | i + 1 => Nat.or_lt_two_pow (Nat.lt_of_lt_of_le (numI_lt l i) (Nat.pow_le_pow_right (by decide) (by omega))) (shl_lt _ _)
theorem numI_64 (l : List UInt8) {i : Nat} (h : i ≤ 8) : numI l i < 2 ^ 64 := Nat.lt_of_lt_of_le (numI_lt l i) (Nat.pow_le_pow_right (by decide) (by omega))
theorem shl_64 (x : UInt8) {i : Nat} (h : i < 8) : (x.toNat <<< (8 * i)) % 2 ^ 64 = x.toNat <<< (8 * i) := Nat.mod_eq_of_lt (Nat.lt_of_lt_of_le (shl_lt x i) (Nat.pow_le_pow_right (by decide) (by omega)))
section
variable {s : Ro} {w : World} {R : List Asn}
theorem Put_s {n size : Nat} (H : Holds s w R) (h1 : 1 ≤ size) (h8 : size ≤ 8) : Calls Tryz.prog 126 #[.int .u64 (n : Int), .int .i64 (size : Int)] w fun e w' => ∃ g, e = .returned (.slice (some ⟨g, 0, none⟩) (putN n size).length size) ∧ Holds s w' (row 5 1 (.slice (some ⟨g, 0, none⟩) (putN n size).length size) (putN n size).length (u8s (putN n size)) :: R) := by
 refine enter Tryz.func126 rfl Tryz.ntmps126 rfl ?_
 refine Gq3 H ?_
 refine K.make (k := size) (m := size) H rfl rfl rfl rfl rfl (Nat.le_refl _) (by omega) (by unfold maxLen; omega) ?_
 clear H
 intro gb w H
 rw [rep_flat] at H
 have H' : Holds s w (row 5 1 (.slice (some ⟨gb, 0, none⟩) size size) size (u8s (putN n 0 ++ List.replicate (size - 0) 0)) :: R) := by
  have : u8s (putN n 0 ++ List.replicate (size - 0) 0) = List.replicate size (Value.int .u8 0) := by simp [putN, u8s, u8]
  rw [this]; exact H
 clear H
 have H := H'
 clear H'
 refine Gq3 H ?_
 refine C.loopR H [6, 17, 18, 19, 20, 21, 22, 23, 24, 25, 26, 27, 28] [17] rfl (fun m vs A => ∃ i : Nat, m = size - i ∧ i ≤ size ∧ vs = [.int .i64 (i : Int)] ∧ A = row 5 1 (.slice (some ⟨gb, 0, none⟩) size size) size (u8s (putN n i ++ List.replicate (size - i) 0))) size ⟨0, rfl, Nat.zero_le _, rfl, rfl⟩ ?_
 clear H
 rintro m vs hv w A ⟨i, rfl, hi, rfl, rfl⟩ H
 by_cases hlt : i < size
 ·refine Gq3 H ?_
  refine K.mul rfl rfl rfl rfl (by omega) (by omega) ?_
  rw [show (8 : Int) * (i : Int) = ((8 * i : Nat) : Int) by omega]
  refine Gq3 H ?_
  refine B.shr ?_
  refine B.conv Tryz.underlying198 ?_
  have hln : 0 + i * 1 < (u8s (putN n i ++ List.replicate (size - i) 0)).length := by rw [u8s_len, List.length_append, putN_len, List.length_replicate]; omega
  repeat' (first | (refine X.rst H ?_ (hl := hln); clear H; intro w H) | refine Go3 H ?_ | (refine Gs3 H ?_; clear H; (try clear w); intro w H) | (refine Gn H ?_; clear H; (try clear w); intro _ w H))
  rw [put_set n hlt] at H
  exact ⟨agr, size - (i + 1), by omega, _, ⟨i + 1, rfl, by omega, rfl, rfl⟩, H⟩
 ·have hie : i = size := by omega
  subst hie
  refine Gq3 H ?_
  refine ⟨_, resT rfl, gb, ?_, ?_⟩
  ·rw [putN_len]; rfl
  ·rw [putN_len]; simpa using H
theorem number_s {l : List UInt8} {a : Option Addr} {c : Nat} (H : Holds s w R) (h : SlS s (.slice a l.length c) 1 l.length (u8s l)) (hl : l.length ≤ 8) : Calls Tryz.prog 137 #[.slice a l.length c] w fun e w' => e = .returned (.int .u64 (numN l : Int)) ∧ Holds s w' R := by
 refine enter Tryz.func137 rfl Tryz.ntmps137 rfl ?_
 refine Gq3 H ?_
 refine C.loopH H [3, 4, 5, 8, 9, 10, 11, 12, 13, 14, 15, 16, 17, 18, 19, 20] [3, 8] rfl (fun m vs => ∃ i : Nat, m = l.length - i ∧ i ≤ l.length ∧ vs = [.int .u64 (numI l i : Int), .int .i64 (i : Int)]) l.length ⟨0, rfl, Nat.zero_le _, rfl⟩ ?_
 clear H
 rintro m vs hv w ⟨i, rfl, hi, rfl⟩ H
 by_cases hlt : i < l.length
 ·obtain ⟨g, o, c', hv', _, _, hp⟩ := elemS1 h (by omega)
  cases hv'
  have pn : Pin s g (o + i * 1) (.int .u8 (l[i].toNat : Int)) := by rw [Nat.mul_one]; exact hp i hlt
  have hs : numI l (i + 1) = numI l i ||| (l[i].toNat <<< (8 * i)) := by simp only [numI]; rw [List.getElem?_eq_getElem hlt]; rfl
  have b1 := numI_64 l (i := i) (by omega)
  generalize numI l i = p at *
  generalize l[i] = x at *
  have b2 : x.toNat % 2 ^ 64 = x.toNat := Nat.mod_eq_of_lt (by have := x.toNat_lt; omega)
  have b3 := shl_64 x (i := i) (by omega)
  have b4 : x.toNat <<< (8 * i) < 2 ^ 64 := by rw [← b3]; exact Nat.mod_lt _ (by decide)
  refine Gq3 H ?_
  refine B.conv Tryz.underlying5 ?_
  rw [b2]
  repeat' (first | (refine K.mul rfl rfl rfl rfl (by omega) (by omega) ?_; rw [show (8 : Int) * (i : Int) = ((8 * i : Nat) : Int) by omega]) | (refine B.shl ?_; rw [b3]) | (refine B.bit ?_) | refine Go3 H ?_ | (refine Gs3 H ?_; clear H; (try clear w); intro w H) | (refine Gn H ?_; clear H; (try clear w); intro _ w H))
  exact ⟨agr, l.length - (i + 1), by omega, ⟨i + 1, rfl, by omega, by rw [hs]; rfl⟩, H⟩
 ·have hie : i = l.length := by omega
  subst hie
  refine Gq3 H ?_
  exact ⟨_, resT rfl, rfl, H⟩
theorem Get_s {l : List UInt8} {a : Option Addr} {c : Nat} (H : Holds s w R) (h : SlS s (.slice a l.length c) 1 l.length (u8s l)) (h1 : 1 ≤ l.length) (hl : l.length ≤ 8) : Calls Tryz.prog 134 #[.slice a l.length c] w fun e w' => e = .returned (.tuple #[.int .u64 (numN l : Int), .int .i64 0]) ∧ Holds s w' R := by
 refine enter Tryz.func134 rfl Tryz.ntmps134 rfl ?_
 refine Gq3 H ?_
 (refine X.call (number_s H h hl) ?_; (try clear H); rintro _ w ⟨rfl, H⟩; refine ⟨_, rfl, ?_⟩)
 refine Gq3 H ?_
 exact ⟨_, resTT rfl, rfl, H⟩
end
end Go.Proofs.YtgilmcpdpggikaaGreatDoor
namespace Go.Own
open Go Go.RowKit
section
variable {P : Program} {n : Nat} {ops : Array Oper} {Q : Post} {rest : List Oper} {e : Env} {w w' : World} {s : Ro} {rs : List Asn} {tt : Nat} {pp : String} {af : Array Edge} {g : Option (Nat × Bool)} {d : Nat}
theorem K.copyS {x y : Operand} {t u el : TypeId} {by_ : Nat} {zz : List Value} [E : ElC P t el 1 by_ zz] (i : Nat) {b off dl dc : Nat} {ty : TypeId} {cs : List Value} {l : List UInt8} (H : Holds s w rs) (hi : rs[i]? = some (var b ty cs)) (hk : l.length ≤ dl) (hfit : off + l.length ≤ cs.length) (hd : Nat.blt d n = true) (hx : ev e x = .slice (some ⟨b, off, none⟩) dl dc) (hy : ev e y = .string ⟨l.toArray⟩)
  (h : ∀ w', Holds s w' (rs.set i (var b ty (cs.take off ++ u8s l ++ cs.drop (off + l.length)))) → L P n ops Q rest (upd e d (.int .i64 (l.length : Int))) w') : L P n ops Q (⟨some d, .call { callee := .builtin .copy, args := #[x, y], argTypes := #[t, u] }, tt, pp, af, none⟩ :: rest) e w := by
 obtain ⟨v, E', _⟩ := E.el
 obtain ⟨inf, i1, i2, i3, i4⟩ := E'.info
 have hg := H.var hi
 have hmin : Nat.min l.length dl = l.length := Nat.min_eq_left hk
 have hss : (⟨l.toArray⟩ : ByteArray).size = l.length := by simp [ByteArray.size]
 have hst := run_storeCells_at (P := P) b off ty (u8s l) 0 cs.toArray w hg (by rw [u8s_len]; simpa using hfit) (u8s_one l)
 rw [u8s_len, Nat.add_zero] at hst
 have hfc : (((⟨l.toArray⟩ : ByteArray).extract 0 l.length).data.map fun b => Value.int .u8 b.toNat) = (u8s l).toArray := by
  simp [ByteArray.data_extract, u8s, u8]
 have hrun : (Builtin.copy_ #[t, u] tt #[.slice (some ⟨b, off, none⟩) dl dc, .string ⟨l.toArray⟩]).run P w = .ok (.int .i64 (l.length : Int)) (w.setRow b (cs.take off ++ u8s l ++ cs.drop (off + l.length)).toArray) := by
  have hi1 : (P.info? el).map (·.size) = some 1 := by rw [i1]; simp [i3]
  have hsz : inf.size = 1 := by simpa [i1] using hi1
  have hst' : (storeCells ⟨b, off, none⟩ (u8s l)).run P w = .ok () (w.setRow b (cs.take off ++ u8s l ++ cs.drop (off + l.length)).toArray) := by simpa using hst
  simp only [Builtin.copy_, List.getElem?_toArray, List.getElem?_cons_zero, List.getElem?_cons_succ, Sem.run_bind, run_underlying E'.slice, Result.andThen_ok, Builtin.lenOf, Sem.run_pure, hss, hmin, sizeOf, typeInfo, Builtin.firstCells, hfc]
  simp [i1, hsz, hst', goInt]
 refine L.val (o := ⟨some d, .call { callee := .builtin .copy, args := #[x, y], argTypes := #[t, u] }, tt, pp, af, none⟩) _ _ rfl hd ?_ (h _ (H.setVar hi (cs.take off ++ u8s l ++ cs.drop (off + l.length))))
 unfold execOp
 simp only [resolve, invoke, builtin, Sem.run_bind, Sem.run_pure, Result.andThen_ok, List.map_toArray, List.map_cons, List.map_nil, hx, hy, hrun]
end
end Go.Own
namespace Go.Proofs.YtgilmcpdpggikaaGreatDoor
open Go Go.RowKit Go.Own
theorem putN1 {v : Nat} (h : v < 256) : putN v 1 = [UInt8.ofNat v] := by
 have : byteAt v 0 = UInt8.ofNat v := by
  unfold byteAt
  simp
 simp [putN, List.range_succ, this]
theorem byteOf_nat {v : Nat} (h : v < 256) : byteOf (v : Int) = UInt8.ofNat v := by
 unfold byteOf
 congr 1
 omega
theorem putN_b {v : Nat} (h : v < 256) : putN v 1 = [byteOf (v : Int)] := by rw [putN1 h, byteOf_nat h]
section
variable {s : Ro} {w : World} {R : List Asn}
theorem put_t {v g cc : Nat} {aa : Option Addr} {l : List UInt8} (H : Holds s w (var g 30 [.slice aa l.length cc] :: row 5 1 (.slice aa l.length cc) l.length (u8s l) :: R)) (hv : v < 256) (hl : l.length ≤ 1000) : Calls Tryz.prog 125 #[.int .i64 (v : Int), .pointer (some ⟨g, 0, none⟩)] w fun e w' => ∃ a' c', e = .returned (.tuple #[]) ∧ Holds s w' (var g 30 [.slice a' (l ++ [byteOf (v : Int)]).length c'] :: row 5 1 (.slice a' (l ++ [byteOf (v : Int)]).length c') (l ++ [byteOf (v : Int)]).length (u8s (l ++ [byteOf (v : Int)])) :: R) := by
 have hpl := putN_len v 1
 have wv : (IntKind.u64.wrap (v : Int)) = (v : Int) := by
  have := uwrap (k := .u64) (B := 64) v
  rw [this, Nat.mod_eq_of_lt (by omega)]
 refine enter Tryz.func125 rfl Tryz.ntmps125 rfl ?_
 refine Gq3 H ?_
 refine C.drawn2 [g] [1, 0, 0, 2, 3, 3] [4] [0, 0, 2, 6, 15, 31] (by kernel_rfl) ?_; replace H := H.drew; refine sgB ?_; have H0 := H
 repeat' (first | (refine K.convI Tryz.underlying3 rfl rfl rfl ?_; rw [wv]) | refine Go3 H ?_ | (refine Gs3 H ?_; clear H; (try clear w); intro w H) | (refine Gn H ?_; clear H; (try clear w); intro _ w H))
 (refine X.call (Put_s (n := v) (size := 1) H (by decide) (by decide)) ?_; (try clear H); rintro _ w ⟨g2, rfl, H⟩; refine ⟨_, rfl, ?_⟩); refine L.nil ?_; refine ⟨rfl, rfl, (by repeat (first | exact subN_nil | refine subN_cons (by simp) ?_)), (by first | exact keep_same | (repeat (first | exact keepV H0 H | exact keepP H0 H | exact keep_nil | refine keep_cons ?_ ?_))), ?_⟩; clear H0; have H0 := H
 repeat' (first | (refine X.app H ?_; clear H; intro a3 c3 w H) | refine Go3 H ?_ | (refine Gs3 H ?_; clear H; (try clear w); intro w H) | (refine Gn H ?_; clear H; (try clear w); intro _ w H))
 refine ⟨rfl, rfl, (by repeat (first | exact subN_nil | refine subN_cons (by simp) ?_)), (by first | exact keep_same | (repeat (first | exact keepV H0 H | exact keepP H0 H | exact keep_nil | refine keep_cons ?_ ?_))), ?_⟩; clear H0; have H0 := H
 refine Gq3 H ?_
 rw [← putN_b hv, List.length_append, u8s_app]
 exact ⟨_, res0 rfl, a3, c3, rfl, H.arr⟩
theorem Equal_t {l m : List UInt8} {v u : Value} (H : Holds s w R) (h : Src s R v 1 l.length (u8s l)) (k : Src s R u 1 m.length (u8s m)) : Calls Tryz.prog 77 #[v, u] w fun e w' => e = .returned (.bool (decide (l = m))) ∧ Holds s w' R := by
 obtain ⟨_, _, rfl, _⟩ := h.form H
 obtain ⟨_, _, rfl, _⟩ := k.form H
 refine enter Tryz.func77 rfl Tryz.ntmps77 rfl ?_
 repeat' (first | (refine K.str H h rfl rfl rfl ?_) | refine Go3 H ?_ | (refine Gs3 H ?_; clear H; (try clear w); intro w H) | (refine Gn H ?_; clear H; (try clear w); intro _ w H))
 refine K.str (l := m) H k rfl rfl rfl ?_
 repeat' (first | refine Z H ?_ | (refine Zc ?_ ?_ <;> intro hc <;> first | (exfalso; omega) | skip) | (refine Y ?_; try change C _ _ _ _ _ _) | (refine Zs H ?_; clear H; (try clear w); intro w H) | (refine Zn H ?_; clear H; (try clear w); intro _ w H) | (refine Ze H ?_; clear H; (try clear w); intro gv w H))
 ·have hlm : l = m := by
   have h1 := congrArg (fun b : ByteArray => b.data.toList) hc
   simpa using h1
  exact ⟨_, resT rfl, by rw [decide_eq_true hlm]; rfl, H⟩
 ·exact ⟨_, resT rfl, by rw [decide_eq_false (fun h => hc (by rw [h]))]; rfl, H⟩
end
structure NdB (n : Nd) : Prop where
 k0 : 0 ≤ n.kind
 k1 : n.kind < 256
 p0 : 0 ≤ n.parent
 p1 : n.parent < 256
 nm : n.name.length ≤ 8
 s0 : 0 ≤ n.size
 s1 : n.size < 256
 b0 : 0 ≤ n.b0
 b1 : n.b0 < 256
 c0 : 0 ≤ n.b1
 c1 : n.b1 < 256
theorem pageM_len {n : Nd} (h : n.name.length ≤ 8) : (pageM n).length = 40 := by
 unfold pageM padTo
 simp
 omega
theorem name8 {nm : Str} (h : nm.length ≤ 8) : (u8s (List.replicate 8 0)).take 0 ++ u8s nm ++ (u8s (List.replicate 8 0)).drop (0 + nm.length) = u8s (padTo 8 nm) := by
 unfold padTo u8s
 rw [List.take_zero, List.nil_append, Nat.zero_add, ← List.map_drop, ← List.map_append, List.take_of_length_le h, List.drop_replicate]
theorem pad8_len {nm : Str} (h : nm.length ≤ 8) : (padTo 8 nm).length = 8 := by
 unfold padTo
 simp
 omega
section
variable {s : Ro} {w : World} {R : List Asn}
theorem Go5 {p q : Prop} {s : Ro} {w : World} {rs : List Asn} (H : Holds s w rs) (h : q) (g : Holds s w rs → Wq q → p := by intro H h; (first | (refine X.lenL ?_) | (refine B.fn ?_) | refine Z H ?_ | (refine Zc ?_ ?_ <;> intro hc <;> first | (exfalso; omega) | skip) | (refine Y ?_; try change C _ _ _ _ _ _)) <;> exact h.out) : p := g H ⟨h⟩
theorem Gs5 {p q : Prop} {s : Ro} {w : World} {rs : List Asn} (H : Holds s w rs) (h : q) (g : Holds s w rs → Wq q → p := by intro H h; (first | (refine Zs H ?_; clear H; (try clear w); intro w H)) <;> (revert w; exact h.out)) : p := g H ⟨h⟩
theorem Gq5 {p q : Prop} {s : Ro} {w : World} {rs : List Asn} (H : Holds s w rs) (h : q) (g : Holds s w rs → Wq q → p := by intro H h; (repeat' (first | refine Go5 H ?_ | (refine Gs5 H ?_; clear H; (try clear w); intro w H) | (refine Gn H ?_; clear H; (try clear w); intro b w H))) <;> (first | exact h.out | (revert w; exact h.out) | (revert w; revert b; exact h.out))) : p := g H ⟨h⟩
theorem page_s {k p z b c : Nat} {nm : Str} (H : Holds s w R) (hb : NdB ⟨k, p, nm, z, b, c⟩) : Calls Tryz.prog 99 #[.agg (Nd.cells ⟨k, p, nm, z, b, c⟩).toArray] w fun e w' => ∃ aa cc, e = .returned (.slice aa (pageM ⟨k, p, nm, z, b, c⟩).length cc) ∧ Holds s w' (row 5 1 (.slice aa (pageM ⟨k, p, nm, z, b, c⟩).length cc) (pageM ⟨k, p, nm, z, b, c⟩).length (u8s (pageM ⟨k, p, nm, z, b, c⟩)) :: R) := by
 obtain ⟨hk0, hk1, hp0, hp1, hnm, hs0, hs1, hb0, hb1, hc0, hc1⟩ := hb
 dsimp only at hk0 hk1 hp0 hp1 hnm hs0 hs1 hb0 hb1 hc0 hc1
 refine enter Tryz.func99 rfl Tryz.ntmps99 rfl ?_
 (refine Gq5 H ?_; clear H; (try clear w); intro bl1 w H)
 refine K.make (k := 0) (m := 40) H rfl rfl rfl rfl rfl (by decide) (by decide) (by decide) ?_
 clear H
 intro g1 w H
 (refine Gq5 H ?_; clear H; (try clear w); intro bl2 w H)
 have H' : Holds s w (var bl2 30 [.slice (some ⟨g1, 0, none⟩) ([] : Str).length 40] :: row 5 1 (.slice (some ⟨g1, 0, none⟩) ([] : Str).length 40) ([] : Str).length (u8s []) :: var bl1 36 (Nd.cells ⟨k, p, nm, z, b, c⟩) :: R) := H
 clear H
 have H := H'
 clear H'
 refine B.call (put_t (v := k) H (by omega) (by simp)) ?_
 clear H
 rintro _ w ⟨a1, c1, rfl, H⟩
 refine ⟨_, rfl, ?_⟩
 refine Gq5 H ?_
 refine B.call (put_t (v := p) H (by omega) (by simp)) ?_
 clear H
 rintro _ w ⟨a2, c2, rfl, H⟩
 refine ⟨_, rfl, ?_⟩
 refine Gq5 H ?_
 refine B.call (put_t (v := nm.length) H (by omega) (by simp)) ?_
 clear H
 rintro _ w ⟨a3, c3, rfl, H⟩
 refine ⟨_, rfl, ?_⟩
 (refine Gq5 H ?_; clear H; (try clear w); intro bl3 w H)
 refine C.drawn1 [0, 0, 1, 3] [0, 0, 2, 7] (by kernel_rfl) ?_; replace H := H.drew
 refine Gq5 H ?_
 refine K.copyS (l := nm) 0 (cs := u8s (List.replicate 8 0)) H rfl hnm (by simpa [u8s] using hnm) rfl rfl rfl ?_
 clear H
 intro w H
 rw [List.set_cons_zero, name8 hnm] at H
 have hp8 := pad8_len hnm
 have hp8' : (u8s (padTo 8 nm)).length = 8 := by rw [u8s_len, hp8]
 generalize hl3 : ([] ++ [byteOf (k : Int)] ++ [byteOf (p : Int)] ++ [byteOf (nm.length : Int)] : Str) = l3 at H
 have hl3l : l3.length = 3 := by rw [← hl3]; rfl
 have H' : Holds s w (var bl3 208 (u8s (padTo 8 nm)) :: var bl2 30 [.slice a3 l3.length c3] :: row 5 1 (.slice a3 l3.length c3) l3.length (u8s l3) :: var bl1 36 (Nd.cells ⟨k, p, nm, z, b, c⟩) :: R) := H
 clear H
 have H := H'
 clear H'
 refine Gq5 H ?_
 refine C.drawn1 [1, 0, 3, 3] [0, 0, 3, 7] (by kernel_rfl) ?_; replace H := H.drew
 repeat' (first | (refine K.app 2 H rfl (Src.arr 0 bl3 8 208 rfl rfl (by rw [hp8']) (Nat.le_refl _) (by decide)) (u8s_one _) (by rw [hl3l]; decide) (by rw [hl3l]; decide) rfl rfl rfl ?_; clear H; (try clear w); intro a4 c4 w H; simp only [List.set_cons_succ, List.set_cons_zero] at H) | refine Go5 H ?_ | (refine Gs5 H ?_; clear H; (try clear w); intro w H) | (refine Gn H ?_; clear H; (try clear w); (first | ((fail_if_success (have := bl1)); intro bl1 w H) | ((fail_if_success (have := bl2)); intro bl2 w H) | ((fail_if_success (have := bl3)); intro bl3 w H) | intro _ w H)))
 have e1 : l3.length + 8 = (l3 ++ padTo 8 nm).length := by rw [List.length_append, hp8]
 have H' : Holds s w (var bl2 30 [.slice a4 (l3.length + 8) c4] :: row 5 1 (.slice a4 (l3.length + 8) c4) (l3.length + 8) (u8s l3 ++ u8s (padTo 8 nm)) :: var bl1 36 (Nd.cells ⟨k, p, nm, z, b, c⟩) :: R) := H.tail
 clear H
 rw [← u8s_app, e1] at H'
 have H := H'
 clear H'
 refine B.call (put_t (v := z) H (by omega) (by rw [List.length_append, hp8]; omega)) ?_
 clear H
 rintro _ w ⟨a5, c5, rfl, H⟩
 refine ⟨_, rfl, ?_⟩
 refine Gq5 H ?_
 repeat' (first | (refine K.iaA (i := 0) rfl rfl rfl rfl rfl (by decide) ?_) | refine Go5 H ?_ | (refine Gs5 H ?_; clear H; (try clear w); intro w H) | (refine Gn H ?_; clear H; (try clear w); (first | ((fail_if_success (have := bl1)); intro bl1 w H) | ((fail_if_success (have := bl2)); intro bl2 w H) | ((fail_if_success (have := bl3)); intro bl3 w H) | intro _ w H)))
 refine B.call (put_t (v := b) H (by omega) (by simp [hp8, hl3l])) ?_
 clear H
 rintro _ w ⟨a6, c6, rfl, H⟩
 refine ⟨_, rfl, ?_⟩
 repeat' (first | (refine K.iaA (i := 1) rfl rfl rfl rfl rfl (by decide) ?_) | refine Go5 H ?_ | (refine Gs5 H ?_; clear H; (try clear w); intro w H) | (refine Gn H ?_; clear H; (try clear w); (first | ((fail_if_success (have := bl1)); intro bl1 w H) | ((fail_if_success (have := bl2)); intro bl2 w H) | ((fail_if_success (have := bl3)); intro bl3 w H) | intro _ w H)))
 refine B.call (put_t (v := c) H (by omega) (by simp [hp8, hl3l])) ?_
 clear H
 rintro _ w ⟨a7, c7, rfl, H⟩
 refine ⟨_, rfl, ?_⟩
 have hl6 : (l3 ++ padTo 8 nm ++ [byteOf (z : Int)] ++ [byteOf (b : Int)] ++ [byteOf (c : Int)]).length = 14 := by simp only [List.length_append, hp8, hl3l]; rfl
 have hpm : pageM ⟨k, p, nm, z, b, c⟩ = padTo 40 (l3 ++ padTo 8 nm ++ [byteOf (z : Int)] ++ [byteOf (b : Int)] ++ [byteOf (c : Int)]) := by
  rw [← hl3]
  simp [pageM]
 generalize (l3 ++ padTo 8 nm ++ [byteOf (z : Int)] ++ [byteOf (b : Int)] ++ [byteOf (c : Int)] : Str) = l6 at *
 refine Gq5 H ?_
 refine K.make (k := 40) (m := 40) H rfl rfl rfl rfl rfl (by decide) (by decide) (by decide) ?_
 clear H
 intro g2 w H
 rw [rep_flat] at H
 refine Gq5 H ?_
 refine K.copyR 0 H rfl (.own 2 _ rfl) (u8s_one _) (q := 14) (by rw [hl6]; rfl) (by decide) rfl rfl rfl ?_
 clear H
 intro w H
 have hpl : (pageM ⟨k, p, nm, z, b, c⟩).length = 40 := pageM_len hnm
 have hfill : (List.replicate 40 (Value.int .u8 0)).take 0 ++ ((u8s l6).take 40 ++ (List.replicate 40 (Value.int .u8 0)).drop (0 + 14)) = u8s (pageM ⟨k, p, nm, z, b, c⟩) := by
  rw [List.take_zero, List.nil_append, List.take_of_length_le (by rw [u8s_len, hl6]; decide), hpm, padTo, List.take_of_length_le (by rw [hl6]; decide), u8s_app, hl6]
  rfl
 rw [List.set_cons_zero, hfill] at H
 refine Gq5 H ?_
 rw [hpl]
 exact ⟨_, resT rfl, _, _, rfl, H.arr⟩
end
def PgsV (s : Ro) (vl : List Value) (ps : List Str) : Prop := vl.length = ps.length ∧ ∀ (i : Nat) (p : Str), ps[i]? = some p → ∃ a c, vl[i]? = some (.slice a p.length c) ∧ SlS s (.slice a p.length c) 1 p.length (u8s p)
theorem PgsV.mono {s s' : Ro} {vl : List Value} {ps : List Str} (h : PgsV s vl ps) (hs : s.Le s') : PgsV s' vl ps :=
 ⟨h.1, fun i p hp => by obtain ⟨a, c, h1, h2⟩ := h.2 i p hp; exact ⟨a, c, h1, h2.mono hs⟩⟩
theorem PgsV.nil {s : Ro} : PgsV s [] [] := ⟨rfl, fun i p hp => by simp at hp⟩
theorem PgsV.snoc {s : Ro} {vl : List Value} {ps : List Str} {p : Str} {a : Option Addr} {c : Nat} (h : PgsV s vl ps) (hp : SlS s (.slice a p.length c) 1 p.length (u8s p)) : PgsV s (vl ++ [.slice a p.length c]) (ps ++ [p]) :=
 ⟨by simp [h.1], fun i q hq => by
  by_cases hi : i < ps.length
  ·rw [List.getElem?_append_left hi] at hq
   rw [List.getElem?_append_left (by rw [h.1]; exact hi)]
   exact h.2 i q hq
  ·rw [List.getElem?_append_right (by omega)] at hq
   rw [List.getElem?_append_right (by rw [h.1]; omega), h.1]
   have : i - ps.length = 0 := by
    have := (List.getElem?_eq_some_iff.1 hq).1
    simp at this; omega
   rw [this] at hq ⊢
   simp at hq; subst hq
   exact ⟨a, c, rfl, hp⟩⟩
theorem ndb_of {t : TR} (h : checkM t = true) {i : Nat} (hi : i < 8) : NdB (t.n i) := by
 have hb := bks_of h hi
 by_cases h0 : i = 0
 ·subst h0; rw [(check_iff.1 h).1]; exact ⟨by decide, by decide, by decide, by decide, by decide, by decide, by decide, by decide, by decide, by decide, by decide⟩
 ·rcases (check_iff.1 h).2.1 i hi (by omega) with hz | ⟨⟨f1, f2, f3, f4, f5, f6⟩, _⟩
  ·rw [hz]; exact ⟨by decide, by decide, by decide, by decide, by decide, by decide, by decide, by decide, by decide, by decide, by decide⟩
  ·have hl : (t.n i).name.length ≤ 8 := by
    unfold isNameM at f4
    simp only [Bool.and_eq_true, decide_eq_true_eq] at f4
    exact f4.1.2
   unfold Bks at hb
   unfold Shaped at f6
   exact ⟨by omega, by omega, by omega, by omega, hl, by omega, by omega, by omega, by omega, by omega, by omega⟩
theorem TR.blockL {t : TR} (h : t.Ok) {k : Nat} (hk : k < 8) : ((t.bl.flatMap u8s).drop (k * 40)).take 40 = u8s (t.b k) := by
 have := flatS_part (f := u8s) (sz := 40) t.bl (fun x hx => by rw [u8s_len]; exact h.b40 x hx) k 0 40 (by rw [h.b8]; exact hk) (by omega)
 rw [Nat.add_zero] at this
 rw [this, ← TR.b_get h hk, List.drop_zero, List.take_of_length_le (by rw [u8s_len, TR.b_len h hk]; omega)]
section
variable {s : Ro} {w : World} {R : List Asn}
theorem page_n {n : Nd} (H : Holds s w R) (hb : NdB n) : Calls Tryz.prog 99 #[.agg n.cells.toArray] w fun e w' => ∃ aa cc, e = .returned (.slice aa (pageM n).length cc) ∧ Holds s w' (row 5 1 (.slice aa (pageM n).length cc) (pageM n).length (u8s (pageM n)) :: R) := by
 obtain ⟨k, p, nm, z, b, c⟩ := n
 obtain ⟨k, rfl⟩ : ∃ x : Nat, k = x := ⟨k.toNat, by have := hb.k0; dsimp only at this; omega⟩
 obtain ⟨p, rfl⟩ : ∃ x : Nat, p = x := ⟨p.toNat, by have := hb.p0; dsimp only at this; omega⟩
 obtain ⟨z, rfl⟩ : ∃ x : Nat, z = x := ⟨z.toNat, by have := hb.s0; dsimp only at this; omega⟩
 obtain ⟨b, rfl⟩ : ∃ x : Nat, b = x := ⟨b.toNat, by have := hb.b0; dsimp only at this; omega⟩
 obtain ⟨c, rfl⟩ : ∃ x : Nat, c = x := ⟨c.toNat, by have := hb.c0; dsimp only at this; omega⟩
 exact page_s H hb
theorem Clone_t {b : Nat} {t : TypeId} {l : Str} (H : Holds s w (var b t (u8s l) :: R)) (hl : l.length = 40) : Calls Tryz.prog 100 #[.slice (some ⟨b, 0, none⟩) 40 40] w fun e w' => ∃ aa cc, e = .returned (.slice aa l.length cc) ∧ Holds s w' (row 5 1 (.slice aa l.length cc) l.length (u8s l) :: var b t (u8s l) :: R) := by
 have hu : (u8s l).length = 40 := by rw [u8s_len, hl]
 refine enter Tryz.func100 rfl Tryz.ntmps100 rfl ?_
 repeat' (first | (refine X.nilS ?_) | (refine K.app 0 H rfl (Src.arr 1 b 40 t rfl rfl (by rw [hu]) (Nat.le_refl _) (by decide)) (u8s_one _) (by decide) (by decide) rfl rfl rfl ?_; clear H; (try clear w); intro a4 c4 w H; simp only [List.set_cons_succ, List.set_cons_zero] at H) | refine Go3 H ?_ | (refine Gs3 H ?_; clear H; (try clear w); intro w H) | (refine Gn H ?_; clear H; (try clear w); intro _ w H))
 rw [hl]
 refine ⟨_, resT rfl, a4, c4, rfl, ?_⟩
 have H' : Holds s w (row 5 1 (.slice a4 40 c4) 40 (u8s l) :: var b t (u8s l) :: R) := H
 exact H'
theorem Go6 {p q : Prop} {s : Ro} {w : World} {rs : List Asn} (H : Holds s w rs) (h : q) (g : Holds s w rs → Wq q → p := by intro H h; (first | (refine X.lenL ?_) | (refine X.lv H ?_) | (refine X.lp H ?_) | (refine X.ldT H ?_) | (refine X.eqL ?_ ?_ <;> intro hc <;> first | (exfalso; first | exact absurd hc (by assumption) | exact absurd (by assumption) hc) | skip) | refine Z H ?_ | (refine Zc ?_ ?_ <;> intro hc <;> first | (exfalso; omega) | skip) | (refine Y ?_; try change C _ _ _ _ _ _)) <;> exact h.out) : p := g H ⟨h⟩
theorem Gs6 {p q : Prop} {s : Ro} {w : World} {rs : List Asn} (H : Holds s w rs) (h : q) (g : Holds s w rs → Wq q → p := by intro H h; (first | (refine X.stT H ?_; clear H; (try clear w); intro w H) | (refine Zs H ?_; clear H; (try clear w); intro w H)) <;> (revert w; exact h.out)) : p := g H ⟨h⟩
theorem Gq6 {p q : Prop} {s : Ro} {w : World} {rs : List Asn} (H : Holds s w rs) (h : q) (g : Holds s w rs → Wq q → p := by intro H h; (repeat' (first | refine Go6 H ?_ | (refine Gs6 H ?_; clear H; (try clear w); intro w H) | (refine Gn H ?_; clear H; (try clear w); intro b w H))) <;> (first | exact h.out | (revert w; exact h.out) | (revert w; revert b; exact h.out))) : p := g H ⟨h⟩
theorem Pages_t {t : TR} (H : Holds s w R) (ht : t.Ok) : Calls Tryz.prog 75 #[.agg t.cells.toArray] w fun e w' => ∃ s' a c vl, e = .returned (.slice a (pagesM t).length c) ∧ s.Le s' ∧ PgsV s' vl (pagesM t) ∧ Holds s' w' (row 30 1 (.slice a (pagesM t).length c) (pagesM t).length vl :: R) := by
 refine enter Tryz.func75 rfl Tryz.ntmps75 rfl ?_
 (refine Gq6 H ?_; clear H; (try clear w); intro bl1 w H)
 have hC := Check_s H ht
 by_cases hchk : checkM t = true
 rotate_left
 ·rw [show checkM t = false by simpa using hchk] at hC
  (refine X.call (hC) ?_; (try clear H); rintro _ w ⟨rfl, H⟩; refine ⟨_, rfl, ?_⟩)
  clear hC
  refine Gq6 H ?_
  have e : pagesM t = [] := by rw [pagesM, if_pos (by simpa using hchk)]
  rw [e]
  exact ⟨_, resT rfl, s, none, 0, [], rfl, Ro.Le.refl s, PgsV.nil, H.tail.nilRow _ _⟩
 rw [hchk] at hC
 (refine X.call (hC) ?_; (try clear H); rintro _ w ⟨rfl, H⟩; refine ⟨_, rfl, ?_⟩)
 clear hC
 have hnd := TR.nodes ht
 have hl48 := TR.nd_len ht
 have hbk := TR.blocks ht
 have hl320 := TR.bl_len ht
 refine Gq6 H ?_
 refine K.make (k := 0) (m := 16) H rfl rfl rfl rfl rfl (by decide) (by decide) (by decide) ?_
 clear H
 intro g1 w H
 refine Gq6 H ?_
 refine C.loopS [3, 5, 14, 15, 16, 17, 18, 19, 20, 21, 22] [3, 14] rfl (fun m vs w => ∃ (i : Nat) (s1 : Ro) (a : Option Addr) (c : Nat) (vl : List Value), m = 8 - i ∧ i ≤ 8 ∧ vs = [.slice a i c, .int .i64 (i : Int)] ∧ s.Le s1 ∧ PgsV s1 vl ((t.nd.take i).map pageM) ∧ Holds s1 w (row 30 1 (.slice a i c) i vl :: var bl1 41 t.cells :: R)) 8 ⟨0, s, some ⟨g1, 0, none⟩, 16, [], rfl, by omega, rfl, Ro.Le.refl s, PgsV.nil, H⟩ ?_
 clear H
 rintro m vs hv w ⟨i, s1, a, c, vl, rfl, hi, rfl, hs1, hpg, H⟩
 by_cases hlt : i < 8
 ·have hn := TR.nodeL ht hlt
  have htk : (t.nd.take (i + 1)).map pageM = (t.nd.take i).map pageM ++ [pageM (t.n i)] := by
   rw [List.take_succ_eq_append_getElem (by rw [ht.n8]; exact hlt), ← TR.n_get ht hlt, List.map_append]
   rfl
  repeat' (first | (refine X.ixP i ?_ hn hlt) | refine Go6 H ?_ | (refine Gs6 H ?_; clear H; (try clear w); intro w H) | (refine Gn H ?_; clear H; (try clear w); (first | ((fail_if_success (have := bl1)); intro bl1 w H) | intro _ w H)))
  (refine X.call (page_n H (ndb_of hchk hlt)) ?_; (try clear H); rintro _ w ⟨a2, c2, rfl, H⟩; refine ⟨_, rfl, ?_⟩)
  obtain ⟨s2, hs2, H, hr2⟩ := H.fixRow
  refine Gq6 H ?_
  refine K.one H rfl rfl (by conv => lhs; whnf) (by rfl) (by rfl) ?_; clear H; (try clear w); intro g1 w H
  repeat' (first | (refine X.app H ?_; clear H; intro a3 c3 w H) | refine Go6 H ?_ | (refine Gs6 H ?_; clear H; (try clear w); intro w H) | (refine Gn H ?_; clear H; (try clear w); (first | ((fail_if_success (have := bl1)); intro bl1 w H) | intro _ w H)))
  exact ⟨agr, 8 - (i + 1), by omega, i + 1, s2, a3, c3, _, rfl, by omega, rfl, hs1.trans hs2, by rw [htk]; exact (hpg.mono hs2).snoc hr2, H.arr⟩
 obtain rfl : i = 8 := by omega
 rw [List.take_of_length_le (by rw [ht.n8]; omega)] at hpg
 refine Gq6 H ?_
 refine C.loopS [3, 7, 25, 26, 27, 28, 29, 30, 31, 32, 33] [3, 25] rfl (fun m vs w => ∃ (i : Nat) (s1 : Ro) (a : Option Addr) (c : Nat) (vl : List Value), m = 8 - i ∧ i ≤ 8 ∧ vs = [.slice a (8 + i) c, .int .i64 (i : Int)] ∧ s.Le s1 ∧ PgsV s1 vl (t.nd.map pageM ++ t.bl.take i) ∧ Holds s1 w (row 30 1 (.slice a (8 + i) c) (8 + i) vl :: var bl1 41 t.cells :: R)) 8 ⟨0, s1, a, c, vl, rfl, by omega, rfl, hs1, by simpa using hpg, H⟩ ?_
 clear H hpg hs1 hlt hi
 rintro m vs hv2 w ⟨i, s1, a', c', vl, rfl, hi, rfl, hs1, hpg, H⟩
 by_cases hlt : i < 8
 ·have hn := TR.blockL ht hlt
  have htk : t.nd.map pageM ++ t.bl.take (i + 1) = t.nd.map pageM ++ t.bl.take i ++ [t.b i] := by
   rw [List.take_succ_eq_append_getElem (by rw [ht.b8]; exact hlt), ← TR.b_get ht hlt, List.append_assoc]
  have hb40 := TR.b_len ht hlt
  have hu40 : (u8s (t.b i)).length = 40 := by rw [u8s_len, hb40]
  repeat' (first | (refine X.ixP i ?_ hn hlt) | (refine X.sta (xs := u8s (t.b i)) H ?_ (h1 := List.all_eq_true.2 (u8s_one _)) (hn := hu40); clear H; (try clear w); intro w H) | refine Go6 H ?_ | (refine Gs6 H ?_; clear H; (try clear w); intro w H) | (refine Gn H ?_; clear H; (try clear w); (first | ((fail_if_success (have := bl1)); intro bl1 w H) | intro _ w H)))
  (refine X.call (Clone_t H hb40) ?_; (try clear H); rintro _ w ⟨a2, c2, rfl, H⟩; refine ⟨_, rfl, ?_⟩)
  obtain ⟨s2, hs2, H, hr2⟩ := H.fixRow
  refine Gq6 H ?_
  refine K.one H rfl rfl (by conv => lhs; whnf) (by rfl) (by rfl) ?_; clear H; (try clear w); intro g1 w H
  repeat' (first | (refine X.app H ?_; clear H; intro a3 c3 w H) | refine Go6 H ?_ | (refine Gs6 H ?_; clear H; (try clear w); intro w H) | (refine Gn H ?_; clear H; (try clear w); (first | ((fail_if_success (have := bl1)); intro bl1 w H) | intro _ w H)))
  exact ⟨agr, 8 - (i + 1), by omega, i + 1, s2, a3, c3, _, rfl, by omega, rfl, hs1.trans hs2, by rw [htk]; exact (hpg.mono hs2).snoc hr2, H.arr⟩
 obtain rfl : i = 8 := by omega
 rw [List.take_of_length_le (by rw [ht.b8]; omega)] at hpg
 have e : pagesM t = t.nd.map pageM ++ t.bl := by rw [pagesM, if_neg (by simpa using hchk)]
 have el : (pagesM t).length = 16 := by rw [e, List.length_append, List.length_map, ht.n8, ht.b8]
 refine Gq6 H ?_
 rw [el]
 exact ⟨_, resT rfl, s1, a', c', vl, rfl, hs1, by rw [e]; exact hpg, H.arr⟩
end
end Go.Proofs.YtgilmcpdpggikaaGreatDoor

/- Squeezed copy of the texts Wb Wc Av. -/
import Derived.Test.YtgilmcpdpggikaaGreatDoorCEx
import Derived.Test.YtgilmcpdpggikaaGreatDoorCK4
set_option maxRecDepth 100000
set_option maxHeartbeats 1000000
set_option linter.unusedSimpArgs false
set_option linter.unusedVariables false
namespace Go.Proofs.YtgilmcpdpggikaaGreatDoor
open Go Go.RowKit Go.Own
def decW (c : UInt8) (n : Nat) (s : List UInt8) : Option (Nat × List UInt8) :=
 if (openL s).2 = 0 then (if (openL s).1.length = 60 then (if (openL s).1[0]? = some c then (if ((openL s).1.drop (5 + n)).any (fun x => x != 0) = true then none else some (numN (((openL s).1.drop 1).take 4), ((openL s).1.drop 5).take n)) else none) else none) else none
theorem decW_len {c : UInt8} {n e : Nat} {s r : List UInt8} (h : decW c n s = some (e, r)) (hn : n ≤ 55) : r.length = n := by
 unfold decW at h
 split at h
 ·split at h
  ·split at h
   ·split at h
    ·cases h
    ·cases h
     rw [List.length_take, List.length_drop]; omega
   ·cases h
  ·cases h
 ·cases h
theorem decW_lt {c : UInt8} {n e : Nat} {s r : List UInt8} (h : decW c n s = some (e, r)) : e < 2 ^ 32 := by
 unfold decW at h
 split at h
 ·split at h
  ·split at h
   ·split at h
    ·cases h
    ·cases h
     exact Nat.lt_of_lt_of_le (numI_lt _ _) (Nat.pow_le_pow_right (by decide) (by rw [List.length_take, List.length_drop]; omega))
   ·cases h
  ·cases h
 ·cases h
section
variable {s : Ro} {w : World} {R : List Asn}
theorem content1_w {x : UInt8} (H : Holds s w R) : Calls Tryz.prog 133 #[.int .u8 (x.toNat : Int)] w fun e w' => e = .returned (.bool (x != 0)) ∧ Holds s w' R := by
  have hx : (x != 0) = true ↔ (x.toNat : Int) ≠ 0 := by
    rw [bne_iff_ne, ne_eq, ne_eq, ← UInt8.toNat_inj]
    exact not_congr ⟨fun h => by rw [h]; rfl, fun h => by have h' : x.toNat = 0 := by omega
                                                          rw [h']; rfl⟩
  refine enter Tryz.func133 rfl Tryz.ntmps133 rfl ?_
  repeat' (first | refine Z H ?_ | (refine Zc ?_ ?_ <;> intro hc <;> first | (exfalso; omega) | skip) | (refine Y ?_; try change C _ _ _ _ _ _) | (refine Zs H ?_; clear H; (try clear w); intro w H) | (refine Zn H ?_; clear H; (try clear w); intro _ w H) | (refine Ze H ?_; clear H; (try clear w); intro gv w H))
  · exact ⟨_, resT rfl, by rw [hx.2 (by assumption)]; rfl, H⟩
  · refine ⟨_, resT rfl, ?_, H⟩
    have : (x != 0) = false := by
      cases hb : (x != 0) with
      | false => rfl
      | true => exact absurd (by assumption) (hx.1 hb)
    rw [this]; rfl
theorem IndexFunc_w {l : List UInt8} {a : Option Addr} {c : Nat} (H : Holds s w R) (h : SlS s (.slice a l.length c) 1 l.length (u8s l)) (hl : l.length ≤ 1000) : Calls Tryz.prog 147 #[.slice a l.length c, .func (.func 133) #[] #[]] w fun e w' => ∃ r : Int, e = .returned (.int .i64 r) ∧ (l.any (fun x => x != 0) = true → 0 ≤ r) ∧ (l.any (fun x => x != 0) = false → r < 0) ∧ Holds s w' R := by
 refine enter Tryz.func147 rfl Tryz.ntmps147 rfl ?_
 refine Gq8 H ?_
 refine C.loopH H [4, 5, 8, 9, 10, 11, 12, 13, 14, 15, 16, 17, 18] [8] rfl (fun m vs => ∃ i : Nat, m = l.length - i ∧ i ≤ l.length ∧ vs = [.int .i64 (i : Int)] ∧ (l.take i).any (fun x => x != 0) = false) l.length ⟨0, rfl, Nat.zero_le _, rfl, rfl⟩ ?_
 clear H
 rintro m vs hv w ⟨i, rfl, hi, rfl, hz⟩ H
 by_cases hlt : i < l.length
 ·obtain ⟨g, o, c', hv', _, _, hp⟩ := elemS1 h (by omega)
  cases hv'
  have pn : Pin s g (o + i * 1) (.int .u8 (l[i].toNat : Int)) := by rw [Nat.mul_one]; exact hp i hlt
  have hsu : (l.take (i + 1)).any (fun x => x != 0) = (l[i] != 0) := by rw [List.take_succ_eq_append_getElem hlt, List.any_append, hz]; simp
  have hin : l[i] ∈ l := List.getElem_mem hlt
  generalize l[i] = x at *
  refine Gq8 H ?_
  refine B.call (content1_w (x := x) H) ?_
  clear H
  rintro _ w ⟨rfl, H⟩
  refine ⟨_, rfl, ?_⟩
  cases hx : (x != 0) with
  | true =>
   refine Gq8 H ?_
   exact ⟨_, resT rfl, (i : Int), rfl, fun _ => by omega, fun h => by rw [List.any_eq_false] at h; exact absurd hx (h x hin), H⟩
  | false =>
   refine Gq8 H ?_
   exact ⟨agr, l.length - (i + 1), by omega, ⟨i + 1, rfl, by omega, rfl, by rw [hsu, hx]⟩, H⟩
 ·have hie : i = l.length := by omega
  subst hie
  rw [List.take_length] at hz
  refine Gq8 H ?_
  exact ⟨_, resT rfl, -1, rfl, fun h => (by rw [hz] at h; cases h), fun _ => by decide, H⟩
theorem ContainsFunc_w {l : List UInt8} {a : Option Addr} {c : Nat} (H : Holds s w R) (h : SlS s (.slice a l.length c) 1 l.length (u8s l)) (hl : l.length ≤ 1000) : Calls Tryz.prog 132 #[.slice a l.length c, .func (.func 133) #[] #[]] w fun e w' => e = .returned (.bool (l.any (fun x => x != 0))) ∧ Holds s w' R := by
 refine enter Tryz.func132 rfl Tryz.ntmps132 rfl ?_
 refine Gq8 H ?_
 (refine X.call (IndexFunc_w H h hl) ?_; (try clear H); rintro _ w ⟨r, rfl, h1, h2, H⟩; refine ⟨_, rfl, ?_⟩)
 cases hb : l.any (fun x => x != 0) with
 | true =>
  have := h1 hb
  refine Gq8 H ?_
  exact ⟨_, resT rfl, rfl, H⟩
 | false =>
  have := h2 hb
  refine Gq8 H ?_
  exact ⟨_, resT rfl, rfl, H⟩
theorem sls_mid {a : Option Addr} {c n k : Nat} {l : List UInt8} (h : SlS s (.slice a l.length c) 1 l.length (u8s l)) (hn : n + k ≤ l.length) : SlS s (.slice (subAddr a c n 1) k (c - n)) 1 k (u8s ((l.drop n).take k)) := by
 obtain ⟨a', c', hv, h1, h2, h3, h4⟩ := h
 cases hv
 have e : ((l.drop n).take k).length = k := by rw [List.length_take, List.length_drop]; omega
 refine ⟨_, _, rfl, by rw [u8s_len, e, Nat.mul_one], by omega, by omega, ?_⟩
 rcases h4 with h4 | ⟨g, o, rfl, h5⟩
 ·left
  have : l = [] := by cases l with | nil => rfl | cons => cases h4
  subst this
  simp [u8s]
 ·by_cases hk : k = 0
  ·left; subst hk; simp [u8s]
  ·right
   refine ⟨g, o + n, ?_, fun j x hj => ?_⟩
   ·unfold subAddr
    rw [if_neg (by omega)]
    simp [Addr.add]
   ·rw [← u8s_take, ← u8s_drop, List.getElem?_take] at hj
    split at hj
    ·rw [List.getElem?_drop] at hj
     rw [Nat.add_assoc]
     exact h5 _ x hj
    ·cases hj
theorem content_w {l : List UInt8} {a : Option Addr} {c n : Nat} {t : UInt8} (hN : Nib s) (H : Holds s w R) (h : Src s R (.slice a l.length c) 1 l.length (u8s l)) (hl : l.length ≤ 1000) (hn : n ≤ 55) : Calls Tryz.prog 109 #[.slice a l.length c, .int .u8 (t.toNat : Int), .int .i64 (n : Int)] w fun x w' => ∃ s', s.Le s' ∧ Holds s' w' R ∧ ((decW t n l = none ∧ x = .returned (.tuple #[.int .u32 0, .slice none 0 0, .bool false])) ∨ ∃ e r v, decW t n l = some (e, r) ∧ x = .returned (.tuple #[.int .u32 (e : Int), v, .bool true]) ∧ SlS s' v 1 n (u8s r)) := by
 refine enter Tryz.func109 rfl Tryz.ntmps109 rfl ?_
 refine Gq8 H ?_
 (refine X.call (Open_s hN H h hl) ?_; (try clear H); rintro _ w ⟨aa, cc, rfl, H⟩; refine ⟨_, rfl, ?_⟩)
 by_cases h0 : (openL l).2 = 0
 ·have hdec : decW t n l = if (openL l).1.length = 60 then (if (openL l).1[0]? = some t then (if ((openL l).1.drop (5 + n)).any (fun x => x != 0) = true then none else some (numN (((openL l).1.drop 1).take 4), ((openL l).1.drop 5).take n)) else none) else none := by rw [decW, if_pos h0]
  rw [hdec, h0]
  clear hdec h0
  generalize (openL l).1 = q at *
  by_cases hq : q.length = 60
  ·rw [if_pos hq]
   obtain ⟨s1, gb, rfl, hs1, H1, hS, _⟩ := H.fixB (by omega)
   clear H
   have H := H1
   clear H1
   obtain ⟨g, o, c', hv', hcc, hcm, hp⟩ := elemS1 hS (by omega)
   cases hv'
   have pn : Pin s1 gb (0 + 0 * 1) (.int .u8 (q[0].toNat : Int)) := hp 0 (by omega)
   clear hp
   have hq0 : q[0]? = some q[0] := List.getElem?_eq_getElem (by omega)
   rw [hq0]
   generalize q[0] = x at *
   rw [hq] at hS hcc ⊢
   by_cases hx : x = t
   ·subst hx
    rw [if_pos rfl]
    have hS' : SlS s1 (.slice (some ⟨gb, 0, none⟩) q.length cc) 1 q.length (u8s q) := by rw [hq]; exact hS
    have hS5 := sls_mid (n := 5 + n) (k := 55 - n) hS' (by omega)
    have hd : (q.drop (5 + n)).length = 55 - n := by rw [List.length_drop]; omega
    rw [List.take_of_length_le (by omega), show 55 - n = (q.drop (5 + n)).length from hd.symm] at hS5
    repeat' (first | (refine K.ia (i := 0) rfl rfl rfl rfl rfl (by decide) ?_) | (refine K.from (l := 5 + n) rfl rfl rfl rfl (by simp) (by omega) ?_; rw [show 60 - (5 + n) = (q.drop (5 + n)).length by omega]) | refine Go8 H ?_ | (refine Gs8 H ?_; clear H; (try clear w); intro w H) | (refine Gn H ?_; clear H; (try clear w); intro _ w H))
    (refine X.call (ContainsFunc_w H hS5 (by omega)) ?_; (try clear H); rintro _ w ⟨rfl, H⟩; refine ⟨_, rfl, ?_⟩)
    cases hb : (q.drop (5 + n)).any (fun x => x != 0) with
    | true =>
     rw [if_pos rfl]
     refine Gq8 H ?_
     exact ⟨_, resTTT rfl, s1, hs1, H, .inl ⟨rfl, rfl⟩⟩
    | false =>
     rw [if_neg (by decide)]
     have h4 : ((q.drop 1).take 4).length = 4 := by rw [List.length_take, List.length_drop]; omega
     have hS4 : SlS s1 (.slice (subAddr (some ⟨gb, 0, none⟩) cc 1 1) ((q.drop 1).take 4).length (cc - 1)) 1 ((q.drop 1).take 4).length (u8s ((q.drop 1).take 4)) := by
      have := sls_mid (n := 1) (k := 4) hS' (by omega)
      rw [h4]
      exact this
     have hSn := sls_mid (n := 5) (k := n) hS' (by omega)
     have hlt : numN ((q.drop 1).take 4) < 2 ^ 32 := Nat.lt_of_lt_of_le (numI_lt _ _) (Nat.pow_le_pow_right (by decide) (by rw [h4]; decide))
     have hmod : numN ((q.drop 1).take 4) % 2 ^ 32 = numN ((q.drop 1).take 4) := Nat.mod_eq_of_lt hlt
     repeat' (first | (refine midK (l := 1) (h' := 5) rfl rfl rfl rfl rfl rfl rfl (by decide) (by omega) ?_; rw [show 5 - 1 = ((q.drop 1).take 4).length from h4.symm]) | refine Go8 H ?_ | (refine Gs8 H ?_; clear H; (try clear w); intro w H) | (refine Gn H ?_; clear H; (try clear w); intro _ w H))
     (refine X.call (Get_s H hS4 (by omega) (by omega)) ?_; (try clear H); rintro _ w ⟨rfl, H⟩; refine ⟨_, rfl, ?_⟩)
     refine Gq8 H ?_
     refine C.drawn1 [0, 0, 0, 0, 0, 0, 0, 0, 0, 0, 0] [0, 1, 0, 0, 8, 28, 0, 64, 3, 319, 1023] (by kernel_rfl) ?_; replace H := H.drew
     repeat' (first | (refine B.conv Tryz.underlying198 ?_; rw [hmod]) | (refine midK (l := 5) (h' := 5 + n) rfl rfl rfl rfl rfl rfl (by simp) (by omega) (by omega) ?_; rw [Nat.add_sub_cancel_left]) | refine Go8 H ?_ | (refine Gs8 H ?_; clear H; (try clear w); intro w H) | (refine Gn H ?_; clear H; (try clear w); intro _ w H))
     exact ⟨_, resTTT rfl, s1, hs1, H, .inr ⟨_, _, _, rfl, rfl, hSn⟩⟩
   ·rw [if_neg (by intro h; cases h; exact hx rfl)]
    have hxt : (x.toNat : Int) ≠ (t.toNat : Int) := fun h => hx (UInt8.toNat_inj.1 (by omega))
    repeat' (first | (refine K.ia (i := 0) rfl rfl rfl rfl rfl (by decide) ?_) | refine Go8 H ?_ | (refine Gs8 H ?_; clear H; (try clear w); intro w H) | (refine Gn H ?_; clear H; (try clear w); intro _ w H))
    exact ⟨_, resTTT rfl, s1, hs1, H, .inl ⟨rfl, rfl⟩⟩
  ·rw [if_neg hq]
   refine Gq8 H ?_
   exact ⟨_, resTTT rfl, s, Ro.Le.refl _, H.arr, .inl ⟨rfl, rfl⟩⟩
 ·rw [decW, if_neg h0]
  refine Gq8 H ?_
  exact ⟨_, resTTT rfl, s, Ro.Le.refl _, H.arr, .inl ⟨rfl, rfl⟩⟩
theorem resT4 {P : Program} {fn : Func} {e : Env} {w : World} {t u v x : Nat} (h : fn.results = #[.tmp t, .tmp u, .tmp v, .tmp x]) : ResE P fn e w (.tuple #[e t, e u, e v, e x]) := fun a ha => by subst ha; simp [results, h, envOf]
theorem resT5 {P : Program} {fn : Func} {e : Env} {w : World} {t u v x y : Nat} (h : fn.results = #[.tmp t, .tmp u, .tmp v, .tmp x, .tmp y]) : ResE P fn e w (.tuple #[e t, e u, e v, e x, e y]) := fun a ha => by subst ha; simp [results, h, envOf]
theorem readHead_w {l : List UInt8} {a : Option Addr} {c : Nat} (hN : Nib s) (H : Holds s w R) (h : Src s R (.slice a l.length c) 1 l.length (u8s l)) (hl : l.length ≤ 1000) : Calls Tryz.prog 105 #[.slice a l.length c] w fun x w' => ∃ s', s.Le s' ∧ Holds s' w' R ∧ ((decW 72 1 l = none ∧ x = .returned (.tuple #[.int .u32 0, .int .i64 0, .bool false])) ∨ ∃ e b, decW 72 1 l = some (e, [b]) ∧ x = .returned (.tuple #[.int .u32 (e : Int), .int .i64 (b.toNat : Int), .bool true])) := by
 refine enter Tryz.func105 rfl Tryz.ntmps105 rfl ?_
 refine Gq8 H ?_
 refine X.call (content_w (t := 72) (n := 1) hN H h hl (by decide)) ?_
 clear H
 rintro _ w ⟨s1, hs1, H, (⟨hd, rfl⟩ | ⟨e, r, v, hd, rfl, hS⟩)⟩
 ·refine ⟨_, rfl, ?_⟩
  refine Gq8 H ?_
  exact ⟨_, resTTT rfl, s1, hs1, H, .inl ⟨hd, rfl⟩⟩
 ·refine ⟨_, rfl, ?_⟩
  have hr := decW_len hd (by decide)
  match r, hr with
  | [b], _ =>
  obtain ⟨g, o, c', rfl, hcc, hcm, hp⟩ := elemS1 (l := [b]) hS (by simp)
  have pn : Pin s1 g (o + 0 * 1) (.int .u8 (b.toNat : Int)) := hp 0 (by simp)
  have wr : IntKind.i64.wrap (b.toNat : Int) = (b.toNat : Int) := IntWalk.i64_in _ (by have := b.toNat_lt; omega)
  refine Gq8 H ?_
  refine C.drawn1 [0, 0, 0, 1, 0, 0, 0, 0] [0, 0, 2, 6, 14, 1, 63, 127] (by kernel_rfl) ?_; replace H := H.drew
  repeat' (first | (refine K.ia (i := 0) rfl rfl rfl rfl rfl (by simp) ?_) | (refine K.convI Tryz.underlying5 rfl rfl rfl ?_; rw [wr]) | refine Go8 H ?_ | (refine Gs8 H ?_; clear H; (try clear w); intro w H) | (refine Gn H ?_; clear H; (try clear w); intro _ w H))
  exact ⟨_, resTTT rfl, s1, hs1, H, .inr ⟨e, b, hd, rfl⟩⟩
theorem readMark_w {l : List UInt8} {a : Option Addr} {c : Nat} (hN : Nib s) (H : Holds s w R) (h : Src s R (.slice a l.length c) 1 l.length (u8s l)) (hl : l.length ≤ 1000) : Calls Tryz.prog 111 #[.slice a l.length c] w fun x w' => ∃ s', s.Le s' ∧ Holds s' w' R ∧ ((decW 67 1 l = none ∧ x = .returned (.tuple #[.int .u32 0, .int .i64 0, .bool false])) ∨ ∃ e b, decW 67 1 l = some (e, [b]) ∧ x = .returned (.tuple #[.int .u32 (e : Int), .int .i64 (b.toNat : Int), .bool true])) := by
 refine enter Tryz.func111 rfl Tryz.ntmps111 rfl ?_
 refine Gq8 H ?_
 refine X.call (content_w (t := 67) (n := 1) hN H h hl (by decide)) ?_
 clear H
 rintro _ w ⟨s1, hs1, H, (⟨hd, rfl⟩ | ⟨e, r, v, hd, rfl, hS⟩)⟩
 ·refine ⟨_, rfl, ?_⟩
  refine Gq8 H ?_
  exact ⟨_, resTTT rfl, s1, hs1, H, .inl ⟨hd, rfl⟩⟩
 ·refine ⟨_, rfl, ?_⟩
  have hr := decW_len hd (by decide)
  match r, hr with
  | [b], _ =>
  obtain ⟨g, o, c', rfl, hcc, hcm, hp⟩ := elemS1 (l := [b]) hS (by simp)
  have pn : Pin s1 g (o + 0 * 1) (.int .u8 (b.toNat : Int)) := hp 0 (by simp)
  have wr : IntKind.i64.wrap (b.toNat : Int) = (b.toNat : Int) := IntWalk.i64_in _ (by have := b.toNat_lt; omega)
  refine Gq8 H ?_
  refine C.drawn1 [0, 0, 0, 1, 0, 0, 0, 0] [0, 0, 2, 6, 14, 1, 63, 127] (by kernel_rfl) ?_; replace H := H.drew
  repeat' (first | (refine K.ia (i := 0) rfl rfl rfl rfl rfl (by simp) ?_) | (refine K.convI Tryz.underlying5 rfl rfl rfl ?_; rw [wr]) | refine Go8 H ?_ | (refine Gs8 H ?_; clear H; (try clear w); intro w H) | (refine Gn H ?_; clear H; (try clear w); intro _ w H))
  exact ⟨_, resTTT rfl, s1, hs1, H, .inr ⟨e, b, hd, rfl⟩⟩
theorem readPage_w {l : List UInt8} {a : Option Addr} {c : Nat} (hN : Nib s) (H : Holds s w R) (h : Src s R (.slice a l.length c) 1 l.length (u8s l)) (hl : l.length ≤ 1000) : Calls Tryz.prog 86 #[.slice a l.length c] w fun x w' => ∃ s', s.Le s' ∧ Holds s' w' R ∧ ((decW 80 41 l = none ∧ x = .returned (.tuple #[.int .u32 0, .int .i64 0, .slice none 0 0, .bool false])) ∨ ∃ e b r v, decW 80 41 l = some (e, b :: r) ∧ x = .returned (.tuple #[.int .u32 (e : Int), .int .i64 (b.toNat : Int), v, .bool true]) ∧ SlS s' v 1 40 (u8s r)) := by
 refine enter Tryz.func86 rfl Tryz.ntmps86 rfl ?_
 refine Gq8 H ?_
 refine X.call (content_w (t := 80) (n := 41) hN H h hl (by decide)) ?_
 clear H
 rintro _ w ⟨s1, hs1, H, (⟨hd, rfl⟩ | ⟨e, r, v, hd, rfl, hS⟩)⟩
 ·refine ⟨_, rfl, ?_⟩
  refine Gq8 H ?_
  exact ⟨_, resT4 rfl, s1, hs1, H, .inl ⟨hd, rfl⟩⟩
 ·refine ⟨_, rfl, ?_⟩
  have hr := decW_len hd (by decide)
  match r, hr with
  | b :: r, hr =>
  have hS2 : SlS s1 v 1 (b :: r).length (u8s (b :: r)) := by rw [hr]; exact hS
  obtain ⟨g, o, c', rfl, hcc, hcm, hp⟩ := elemS1 (l := b :: r) hS2 (by simp)
  have pn : Pin s1 g (o + 0 * 1) (.int .u8 (b.toNat : Int)) := hp 0 (by simp)
  clear hp
  have hm := sls_mid (n := 1) (k := 40) hS2 (by omega)
  rw [show (b :: r).drop 1 = r from rfl, List.take_of_length_le (by simp at hr; omega)] at hm
  rw [hr] at *
  have wr : IntKind.i64.wrap (b.toNat : Int) = (b.toNat : Int) := IntWalk.i64_in _ (by have := b.toNat_lt; omega)
  refine Gq8 H ?_
  refine C.drawn1 [0, 0, 0, 1, 0, 0, 0, 0, 0, 0, 0] [0, 0, 2, 6, 14, 0, 32, 1, 159, 511, 1023] (by kernel_rfl) ?_; replace H := H.drew
  repeat' (first | (refine K.ia (i := 0) rfl rfl rfl rfl rfl (by decide) ?_) | (refine K.from (l := 1) rfl rfl rfl rfl rfl (by decide) ?_) | (refine K.convI Tryz.underlying5 rfl rfl rfl ?_; rw [wr]) | refine Go8 H ?_ | (refine Gs8 H ?_; clear H; (try clear w); intro w H) | (refine Gn H ?_; clear H; (try clear w); intro _ w H))
  exact ⟨_, resT4 rfl, s1, hs1, H, .inr ⟨e, b, r, _, hd, rfl, hm⟩⟩
theorem readRecord_w {l : List UInt8} {a : Option Addr} {c : Nat} (hN : Nib s) (H : Holds s w R) (h : Src s R (.slice a l.length c) 1 l.length (u8s l)) (hl : l.length ≤ 1000) : Calls Tryz.prog 110 #[.slice a l.length c] w fun x w' => ∃ s', s.Le s' ∧ Holds s' w' R ∧ ((decW 82 42 l = none ∧ x = .returned (.tuple #[.int .u32 0, .int .i64 0, .int .i64 0, .slice none 0 0, .bool false])) ∨ ∃ e b b2 r v, decW 82 42 l = some (e, b :: b2 :: r) ∧ x = .returned (.tuple #[.int .u32 (e : Int), .int .i64 (b.toNat : Int), .int .i64 (b2.toNat : Int), v, .bool true]) ∧ SlS s' v 1 40 (u8s r)) := by
 refine enter Tryz.func110 rfl Tryz.ntmps110 rfl ?_
 refine Gq8 H ?_
 refine X.call (content_w (t := 82) (n := 42) hN H h hl (by decide)) ?_
 clear H
 rintro _ w ⟨s1, hs1, H, (⟨hd, rfl⟩ | ⟨e, r, v, hd, rfl, hS⟩)⟩
 ·refine ⟨_, rfl, ?_⟩
  refine Gq8 H ?_
  exact ⟨_, resT5 rfl, s1, hs1, H, .inl ⟨hd, rfl⟩⟩
 ·refine ⟨_, rfl, ?_⟩
  have hr := decW_len hd (by decide)
  match r, hr with
  | b :: b2 :: r, hr =>
  have hS2 : SlS s1 v 1 (b :: b2 :: r).length (u8s (b :: b2 :: r)) := by rw [hr]; exact hS
  obtain ⟨g, o, c', rfl, hcc, hcm, hp⟩ := elemS1 (l := b :: b2 :: r) hS2 (by simp)
  have pn : Pin s1 g (o + 0 * 1) (.int .u8 (b.toNat : Int)) := hp 0 (by simp)
  have pn2 : Pin s1 g (o + 1 * 1) (.int .u8 (b2.toNat : Int)) := hp 1 (by simp)
  clear hp
  have hm := sls_mid (n := 2) (k := 40) hS2 (by omega)
  rw [show (b :: b2 :: r).drop 2 = r from rfl, List.take_of_length_le (by simp at hr; omega)] at hm
  rw [hr] at *
  have wr : IntKind.i64.wrap (b.toNat : Int) = (b.toNat : Int) := IntWalk.i64_in _ (by have := b.toNat_lt; omega)
  have wr2 : IntKind.i64.wrap (b2.toNat : Int) = (b2.toNat : Int) := IntWalk.i64_in _ (by have := b2.toNat_lt; omega)
  refine Gq8 H ?_
  refine C.drawn1 [0, 0, 0, 1, 0, 0, 0, 1, 0, 0, 0, 0, 0, 0, 0, 0] [0, 0, 2, 6, 14, 0, 32, 96, 224, 0, 512, 1, 2079, 6655, 16383, 32767] (by kernel_rfl) ?_; replace H := H.drew
  repeat' (first | (refine K.ia (i := 0) rfl rfl rfl rfl rfl (by decide) ?_) | (refine K.ia (i := 1) rfl rfl rfl rfl rfl (by decide) ?_) | (refine K.from (l := 2) rfl rfl rfl rfl rfl (by decide) ?_) | (refine K.convI Tryz.underlying5 rfl rfl rfl ?_; first | rw [wr] | rw [wr2]) | refine Go8 H ?_ | (refine Gs8 H ?_; clear H; (try clear w); intro w H) | (refine Gn H ?_; clear H; (try clear w); intro _ w H))
  exact ⟨_, resT5 rfl, s1, hs1, H, .inr ⟨e, b, b2, r, _, hd, rfl, hm⟩⟩
end
inductive St where
 | w (a : Nat) (b : List UInt8)
 | f
def run (x : Ext) : List St → DM → DM × Int
 | [], d => (d, 0)
 | .w a b :: r, d => if (pwrite d x (a : Int) b).2 = 0 then run x r (pwrite d x (a : Int) b).1 else pwrite d x (a : Int) b
 | .f :: r, d => if d.flush.2 = 0 then run x r d.flush.1 else d.flush
theorem run_ok (x : Ext) {a : Nat} {l : List UInt8} {r : List St} {d : DM} (h : (pwrite d x (a : Int) l).2 = 0) : run x (.w a l :: r) d = run x r (pwrite d x (a : Int) l).1 := by rw [run, if_pos h]
theorem run_no (x : Ext) {a : Nat} {l : List UInt8} {r : List St} {d : DM} (h : (pwrite d x (a : Int) l).2 ≠ 0) : run x (.w a l :: r) d = pwrite d x (a : Int) l := by rw [run, if_neg h]
theorem run_fok (x : Ext) {r : List St} {d : DM} (h : d.flush.2 = 0) : run x (.f :: r) d = run x r d.flush.1 := by rw [run, if_pos h]
theorem run_fno (x : Ext) {r : List St} {d : DM} (h : d.flush.2 ≠ 0) : run x (.f :: r) d = d.flush := by rw [run, if_neg h]
theorem run_app (x : Ext) (a b : List St) (d : DM) : run x (a ++ b) d = if (run x a d).2 = 0 then run x b (run x a d).1 else run x a d := by
 induction a generalizing d with
 | nil => simp [run]
 | cons c r ih =>
  cases c with
  | w a l =>
   rw [List.cons_append]
   by_cases h : (pwrite d x (a : Int) l).2 = 0
   ·rw [run_ok x h, run_ok x h]; exact ih _
   ·rw [run_no x h, run_no x h, if_neg h]
  | f =>
   rw [List.cons_append]
   by_cases h : d.flush.2 = 0
   ·rw [run_fok x h, run_fok x h]; exact ih _
   ·rw [run_fno x h, run_fno x h, if_neg h]
theorem pend_powW (d : DM) : d.powered.1.pend.length ≤ d.pend.length := by
 unfold DM.powered DM.crash
 split
 ·exact Nat.le_refl _
 ·split
  ·dsimp only; split <;> simp
  ·exact Nat.le_refl _
theorem pend_writeW (d : DM) (n : Int) (l : List UInt8) : (d.write n l).1.pend.length ≤ d.pend.length + 1 := by
 have := pend_powW d
 unfold DM.write
 split
 ·split
  ·split
   ·simp only [List.length_append, List.length_cons, List.length_nil]; omega
   ·simp only; omega
  ·simp only; omega
 ·simp only; omega
theorem pend_flushW (d : DM) : d.flush.1.pend.length ≤ d.pend.length := by
 have := pend_powW d
 unfold DM.flush
 split
 ·simp
 ·simpa using this
theorem pend_pwriteW (d : DM) (x : Ext) (a : Int) (l : List UInt8) : (pwrite d x a l).1.pend.length ≤ d.pend.length + 1 := by
 unfold pwrite
 split
 ·exact pend_writeW _ _ _
 ·simp
def getP (ps : List UInt8) (i : Nat) : List UInt8 := (ps.drop (i * 40)).take 40
theorem getP_len {ps : List UInt8} {i : Nat} (h : ps.length = 640) (hi : i < 16) : (getP ps i).length = 40 := by
 rw [getP, List.length_take, List.length_drop]; omega
def pageB (e i : Nat) (ps : List UInt8) : List UInt8 := secW 80 e ([UInt8.ofNat i] ++ getP ps i)
def headB (e h : Nat) : List UInt8 := secW 72 e [UInt8.ofNat h]
def homeFrom (e h : Nat) (ps : List UInt8) : Nat → Nat → List St
 | 0, _ => [.f, .w (e % 2) (headB e h), .f]
 | n + 1, i => .w (2 + 16 * h + i) (pageB e i ps) :: homeFrom e h ps n (i + 1)
def homeSteps (e h : Nat) (ps : List UInt8) : List St := homeFrom e h ps 16 0
def z64 : List UInt8 := List.replicate 64 0
def clearFrom (r : List St) : Nat → Nat → List St
 | 0, _ => r
 | n + 1, k => .w (34 + k) z64 :: clearFrom r n (k + 1)
def z640 : List UInt8 := List.replicate 640 0
def formatSteps : List St := clearFrom (homeSteps 1 0 z640) 18 0
section
variable {s : Ro} {w : World} {R : List Asn}
theorem homeAt_w {h i : Nat} (H : Holds s w R) (hh : h ≤ 1000) (hi : i ≤ 1000) : Calls Tryz.prog 85 #[.int .i64 (h : Int), .int .i64 (i : Int)] w fun x w' => x = .returned (.int .i64 ((2 + 16 * h + i : Nat) : Int)) ∧ Holds s w' R := by
 have e : ((2 + 16 * h + i : Nat) : Int) = 2 + (h : Int) * 16 + (i : Int) := by omega
 rw [e]
 refine enter Tryz.func85 rfl Tryz.ntmps85 rfl ?_
 repeat' (first | (refine J.mul ?_) | refine Go8 H ?_ | (refine Gs8 H ?_; clear H; (try clear w); intro w H) | (refine Gn H ?_; clear H; (try clear w); intro _ w H))
 exact ⟨_, resT rfl, rfl, H⟩
theorem homeAt_e {h i : Nat} (H : Holds s w R) (hh : h ≤ 1000) (hi : i ≤ 1000) : Calls Tryz.prog 85 #[.int .i64 (h : Int), .int .i64 (i : Int)] w fun x w' => x = .returned (.int .i64 ((2 + 16 * h + i : Nat) : Int)) ∧ Only [] w w' ∧ Holds s w' R :=
 (homeAt_w H.full hh hi).mono fun x w' ⟨he, H'⟩ => ⟨he, H.pure0 H'⟩
theorem headAt_w {e : Nat} (H : Holds s w R) (he : e < 2 ^ 32) : Calls Tryz.prog 106 #[.int .u32 (e : Int)] w fun x w' => x = .returned (.int .i64 ((e % 2 : Nat) : Int)) ∧ Holds s w' R := by
 have wr : IntKind.i64.wrap ((e % 2 : Nat) : Int) = ((e % 2 : Nat) : Int) := IntWalk.i64_in _ (by omega)
 refine enter Tryz.func106 rfl Tryz.ntmps106 rfl ?_
 repeat' (first | (refine B.rem (a := e) (b := 2) ?_) | (refine K.convI Tryz.underlying160 rfl rfl rfl ?_; rw [wr]) | refine Go8 H ?_ | (refine Gs8 H ?_; clear H; (try clear w); intro w H) | (refine Gn H ?_; clear H; (try clear w); intro _ w H))
 exact ⟨_, resT rfl, rfl, H⟩
theorem pageSector_e {e p : Nat} {m : List UInt8} {u : Value} (hN : Nib s) (H : Holds s w R) (he : e < 2 ^ 32) (hp : p < 256) (hu : Src s R u 1 m.length (u8s m)) (hm : m.length = 40) : Calls Tryz.prog 120 #[.int .u32 (e : Int), .int .i64 (p : Int), u] w fun x w' => ∃ aa cc, x = .returned (.slice aa (secW 80 e ([UInt8.ofNat p] ++ m)).length cc) ∧ Only [] w w' ∧ Holds s w' (row 5 1 (.slice aa (secW 80 e ([UInt8.ofNat p] ++ m)).length cc) (secW 80 e ([UInt8.ofNat p] ++ m)).length (u8s (secW 80 e ([UInt8.ofNat p] ++ m))) :: R) :=
 (pageSector_w (hN.mono H.le_full) H.full he hp (.ro (hu.full H)) hm).mono fun x w' ⟨aa, cc, he, H'⟩ => ⟨aa, cc, he, H.pure1 H'⟩
variable {b bp : Nat} {d : DM} {x : Ext}
theorem cut_page {pre post : List Value} {ps : List UInt8} {k off : Nat} (ho : pre.length = off) (hl : ps.length = 640) (hk : k < 16) : ((pre ++ (u8s ps ++ post)).drop (off + k * 40)).take 40 = u8s (getP ps k) := by
 have h1 : (u8s ps).length = 640 := by rw [u8s_len, hl]
 rw [List.drop_append, List.drop_eq_nil_of_le (by omega), List.nil_append, ho, Nat.add_sub_cancel_left, List.drop_append_of_le_length (by omega), List.take_append_of_le_length (by rw [List.length_drop]; omega), u8s_drop, u8s_take]
 rfl
theorem src_page {rs : List Asn} {bP off k : Nat} {t : TypeId} {pre post : List Value} {ps : List UInt8} (i : Nat) (h : rs[i]? = some (var bP t (pre ++ (u8s ps ++ post)))) (ho : pre.length = off) (hl : ps.length = 640) (hk : k < 16) : Src s rs (.slice (some ⟨bP, off + k * 40, none⟩) 40 40) 1 40 (u8s (getP ps k)) := by
 have hg := getP_len hl hk
 refine Src.part i bP _ 40 t h rfl (by rw [u8s_len, hg]) (Nat.le_refl _) (by decide) ?_
 rw [u8s_len, hg]
 exact cut_page ho hl hk
theorem u8s_zero (n : Nat) : u8s (List.replicate n 0) = List.replicate n (.int .u8 0) := by simp [u8s, u8]
theorem writeHome_w {e h bP off : Nat} {ps : List UInt8} (hN : Nib s) (H : Holds s w (dsk b d :: R)) (hp : PartS s bp b x) (he : e < 2 ^ 32) (hh : h ≤ 1) (hl : ps.length = 640) (hP : ∀ k, k < 16 → Src s R (.slice (some ⟨bP, off + k * 40, none⟩) 40 40) 1 40 (u8s (getP ps k))) (hpl : d.pend.length ≤ 100000) : Calls Tryz.prog 94 #[.pointer (some ⟨bp, 0, none⟩), .int .u32 (e : Int), .int .i64 (h : Int), .pointer (some ⟨bP, off, none⟩)] w fun y w' => y = .returned (.int .i64 (run x (homeSteps e h ps) d).2) ∧ Holds s w' (dsk b (run x (homeSteps e h ps) d).1 :: R) := by
 refine enter Tryz.func94 rfl Tryz.ntmps94 rfl ?_
 refine Gq8 H ?_
 refine C.loopS [8, 9, 10, 13, 14, 15, 16, 17, 18, 19, 20, 21, 22, 23, 24, 25, 26, 27, 28, 29, 30, 31, 32] [13] rfl (fun k vs w => ∃ i : Nat, ∃ di : DM, k = 16 - i ∧ i ≤ 16 ∧ vs = [.int .i64 (i : Int)] ∧ di.pend.length ≤ 100000 + i ∧ run x (homeSteps e h ps) d = run x (homeFrom e h ps (16 - i) i) di ∧ Holds s w (dsk b di :: R)) 16 ⟨0, d, rfl, Nat.zero_le _, rfl, hpl, rfl, H⟩ ?_
 clear H
 rintro k vs hv w ⟨i, di, rfl, hi, rfl, hdi, hrun, H⟩
 rw [hrun]
 by_cases hlt : i < 16
 ·rw [show 16 - i = (16 - (i + 1)) + 1 by omega, homeFrom] at hrun ⊢
  have hpl2 := pend_pwriteW di x ((2 + 16 * h + i : Nat) : Int) (pageB e i ps)
  have hgl := getP_len hl hlt
  have hPi : Src s R (.slice (some ⟨bP, off + i * 40, none⟩) 40 40) 1 (getP ps i).length (u8s (getP ps i)) := by rw [hgl]; exact hP i hlt
  refine Gq8 H ?_
  refine C.drawn5 [0, 1, 2, 4, 5, 6, 7, 8, 9, 10, 3, 11, 12, 13] [0, 0, 0, 0, 0, 0, 0, 0, 0, 0, 3, 3, 3, 0] [11, 1, 1] [0, 0, 0, 6, 0, 0, 0, 0, 64, 448, 960, 2046, 4095, 8191] (by kernel_rfl) ?_; replace H := H.drew; refine sgA ?_
  refine Gq8 H ?_
  (refine X.call (homeAt_e (h := h) (i := i) H (by omega) (by omega)) ?_; (try clear H); rintro _ w ⟨rfl, ho, H⟩; refine ⟨_, rfl, ?_⟩); refine L.nil ?_; refine ⟨rfl, rfl, q4, ?_⟩
  clear ho
  refine Gq8 H ?_
  (refine X.call (pageSector_e (e := e) (p := i) (m := getP ps i) hN H he (by omega) hPi.skip hgl) ?_; (try clear H); rintro _ w ⟨a1, c1, rfl, ho, H⟩; refine ⟨_, rfl, ?_⟩); refine L.nil ?_; refine ⟨rfl, rfl, q4, ?_⟩
  clear ho
  rw [show secW 80 e ([UInt8.ofNat i] ++ getP ps i) = pageB e i ps from rfl] at *
  refine Gq8 H ?_
  replace H : Holds _ _ (dsk b _ :: _) := tp H
  (refine X.call (Write_p (a := ((2 + 16 * h + i : Nat) : Int)) H hp (by unfold I64; omega) (.own 0 _ rfl) (by omega)) ?_; (try clear H); rintro _ w ⟨rfl, H⟩; refine ⟨_, rfl, ?_⟩); refine L.nil ?_; refine ⟨rfl, rfl, q4, ?_⟩
  replace H := H.arr (rs' := dsk b (pwrite di x ((2 + 16 * h + i : Nat) : Int) (pageB e i ps)).1 :: R)
  by_cases h0 : (pwrite di x ((2 + 16 * h + i : Nat) : Int) (pageB e i ps)).2 = 0
  ·rw [run_ok x h0] at hrun ⊢
   rw [h0]
   refine Gq8 H ?_
   exact ⟨agr, 16 - (i + 1), by omega, i + 1, _, rfl, by omega, rfl, by omega, rfl, H⟩
  ·rw [run_no x h0]
   refine Gq8 H ?_
   exact ⟨_, resT rfl, rfl, H⟩
 ·have hie : 16 - i = 0 := by omega
  rw [hie, homeFrom] at hrun ⊢
  have hf := pend_flushW di
  refine Gq8 H ?_
  (refine X.call (Flush_p H hp) ?_; (try clear H); rintro _ w ⟨rfl, H⟩; refine ⟨_, rfl, ?_⟩)
  by_cases h0 : di.flush.2 = 0
  ·rw [run_fok x h0, h0]
   generalize di.flush.1 = dj at *
   have hq := pend_pwriteW dj x ((e % 2 : Nat) : Int) (headB e h)
   refine Gq8 H ?_
   (refine X.call (headAt_w (e := e) H he) ?_; (try clear H); rintro _ w ⟨rfl, H⟩; refine ⟨_, rfl, ?_⟩)
   refine Gq8 H ?_
   (refine X.call (headSector_w (e := e) (h := h) hN H he (by omega)) ?_; (try clear H); rintro _ w ⟨a1, c1, rfl, H⟩; refine ⟨_, rfl, ?_⟩)
   rw [show secW 72 e [UInt8.ofNat h] = headB e h from rfl] at *
   refine Gq8 H ?_
   replace H : Holds _ _ (dsk b _ :: _) := tp H
   have hW := Write_p (a := ((e % 2 : Nat) : Int)) H hp (by unfold I64; omega) (.own 0 _ rfl) (by omega)
   (refine X.call (hW) ?_; (try clear H); rintro _ w ⟨rfl, H⟩; refine ⟨_, rfl, ?_⟩)
   clear hW
   replace H := H.arr (rs' := dsk b (pwrite dj x ((e % 2 : Nat) : Int) (headB e h)).1 :: R)
   by_cases h1 : (pwrite dj x ((e % 2 : Nat) : Int) (headB e h)).2 = 0
   ·rw [run_ok x h1, h1]
    generalize (pwrite dj x ((e % 2 : Nat) : Int) (headB e h)).1 = dk at *
    refine Gq8 H ?_
    (refine X.call (Flush_p H hp) ?_; (try clear H); rintro _ w ⟨rfl, H⟩; refine ⟨_, rfl, ?_⟩)
    refine Gq8 H ?_
    have : run x [.f] dk = dk.flush := by
     rw [run]
     split
     ·rename_i hz; rw [run, ← hz]
     ·rfl
    rw [this]
    exact ⟨_, resT rfl, rfl, H⟩
   ·rw [run_no x h1]
    refine Gq8 H ?_
    exact ⟨_, resT rfl, rfl, H⟩
  ·rw [run_fno x h0]
   refine Gq8 H ?_
   exact ⟨_, resT rfl, rfl, H⟩
theorem Format_g (hN : Nib s) (H : Holds s w (dsk b d :: R)) (hp : PartS s bp b x) (hx : 52 ≤ x.2) (hpl : d.pend.length ≤ 10000) : Calls Tryz.prog 65 #[.pointer (some ⟨bp, 0, none⟩)] w fun y w' => y = .returned (.int .i64 (run x formatSteps d).2) ∧ Holds s w' (dsk b (run x formatSteps d).1 :: R) := by
 refine enter Tryz.func65 rfl Tryz.ntmps65 rfl ?_
 refine Gq8 H ?_
 (refine X.call (Size_p H hp) ?_; (try clear H); rintro _ w ⟨rfl, H⟩; refine ⟨_, rfl, ?_⟩)
 refine Gq8 H ?_
 refine K.make (k := 64) (m := 64) H rfl rfl rfl rfl rfl (by decide) (by decide) (by decide) ?_
 clear H
 intro g1 w H
 rw [rep_flat] at H
 refine Gq8 H ?_
 have H' : Holds s w (dsk b d :: row 5 1 (.slice (some ⟨g1, 0, none⟩) z64.length 64) z64.length (u8s z64) :: R) := by
  have h2 := H.arr (rs' := dsk b d :: row 5 1 (.slice (some ⟨g1, 0, none⟩) 64 64) 64 (List.replicate 64 (.int .u8 0)) :: R)
  exact h2
 clear H
 refine C.loopS [2, 4, 5, 11, 12, 13, 14, 15, 16, 17, 18, 19, 20, 21, 22] [11] rfl (fun k vs w => ∃ i : Nat, ∃ di : DM, k = 18 - i ∧ i ≤ 18 ∧ vs = [.int .i64 (i : Int)] ∧ di.pend.length ≤ 10000 + i ∧ run x formatSteps d = run x (clearFrom (homeSteps 1 0 z640) (18 - i) i) di ∧ Holds s w (dsk b di :: row 5 1 (.slice (some ⟨g1, 0, none⟩) z64.length 64) z64.length (u8s z64) :: R)) 18 ⟨0, d, rfl, Nat.zero_le _, rfl, hpl, rfl, H'⟩ ?_
 clear H'
 rintro k vs hv w ⟨i, di, rfl, hi, rfl, hdi, hrun, H⟩
 rw [hrun]
 by_cases hlt : i < 18
 ·rw [show 18 - i = (18 - (i + 1)) + 1 by omega, clearFrom]
  have hpl2 := pend_pwriteW di x ((34 + i : Nat) : Int) z64
  refine Gq8 H ?_
  rw [show (34 : Int) + (i : Int) = ((34 + i : Nat) : Int) by omega]
  have hW := Write_p (a := ((34 + i : Nat) : Int)) H hp (by unfold I64; omega) (.own 0 _ rfl) (by omega)
  (refine X.call (hW) ?_; (try clear H); rintro _ w ⟨rfl, H⟩; refine ⟨_, rfl, ?_⟩)
  by_cases h0 : (pwrite di x ((34 + i : Nat) : Int) z64).2 = 0
  ·rw [run_ok x h0, h0]
   refine Gq8 H ?_
   exact ⟨agr, 18 - (i + 1), by omega, i + 1, _, rfl, by omega, rfl, by omega, rfl, H⟩
  ·rw [run_no x h0]
   refine Gq8 H ?_
   exact ⟨_, resT rfl, rfl, H.arr⟩
 ·have hie : 18 - i = 0 := by omega
  rw [hie, clearFrom]
  (refine Gq8 H ?_; clear H; (try clear w); intro _ w H)
  rename_i bP
  replace H : Holds _ _ (dsk b _ :: _) := tp H
  have hsp : ∀ k, k < 16 → Src s (var bP 161 (List.replicate 640 (.int .u8 0)) :: row 5 1 (.slice (some ⟨g1, 0, none⟩) z64.length 64) z64.length (u8s z64) :: R) (.slice (some ⟨bP, 0 + k * 40, none⟩) 40 40) 1 40 (u8s (getP z640 k)) := fun k hk => src_page (pre := []) (post := []) 0 (by rw [List.nil_append, List.append_nil, z640, u8s_zero]; rfl) rfl (by decide) hk
  (refine X.call (writeHome_w (e := 1) (h := 0) (off := 0) (ps := z640) hN H hp (by decide) (by decide) (by decide) hsp (by omega)) ?_; (try clear H); rintro _ w ⟨rfl, H⟩; refine ⟨_, rfl, ?_⟩)
  refine Gq8 H ?_
  exact ⟨_, resT rfl, rfl, H.arr⟩
end
theorem pread_64 {d : DM} {x : Ext} {a : Int} (hw : d.Wf) (h : (pread d x a).2 = 0) : (pread d x a).1.length = 64 := by
 unfold pread at h ⊢
 split at h
 ·rename_i hp
  rw [if_pos hp]
  unfold DM.read at h ⊢
  split at h
  ·rename_i hb
   rw [if_pos hb]
   split at h
   ·cases h
   ·rename_i ho
    rw [if_neg ho]
    simp only [DM.inB, decide_eq_true_eq] at hb
    rw [cur_curTo]
    exact curTo_len hw (by omega) _
  ·cases h
 ·rename_i hp
  exact absurd h hp
section
variable {s : Ro} {w : World} {R : List Asn} {b bp : Nat} {d : DM} {x : Ext}
end
end Go.Proofs.YtgilmcpdpggikaaGreatDoor

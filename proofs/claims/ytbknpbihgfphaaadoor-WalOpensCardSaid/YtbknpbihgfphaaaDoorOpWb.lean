/- wal: sectors read, as plain data and walked. -/
import Derived.Test.YtbknpbihgfphaaaDoorOpWa
set_option linter.unusedSimpArgs false
set_option linter.unusedVariables false
namespace Go.Proofs.YtbknpbihgfphaaaDoor
open Go Go.RowKit Go.Own
/-- the epoch and the n bytes behind it that a sector with that letter says -/
def decW (c : UInt8) (n : Nat) (s : List UInt8) : Option (Nat × List UInt8) :=
  if (openL s).2 = 0 then (if (openL s).1.length = 60 then (if (openL s).1[0]? = some c then (if ((openL s).1.drop (5 + n)).any (fun x => x != 0) = true then none else some (numN (((openL s).1.drop 1).take 4), ((openL s).1.drop 5).take n)) else none) else none) else none
theorem decW_len {c : UInt8} {n e : Nat} {s r : List UInt8} (h : decW c n s = some (e, r)) (hn : n ≤ 55) : r.length = n := by
  unfold decW at h
  split at h
  · split at h
    · split at h
      · split at h
        · cases h
        · cases h
          rw [List.length_take, List.length_drop]; omega
      · cases h
    · cases h
  · cases h
theorem decW_lt {c : UInt8} {n e : Nat} {s r : List UInt8} (h : decW c n s = some (e, r)) : e < 2 ^ 32 := by
  unfold decW at h
  split at h
  · split at h
    · split at h
      · split at h
        · cases h
        · cases h
          exact Nat.lt_of_lt_of_le (numI_lt _ _) (Nat.pow_le_pow_right (by decide) (by rw [List.length_take, List.length_drop]; omega))
      · cases h
    · cases h
  · cases h
section
variable {s : Ro} {w : World} {R : List Asn}
set_option maxRecDepth 100000 in
set_option maxHeartbeats 1000000 in
theorem content1_w {x : UInt8} (H : Holds s w R) : Calls Tryd.prog 124 #[.int .u8 (x.toNat : Int)] w fun e w' => e = .returned (.bool (x != 0)) ∧ Holds s w' R := by
  have hx : (x != 0) = true ↔ (x.toNat : Int) ≠ 0 := by
    rw [bne_iff_ne, ne_eq, ne_eq, ← UInt8.toNat_inj]
    exact not_congr ⟨fun h => by rw [h]; rfl, fun h => by have h' : x.toNat = 0 := by omega
                                                          rw [h']; rfl⟩
  refine enter Tryd.func124 rfl Tryd.ntmps124 rfl ?_
  repeat' (first | refine Z H ?_ | (refine Zc ?_ ?_ <;> intro hc <;> first | (exfalso; omega) | skip) | (refine Y ?_; try change C _ _ _ _ _ _) | (refine Zs H ?_; clear H; (try clear w); intro w H) | (refine Zn H ?_; clear H; (try clear w); intro _ w H) | (refine Ze H ?_; clear H; (try clear w); intro gv w H))
  · exact ⟨_, resT rfl, by rw [hx.2 (by assumption)]; rfl, H⟩
  · refine ⟨_, resT rfl, ?_, H⟩
    have : (x != 0) = false := by
      cases hb : (x != 0) with
      | false => rfl
      | true => exact absurd (by assumption) (hx.1 hb)
    rw [this]; rfl
set_option maxRecDepth 100000 in
set_option maxHeartbeats 1000000 in
theorem IndexFunc_w {l : List UInt8} {a : Option Addr} {c : Nat} (H : Holds s w R) (h : SlS s (.slice a l.length c) 1 l.length (u8s l)) (hl : l.length ≤ 1000) : Calls Tryd.prog 130 #[.slice a l.length c, .func (.func 124) #[] #[]] w fun e w' => ∃ r : Int, e = .returned (.int .i64 r) ∧ (l.any (fun x => x != 0) = true → 0 ≤ r) ∧ (l.any (fun x => x != 0) = false → r < 0) ∧ Holds s w' R := by
  refine enter Tryd.func130 rfl Tryd.ntmps130 rfl ?_
  repeat' (first | refine Z H ?_ | (refine Zc ?_ ?_ <;> intro hc <;> first | (exfalso; omega) | skip) | (refine Y ?_; try change C _ _ _ _ _ _) | (refine Zs H ?_; clear H; (try clear w); intro w H) | (refine Zn H ?_; clear H; (try clear w); intro _ w H) | (refine Ze H ?_; clear H; (try clear w); intro gv w H))
  refine C.loopH H [4, 5, 8, 9, 10, 11, 12, 13, 14, 15, 16, 17, 18] [8] rfl (fun m vs => ∃ i : Nat, m = l.length - i ∧ i ≤ l.length ∧ vs = [.int .i64 (i : Int)] ∧ (l.take i).any (fun x => x != 0) = false) l.length ⟨0, rfl, Nat.zero_le _, rfl, rfl⟩ ?_
  clear H
  rintro m vs hv w ⟨i, rfl, hi, rfl, hz⟩ H
  by_cases hlt : i < l.length
  · obtain ⟨g, o, c', hv', _, _, hp⟩ := elemS1 h (by omega)
    cases hv'
    have pn : Pin s g (o + i * 1) (.int .u8 (l[i].toNat : Int)) := by rw [Nat.mul_one]; exact hp i hlt
    have hsu : (l.take (i + 1)).any (fun x => x != 0) = (l[i] != 0) := by rw [List.take_succ_eq_append_getElem hlt, List.any_append, hz]; simp
    have hin : l[i] ∈ l := List.getElem_mem hlt
    generalize l[i] = x at *
    repeat' (first | refine Z H ?_ | (refine Zc ?_ ?_ <;> intro hc <;> first | (exfalso; omega) | skip) | (refine Y ?_; try change C _ _ _ _ _ _) | (refine Zs H ?_; clear H; (try clear w); intro w H) | (refine Zn H ?_; clear H; (try clear w); intro _ w H) | (refine Ze H ?_; clear H; (try clear w); intro gv w H))
    refine B.call (content1_w (x := x) H) ?_
    clear H
    rintro _ w ⟨rfl, H⟩
    refine ⟨_, rfl, ?_⟩
    cases hx : (x != 0) with
    | true =>
      repeat' (first | refine Z H ?_ | (refine Zc ?_ ?_ <;> intro hc <;> first | (exfalso; omega) | skip) | (refine Y ?_; try change C _ _ _ _ _ _) | (refine Zs H ?_; clear H; (try clear w); intro w H) | (refine Zn H ?_; clear H; (try clear w); intro _ w H) | (refine Ze H ?_; clear H; (try clear w); intro gv w H))
      exact ⟨_, resT rfl, (i : Int), rfl, fun _ => by omega, fun h => by rw [List.any_eq_false] at h; exact absurd hx (h x hin), H⟩
    | false =>
      repeat' (first | refine Z H ?_ | (refine Zc ?_ ?_ <;> intro hc <;> first | (exfalso; omega) | skip) | (refine Y ?_; try change C _ _ _ _ _ _) | (refine Zs H ?_; clear H; (try clear w); intro w H) | (refine Zn H ?_; clear H; (try clear w); intro _ w H) | (refine Ze H ?_; clear H; (try clear w); intro gv w H))
      exact ⟨by (repeat (first | exact Agr.refl | exact Agr.hav | refine Agr.upd rfl ?_ | refine Agr.in rfl ?_)), l.length - (i + 1), by omega, ⟨i + 1, rfl, by omega, rfl, by rw [hsu, hx]⟩, H⟩
  · have hie : i = l.length := by omega
    subst hie
    rw [List.take_length] at hz
    repeat' (first | refine Z H ?_ | (refine Zc ?_ ?_ <;> intro hc <;> first | (exfalso; omega) | skip) | (refine Y ?_; try change C _ _ _ _ _ _) | (refine Zs H ?_; clear H; (try clear w); intro w H) | (refine Zn H ?_; clear H; (try clear w); intro _ w H) | (refine Ze H ?_; clear H; (try clear w); intro gv w H))
    exact ⟨_, resT rfl, -1, rfl, fun h => (by rw [hz] at h; cases h), fun _ => by decide, H⟩
set_option maxRecDepth 100000 in
set_option maxHeartbeats 1000000 in
theorem ContainsFunc_w {l : List UInt8} {a : Option Addr} {c : Nat} (H : Holds s w R) (h : SlS s (.slice a l.length c) 1 l.length (u8s l)) (hl : l.length ≤ 1000) : Calls Tryd.prog 123 #[.slice a l.length c, .func (.func 124) #[] #[]] w fun e w' => e = .returned (.bool (l.any (fun x => x != 0))) ∧ Holds s w' R := by
  refine enter Tryd.func123 rfl Tryd.ntmps123 rfl ?_
  repeat' (first | refine Z H ?_ | (refine Zc ?_ ?_ <;> intro hc <;> first | (exfalso; omega) | skip) | (refine Y ?_; try change C _ _ _ _ _ _) | (refine Zs H ?_; clear H; (try clear w); intro w H) | (refine Zn H ?_; clear H; (try clear w); intro _ w H) | (refine Ze H ?_; clear H; (try clear w); intro gv w H))
  (refine X.call (IndexFunc_w H h hl) ?_; (try clear H); rintro _ w ⟨r, rfl, h1, h2, H⟩; refine ⟨_, rfl, ?_⟩)
  cases hb : l.any (fun x => x != 0) with
  | true =>
    have := h1 hb
    repeat' (first | refine Z H ?_ | (refine Zc ?_ ?_ <;> intro hc <;> first | (exfalso; omega) | skip) | (refine Y ?_; try change C _ _ _ _ _ _) | (refine Zs H ?_; clear H; (try clear w); intro w H) | (refine Zn H ?_; clear H; (try clear w); intro _ w H) | (refine Ze H ?_; clear H; (try clear w); intro gv w H))
    exact ⟨_, resT rfl, rfl, H⟩
  | false =>
    have := h2 hb
    repeat' (first | refine Z H ?_ | (refine Zc ?_ ?_ <;> intro hc <;> first | (exfalso; omega) | skip) | (refine Y ?_; try change C _ _ _ _ _ _) | (refine Zs H ?_; clear H; (try clear w); intro w H) | (refine Zn H ?_; clear H; (try clear w); intro _ w H) | (refine Ze H ?_; clear H; (try clear w); intro gv w H))
    exact ⟨_, resT rfl, rfl, H⟩
theorem sls_mid {a : Option Addr} {c n k : Nat} {l : List UInt8} (h : SlS s (.slice a l.length c) 1 l.length (u8s l)) (hn : n + k ≤ l.length) : SlS s (.slice (subAddr a c n 1) k (c - n)) 1 k (u8s ((l.drop n).take k)) := by
  obtain ⟨a', c', hv, h1, h2, h3, h4⟩ := h
  cases hv
  have e : ((l.drop n).take k).length = k := by rw [List.length_take, List.length_drop]; omega
  refine ⟨_, _, rfl, by rw [u8s_len, e, Nat.mul_one], by omega, by omega, ?_⟩
  rcases h4 with h4 | ⟨g, o, rfl, h5⟩
  · left
    have : l = [] := by cases l with | nil => rfl | cons => cases h4
    subst this
    simp [u8s]
  · by_cases hk : k = 0
    · left; subst hk; simp [u8s]
    · right
      refine ⟨g, o + n, ?_, fun j x hj => ?_⟩
      · unfold subAddr
        rw [if_neg (by omega)]
        simp [Addr.add]
      · rw [← u8s_take, ← u8s_drop, List.getElem?_take] at hj
        split at hj
        · rw [List.getElem?_drop] at hj
          rw [Nat.add_assoc]
          exact h5 _ x hj
        · cases hj
set_option maxRecDepth 100000 in
set_option maxHeartbeats 1000000 in
theorem content_w {l : List UInt8} {a : Option Addr} {c n : Nat} {t : UInt8} (hN : Nib s) (H : Holds s w R) (h : Src s R (.slice a l.length c) 1 l.length (u8s l)) (hl : l.length ≤ 1000) (hn : n ≤ 55) : Calls Tryd.prog 106 #[.slice a l.length c, .int .u8 (t.toNat : Int), .int .i64 (n : Int)] w fun x w' => ∃ s', s.Le s' ∧ Holds s' w' R ∧ ((decW t n l = none ∧ x = .returned (.tuple #[.int .u32 0, .slice none 0 0, .bool false])) ∨ ∃ e r v, decW t n l = some (e, r) ∧ x = .returned (.tuple #[.int .u32 (e : Int), v, .bool true]) ∧ SlS s' v 1 n (u8s r)) := by
  refine enter Tryd.func106 rfl Tryd.ntmps106 rfl ?_
  repeat' (first | refine Z H ?_ | (refine Zc ?_ ?_ <;> intro hc <;> first | (exfalso; omega) | skip) | (refine Y ?_; try change C _ _ _ _ _ _) | (refine Zs H ?_; clear H; (try clear w); intro w H) | (refine Zn H ?_; clear H; (try clear w); intro _ w H) | (refine Ze H ?_; clear H; (try clear w); intro gv w H))
  (refine X.call (Open_s hN H h hl) ?_; (try clear H); rintro _ w ⟨aa, cc, rfl, H⟩; refine ⟨_, rfl, ?_⟩)
  by_cases h0 : (openL l).2 = 0
  · have hdec : decW t n l = if (openL l).1.length = 60 then (if (openL l).1[0]? = some t then (if ((openL l).1.drop (5 + n)).any (fun x => x != 0) = true then none else some (numN (((openL l).1.drop 1).take 4), ((openL l).1.drop 5).take n)) else none) else none := by rw [decW, if_pos h0]
    rw [hdec, h0]
    clear hdec h0
    generalize (openL l).1 = q at *
    by_cases hq : q.length = 60
    · rw [if_pos hq]
      obtain ⟨s1, gb, rfl, hs1, H1, hS, _⟩ := H.fixB (by omega)
      clear H
      have H := H1
      clear H1
      obtain ⟨g, o, c', hv', hcc, hcm, hp⟩ := elemS1 hS (by omega)
      cases hv'
      have pn : Pin s1 gb (0 + 0 * 1) (.int .u8 (q[0].toNat : Int)) := hp 0 (by omega)
      clear hp
      have hq0 : q[0]? = some q[0] := List.getElem?_eq_getElem (by omega)
      rw [hq0]
      generalize q[0] = x at *
      rw [hq] at hS hcc ⊢
      by_cases hx : x = t
      · subst hx
        rw [if_pos rfl]
        have hS' : SlS s1 (.slice (some ⟨gb, 0, none⟩) q.length cc) 1 q.length (u8s q) := by rw [hq]; exact hS
        have hS5 := sls_mid (n := 5 + n) (k := 55 - n) hS' (by omega)
        have hd : (q.drop (5 + n)).length = 55 - n := by rw [List.length_drop]; omega
        rw [List.take_of_length_le (by omega), show 55 - n = (q.drop (5 + n)).length from hd.symm] at hS5
        repeat' (first | (refine K.ia (i := 0) rfl rfl rfl rfl rfl (by decide) ?_) | (refine K.from (l := 5 + n) rfl rfl rfl rfl (by simp) (by omega) ?_; rw [show 60 - (5 + n) = (q.drop (5 + n)).length by omega]) | refine Z H ?_ | (refine Zc ?_ ?_ <;> intro hc <;> first | (exfalso; omega) | skip) | (refine Y ?_; try change C _ _ _ _ _ _) | (refine Zs H ?_; clear H; (try clear w); intro w H) | (refine Zn H ?_; clear H; (try clear w); intro _ w H) | (refine Ze H ?_; clear H; (try clear w); intro gv w H))
        (refine X.call (ContainsFunc_w H hS5 (by omega)) ?_; (try clear H); rintro _ w ⟨rfl, H⟩; refine ⟨_, rfl, ?_⟩)
        cases hb : (q.drop (5 + n)).any (fun x => x != 0) with
        | true =>
          rw [if_pos rfl]
          repeat' (first | refine Z H ?_ | (refine Zc ?_ ?_ <;> intro hc <;> first | (exfalso; omega) | skip) | (refine Y ?_; try change C _ _ _ _ _ _) | (refine Zs H ?_; clear H; (try clear w); intro w H) | (refine Zn H ?_; clear H; (try clear w); intro _ w H) | (refine Ze H ?_; clear H; (try clear w); intro gv w H))
          exact ⟨_, resTTT rfl, s1, hs1, H, .inl ⟨rfl, rfl⟩⟩
        | false =>
          rw [if_neg (by decide)]
          have h4 : ((q.drop 1).take 4).length = 4 := by rw [List.length_take, List.length_drop]; omega
          have hS4 : SlS s1 (.slice (subAddr (some ⟨gb, 0, none⟩) cc 1 1) ((q.drop 1).take 4).length (cc - 1)) 1 ((q.drop 1).take 4).length (u8s ((q.drop 1).take 4)) := by
            have := sls_mid (n := 1) (k := 4) hS' (by omega)
            rw [h4]
            exact this
          have hSn := sls_mid (n := 5) (k := n) hS' (by omega)
          have hlt : numN ((q.drop 1).take 4) < 2 ^ 32 := Nat.lt_of_lt_of_le (numI_lt _ _) (Nat.pow_le_pow_right (by decide) (by rw [h4]; decide))
          have hmod : numN ((q.drop 1).take 4) % 2 ^ 32 = numN ((q.drop 1).take 4) := Nat.mod_eq_of_lt hlt
          repeat' (first | (refine midK (l := 1) (h' := 5) rfl rfl rfl rfl rfl rfl rfl (by decide) (by omega) ?_; rw [show 5 - 1 = ((q.drop 1).take 4).length from h4.symm]) | refine Z H ?_ | (refine Zc ?_ ?_ <;> intro hc <;> first | (exfalso; omega) | skip) | (refine Y ?_; try change C _ _ _ _ _ _) | (refine Zs H ?_; clear H; (try clear w); intro w H) | (refine Zn H ?_; clear H; (try clear w); intro _ w H) | (refine Ze H ?_; clear H; (try clear w); intro gv w H))
          (refine X.call (Get_s H hS4 (by omega) (by omega)) ?_; (try clear H); rintro _ w ⟨rfl, H⟩; refine ⟨_, rfl, ?_⟩)
          repeat' (first | refine Z H ?_ | (refine Zc ?_ ?_ <;> intro hc <;> first | (exfalso; omega) | skip) | (refine Y ?_; try change C _ _ _ _ _ _) | (refine Zs H ?_; clear H; (try clear w); intro w H) | (refine Zn H ?_; clear H; (try clear w); intro _ w H) | (refine Ze H ?_; clear H; (try clear w); intro gv w H))
          refine C.drawn1 [0, 0, 0, 0, 0, 0, 0, 0, 0, 0, 0] [0, 1, 0, 0, 8, 28, 0, 64, 3, 319, 1023] (by kernel_rfl) ?_; replace H := H.drew
          repeat' (first | (refine B.conv Tryd.underlying145 ?_; rw [hmod]) | (refine midK (l := 5) (h' := 5 + n) rfl rfl rfl rfl rfl rfl (by simp) (by omega) (by omega) ?_; rw [Nat.add_sub_cancel_left]) | refine Z H ?_ | (refine Zc ?_ ?_ <;> intro hc <;> first | (exfalso; omega) | skip) | (refine Y ?_; try change C _ _ _ _ _ _) | (refine Zs H ?_; clear H; (try clear w); intro w H) | (refine Zn H ?_; clear H; (try clear w); intro _ w H) | (refine Ze H ?_; clear H; (try clear w); intro gv w H))
          exact ⟨_, resTTT rfl, s1, hs1, H, .inr ⟨_, _, _, rfl, rfl, hSn⟩⟩
      · rw [if_neg (by intro h; cases h; exact hx rfl)]
        have hxt : (x.toNat : Int) ≠ (t.toNat : Int) := fun h => hx (UInt8.toNat_inj.1 (by omega))
        repeat' (first | (refine K.ia (i := 0) rfl rfl rfl rfl rfl (by decide) ?_) | refine Z H ?_ | (refine Zc ?_ ?_ <;> intro hc <;> first | (exfalso; omega) | skip) | (refine Y ?_; try change C _ _ _ _ _ _) | (refine Zs H ?_; clear H; (try clear w); intro w H) | (refine Zn H ?_; clear H; (try clear w); intro _ w H) | (refine Ze H ?_; clear H; (try clear w); intro gv w H))
        exact ⟨_, resTTT rfl, s1, hs1, H, .inl ⟨rfl, rfl⟩⟩
    · rw [if_neg hq]
      repeat' (first | refine Z H ?_ | (refine Zc ?_ ?_ <;> intro hc <;> first | (exfalso; omega) | skip) | (refine Y ?_; try change C _ _ _ _ _ _) | (refine Zs H ?_; clear H; (try clear w); intro w H) | (refine Zn H ?_; clear H; (try clear w); intro _ w H) | (refine Ze H ?_; clear H; (try clear w); intro gv w H))
      exact ⟨_, resTTT rfl, s, Ro.Le.refl _, H.arr, .inl ⟨rfl, rfl⟩⟩
  · rw [decW, if_neg h0]
    repeat' (first | refine Z H ?_ | (refine Zc ?_ ?_ <;> intro hc <;> first | (exfalso; omega) | skip) | (refine Y ?_; try change C _ _ _ _ _ _) | (refine Zs H ?_; clear H; (try clear w); intro w H) | (refine Zn H ?_; clear H; (try clear w); intro _ w H) | (refine Ze H ?_; clear H; (try clear w); intro gv w H))
    exact ⟨_, resTTT rfl, s, Ro.Le.refl _, H.arr, .inl ⟨rfl, rfl⟩⟩
theorem resT4 {P : Program} {fn : Func} {e : Env} {w : World} {t u v x : Nat} (h : fn.results = #[.tmp t, .tmp u, .tmp v, .tmp x]) : ResE P fn e w (.tuple #[e t, e u, e v, e x]) := fun a ha => by subst ha; simp [results, h, envOf]
theorem resT5 {P : Program} {fn : Func} {e : Env} {w : World} {t u v x y : Nat} (h : fn.results = #[.tmp t, .tmp u, .tmp v, .tmp x, .tmp y]) : ResE P fn e w (.tuple #[e t, e u, e v, e x, e y]) := fun a ha => by subst ha; simp [results, h, envOf]
set_option maxRecDepth 100000 in
set_option maxHeartbeats 1000000 in
theorem readHead_w {l : List UInt8} {a : Option Addr} {c : Nat} (hN : Nib s) (H : Holds s w R) (h : Src s R (.slice a l.length c) 1 l.length (u8s l)) (hl : l.length ≤ 1000) : Calls Tryd.prog 104 #[.slice a l.length c] w fun x w' => ∃ s', s.Le s' ∧ Holds s' w' R ∧ ((decW 72 1 l = none ∧ x = .returned (.tuple #[.int .u32 0, .int .i64 0, .bool false])) ∨ ∃ e b, decW 72 1 l = some (e, [b]) ∧ x = .returned (.tuple #[.int .u32 (e : Int), .int .i64 (b.toNat : Int), .bool true])) := by
  refine enter Tryd.func104 rfl Tryd.ntmps104 rfl ?_
  repeat' (first | refine Z H ?_ | (refine Zc ?_ ?_ <;> intro hc <;> first | (exfalso; omega) | skip) | (refine Y ?_; try change C _ _ _ _ _ _) | (refine Zs H ?_; clear H; (try clear w); intro w H) | (refine Zn H ?_; clear H; (try clear w); intro _ w H) | (refine Ze H ?_; clear H; (try clear w); intro gv w H))
  refine X.call (content_w (t := 72) (n := 1) hN H h hl (by decide)) ?_
  clear H
  rintro _ w ⟨s1, hs1, H, (⟨hd, rfl⟩ | ⟨e, r, v, hd, rfl, hS⟩)⟩
  · refine ⟨_, rfl, ?_⟩
    repeat' (first | refine Z H ?_ | (refine Zc ?_ ?_ <;> intro hc <;> first | (exfalso; omega) | skip) | (refine Y ?_; try change C _ _ _ _ _ _) | (refine Zs H ?_; clear H; (try clear w); intro w H) | (refine Zn H ?_; clear H; (try clear w); intro _ w H) | (refine Ze H ?_; clear H; (try clear w); intro gv w H))
    exact ⟨_, resTTT rfl, s1, hs1, H, .inl ⟨hd, rfl⟩⟩
  · refine ⟨_, rfl, ?_⟩
    have hr := decW_len hd (by decide)
    match r, hr with
    | [b], _ =>
    obtain ⟨g, o, c', rfl, hcc, hcm, hp⟩ := elemS1 (l := [b]) hS (by simp)
    have pn : Pin s1 g (o + 0 * 1) (.int .u8 (b.toNat : Int)) := hp 0 (by simp)
    have wr : IntKind.i64.wrap (b.toNat : Int) = (b.toNat : Int) := IntWalk.i64_in _ (by have := b.toNat_lt; omega)
    repeat' (first | refine Z H ?_ | (refine Zc ?_ ?_ <;> intro hc <;> first | (exfalso; omega) | skip) | (refine Y ?_; try change C _ _ _ _ _ _) | (refine Zs H ?_; clear H; (try clear w); intro w H) | (refine Zn H ?_; clear H; (try clear w); intro _ w H) | (refine Ze H ?_; clear H; (try clear w); intro gv w H))
    refine C.drawn1 [0, 0, 0, 1, 0, 0, 0, 0] [0, 0, 2, 6, 14, 1, 63, 127] (by kernel_rfl) ?_; replace H := H.drew
    repeat' (first | (refine K.ia (i := 0) rfl rfl rfl rfl rfl (by simp) ?_) | (refine K.convI Tryd.underlying5 rfl rfl rfl ?_; rw [wr]) | refine Z H ?_ | (refine Zc ?_ ?_ <;> intro hc <;> first | (exfalso; omega) | skip) | (refine Y ?_; try change C _ _ _ _ _ _) | (refine Zs H ?_; clear H; (try clear w); intro w H) | (refine Zn H ?_; clear H; (try clear w); intro _ w H) | (refine Ze H ?_; clear H; (try clear w); intro gv w H))
    exact ⟨_, resTTT rfl, s1, hs1, H, .inr ⟨e, b, hd, rfl⟩⟩
set_option maxRecDepth 100000 in
set_option maxHeartbeats 1000000 in
theorem readMark_w {l : List UInt8} {a : Option Addr} {c : Nat} (hN : Nib s) (H : Holds s w R) (h : Src s R (.slice a l.length c) 1 l.length (u8s l)) (hl : l.length ≤ 1000) : Calls Tryd.prog 108 #[.slice a l.length c] w fun x w' => ∃ s', s.Le s' ∧ Holds s' w' R ∧ ((decW 67 1 l = none ∧ x = .returned (.tuple #[.int .u32 0, .int .i64 0, .bool false])) ∨ ∃ e b, decW 67 1 l = some (e, [b]) ∧ x = .returned (.tuple #[.int .u32 (e : Int), .int .i64 (b.toNat : Int), .bool true])) := by
  refine enter Tryd.func108 rfl Tryd.ntmps108 rfl ?_
  repeat' (first | refine Z H ?_ | (refine Zc ?_ ?_ <;> intro hc <;> first | (exfalso; omega) | skip) | (refine Y ?_; try change C _ _ _ _ _ _) | (refine Zs H ?_; clear H; (try clear w); intro w H) | (refine Zn H ?_; clear H; (try clear w); intro _ w H) | (refine Ze H ?_; clear H; (try clear w); intro gv w H))
  refine X.call (content_w (t := 67) (n := 1) hN H h hl (by decide)) ?_
  clear H
  rintro _ w ⟨s1, hs1, H, (⟨hd, rfl⟩ | ⟨e, r, v, hd, rfl, hS⟩)⟩
  · refine ⟨_, rfl, ?_⟩
    repeat' (first | refine Z H ?_ | (refine Zc ?_ ?_ <;> intro hc <;> first | (exfalso; omega) | skip) | (refine Y ?_; try change C _ _ _ _ _ _) | (refine Zs H ?_; clear H; (try clear w); intro w H) | (refine Zn H ?_; clear H; (try clear w); intro _ w H) | (refine Ze H ?_; clear H; (try clear w); intro gv w H))
    exact ⟨_, resTTT rfl, s1, hs1, H, .inl ⟨hd, rfl⟩⟩
  · refine ⟨_, rfl, ?_⟩
    have hr := decW_len hd (by decide)
    match r, hr with
    | [b], _ =>
    obtain ⟨g, o, c', rfl, hcc, hcm, hp⟩ := elemS1 (l := [b]) hS (by simp)
    have pn : Pin s1 g (o + 0 * 1) (.int .u8 (b.toNat : Int)) := hp 0 (by simp)
    have wr : IntKind.i64.wrap (b.toNat : Int) = (b.toNat : Int) := IntWalk.i64_in _ (by have := b.toNat_lt; omega)
    repeat' (first | refine Z H ?_ | (refine Zc ?_ ?_ <;> intro hc <;> first | (exfalso; omega) | skip) | (refine Y ?_; try change C _ _ _ _ _ _) | (refine Zs H ?_; clear H; (try clear w); intro w H) | (refine Zn H ?_; clear H; (try clear w); intro _ w H) | (refine Ze H ?_; clear H; (try clear w); intro gv w H))
    refine C.drawn1 [0, 0, 0, 1, 0, 0, 0, 0] [0, 0, 2, 6, 14, 1, 63, 127] (by kernel_rfl) ?_; replace H := H.drew
    repeat' (first | (refine K.ia (i := 0) rfl rfl rfl rfl rfl (by simp) ?_) | (refine K.convI Tryd.underlying5 rfl rfl rfl ?_; rw [wr]) | refine Z H ?_ | (refine Zc ?_ ?_ <;> intro hc <;> first | (exfalso; omega) | skip) | (refine Y ?_; try change C _ _ _ _ _ _) | (refine Zs H ?_; clear H; (try clear w); intro w H) | (refine Zn H ?_; clear H; (try clear w); intro _ w H) | (refine Ze H ?_; clear H; (try clear w); intro gv w H))
    exact ⟨_, resTTT rfl, s1, hs1, H, .inr ⟨e, b, hd, rfl⟩⟩
set_option maxRecDepth 100000 in
set_option maxHeartbeats 1000000 in
theorem readPage_w {l : List UInt8} {a : Option Addr} {c : Nat} (hN : Nib s) (H : Holds s w R) (h : Src s R (.slice a l.length c) 1 l.length (u8s l)) (hl : l.length ≤ 1000) : Calls Tryd.prog 75 #[.slice a l.length c] w fun x w' => ∃ s', s.Le s' ∧ Holds s' w' R ∧ ((decW 80 41 l = none ∧ x = .returned (.tuple #[.int .u32 0, .int .i64 0, .slice none 0 0, .bool false])) ∨ ∃ e b r v, decW 80 41 l = some (e, b :: r) ∧ x = .returned (.tuple #[.int .u32 (e : Int), .int .i64 (b.toNat : Int), v, .bool true]) ∧ SlS s' v 1 40 (u8s r)) := by
  refine enter Tryd.func75 rfl Tryd.ntmps75 rfl ?_
  repeat' (first | refine Z H ?_ | (refine Zc ?_ ?_ <;> intro hc <;> first | (exfalso; omega) | skip) | (refine Y ?_; try change C _ _ _ _ _ _) | (refine Zs H ?_; clear H; (try clear w); intro w H) | (refine Zn H ?_; clear H; (try clear w); intro _ w H) | (refine Ze H ?_; clear H; (try clear w); intro gv w H))
  refine X.call (content_w (t := 80) (n := 41) hN H h hl (by decide)) ?_
  clear H
  rintro _ w ⟨s1, hs1, H, (⟨hd, rfl⟩ | ⟨e, r, v, hd, rfl, hS⟩)⟩
  · refine ⟨_, rfl, ?_⟩
    repeat' (first | refine Z H ?_ | (refine Zc ?_ ?_ <;> intro hc <;> first | (exfalso; omega) | skip) | (refine Y ?_; try change C _ _ _ _ _ _) | (refine Zs H ?_; clear H; (try clear w); intro w H) | (refine Zn H ?_; clear H; (try clear w); intro _ w H) | (refine Ze H ?_; clear H; (try clear w); intro gv w H))
    exact ⟨_, resT4 rfl, s1, hs1, H, .inl ⟨hd, rfl⟩⟩
  · refine ⟨_, rfl, ?_⟩
    have hr := decW_len hd (by decide)
    match r, hr with
    | b :: r, hr =>
    have hS2 : SlS s1 v 1 (b :: r).length (u8s (b :: r)) := by rw [hr]; exact hS
    obtain ⟨g, o, c', rfl, hcc, hcm, hp⟩ := elemS1 (l := b :: r) hS2 (by simp)
    have pn : Pin s1 g (o + 0 * 1) (.int .u8 (b.toNat : Int)) := hp 0 (by simp)
    clear hp
    have hm := sls_mid (n := 1) (k := 40) hS2 (by omega)
    rw [show (b :: r).drop 1 = r from rfl, List.take_of_length_le (by simp at hr; omega)] at hm
    rw [hr] at *
    have wr : IntKind.i64.wrap (b.toNat : Int) = (b.toNat : Int) := IntWalk.i64_in _ (by have := b.toNat_lt; omega)
    repeat' (first | refine Z H ?_ | (refine Zc ?_ ?_ <;> intro hc <;> first | (exfalso; omega) | skip) | (refine Y ?_; try change C _ _ _ _ _ _) | (refine Zs H ?_; clear H; (try clear w); intro w H) | (refine Zn H ?_; clear H; (try clear w); intro _ w H) | (refine Ze H ?_; clear H; (try clear w); intro gv w H))
    refine C.drawn1 [0, 0, 0, 1, 0, 0, 0, 0, 0, 0, 0] [0, 0, 2, 6, 14, 0, 32, 1, 159, 511, 1023] (by kernel_rfl) ?_; replace H := H.drew
    repeat' (first | (refine K.ia (i := 0) rfl rfl rfl rfl rfl (by decide) ?_) | (refine K.from (l := 1) rfl rfl rfl rfl rfl (by decide) ?_) | (refine K.convI Tryd.underlying5 rfl rfl rfl ?_; rw [wr]) | refine Z H ?_ | (refine Zc ?_ ?_ <;> intro hc <;> first | (exfalso; omega) | skip) | (refine Y ?_; try change C _ _ _ _ _ _) | (refine Zs H ?_; clear H; (try clear w); intro w H) | (refine Zn H ?_; clear H; (try clear w); intro _ w H) | (refine Ze H ?_; clear H; (try clear w); intro gv w H))
    exact ⟨_, resT4 rfl, s1, hs1, H, .inr ⟨e, b, r, _, hd, rfl, hm⟩⟩
set_option maxRecDepth 100000 in
set_option maxHeartbeats 1000000 in
theorem readRecord_w {l : List UInt8} {a : Option Addr} {c : Nat} (hN : Nib s) (H : Holds s w R) (h : Src s R (.slice a l.length c) 1 l.length (u8s l)) (hl : l.length ≤ 1000) : Calls Tryd.prog 107 #[.slice a l.length c] w fun x w' => ∃ s', s.Le s' ∧ Holds s' w' R ∧ ((decW 82 42 l = none ∧ x = .returned (.tuple #[.int .u32 0, .int .i64 0, .int .i64 0, .slice none 0 0, .bool false])) ∨ ∃ e b b2 r v, decW 82 42 l = some (e, b :: b2 :: r) ∧ x = .returned (.tuple #[.int .u32 (e : Int), .int .i64 (b.toNat : Int), .int .i64 (b2.toNat : Int), v, .bool true]) ∧ SlS s' v 1 40 (u8s r)) := by
  refine enter Tryd.func107 rfl Tryd.ntmps107 rfl ?_
  repeat' (first | refine Z H ?_ | (refine Zc ?_ ?_ <;> intro hc <;> first | (exfalso; omega) | skip) | (refine Y ?_; try change C _ _ _ _ _ _) | (refine Zs H ?_; clear H; (try clear w); intro w H) | (refine Zn H ?_; clear H; (try clear w); intro _ w H) | (refine Ze H ?_; clear H; (try clear w); intro gv w H))
  refine X.call (content_w (t := 82) (n := 42) hN H h hl (by decide)) ?_
  clear H
  rintro _ w ⟨s1, hs1, H, (⟨hd, rfl⟩ | ⟨e, r, v, hd, rfl, hS⟩)⟩
  · refine ⟨_, rfl, ?_⟩
    repeat' (first | refine Z H ?_ | (refine Zc ?_ ?_ <;> intro hc <;> first | (exfalso; omega) | skip) | (refine Y ?_; try change C _ _ _ _ _ _) | (refine Zs H ?_; clear H; (try clear w); intro w H) | (refine Zn H ?_; clear H; (try clear w); intro _ w H) | (refine Ze H ?_; clear H; (try clear w); intro gv w H))
    exact ⟨_, resT5 rfl, s1, hs1, H, .inl ⟨hd, rfl⟩⟩
  · refine ⟨_, rfl, ?_⟩
    have hr := decW_len hd (by decide)
    match r, hr with
    | b :: b2 :: r, hr =>
    have hS2 : SlS s1 v 1 (b :: b2 :: r).length (u8s (b :: b2 :: r)) := by rw [hr]; exact hS
    obtain ⟨g, o, c', rfl, hcc, hcm, hp⟩ := elemS1 (l := b :: b2 :: r) hS2 (by simp)
    have pn : Pin s1 g (o + 0 * 1) (.int .u8 (b.toNat : Int)) := hp 0 (by simp)
    have pn2 : Pin s1 g (o + 1 * 1) (.int .u8 (b2.toNat : Int)) := hp 1 (by simp)
    clear hp
    have hm := sls_mid (n := 2) (k := 40) hS2 (by omega)
    rw [show (b :: b2 :: r).drop 2 = r from rfl, List.take_of_length_le (by simp at hr; omega)] at hm
    rw [hr] at *
    have wr : IntKind.i64.wrap (b.toNat : Int) = (b.toNat : Int) := IntWalk.i64_in _ (by have := b.toNat_lt; omega)
    have wr2 : IntKind.i64.wrap (b2.toNat : Int) = (b2.toNat : Int) := IntWalk.i64_in _ (by have := b2.toNat_lt; omega)
    repeat' (first | refine Z H ?_ | (refine Zc ?_ ?_ <;> intro hc <;> first | (exfalso; omega) | skip) | (refine Y ?_; try change C _ _ _ _ _ _) | (refine Zs H ?_; clear H; (try clear w); intro w H) | (refine Zn H ?_; clear H; (try clear w); intro _ w H) | (refine Ze H ?_; clear H; (try clear w); intro gv w H))
    refine C.drawn1 [0, 0, 0, 1, 0, 0, 0, 1, 0, 0, 0, 0, 0, 0, 0, 0] [0, 0, 2, 6, 14, 0, 32, 96, 224, 0, 512, 1, 2079, 6655, 16383, 32767] (by kernel_rfl) ?_; replace H := H.drew
    repeat' (first | (refine K.ia (i := 0) rfl rfl rfl rfl rfl (by decide) ?_) | (refine K.ia (i := 1) rfl rfl rfl rfl rfl (by decide) ?_) | (refine K.from (l := 2) rfl rfl rfl rfl rfl (by decide) ?_) | (refine K.convI Tryd.underlying5 rfl rfl rfl ?_; first | rw [wr] | rw [wr2]) | refine Z H ?_ | (refine Zc ?_ ?_ <;> intro hc <;> first | (exfalso; omega) | skip) | (refine Y ?_; try change C _ _ _ _ _ _) | (refine Zs H ?_; clear H; (try clear w); intro w H) | (refine Zn H ?_; clear H; (try clear w); intro _ w H) | (refine Ze H ?_; clear H; (try clear w); intro gv w H))
    exact ⟨_, resT5 rfl, s1, hs1, H, .inr ⟨e, b, b2, r, _, hd, rfl, hm⟩⟩
end
end Go.Proofs.YtbknpbihgfphaaaDoor

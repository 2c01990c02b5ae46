/- Squeezed copy of the texts Tg Th Ti Cr. -/
import Derived.Test.YtgilmcpdpggikaaGreatDoorCTx3
import Derived.Test.YtgilmcpdpggikaaGreatDoorCTu
set_option maxRecDepth 100000
set_option maxHeartbeats 1000000
set_option linter.unusedSimpArgs false
set_option linter.unusedVariables false
namespace Go.Proofs.YtgilmcpdpggikaaGreatDoor
open Go Go.RowKit Go.Own
theorem putN1 {v : Nat} (h : v < 256) : putN v 1 = [UInt8.ofNat v] := by
 have : byteAt v 0 = UInt8.ofNat v := by
  unfold byteAt
  simp
 simp [putN, List.range_succ, this]
theorem byteOf_nat {v : Nat} (h : v < 256) : byteOf (v : Int) = UInt8.ofNat v := by
 unfold byteOf
 congr 1
 omega
theorem putN_b {v : Nat} (h : v < 256) : putN v 1 = [byteOf (v : Int)] := by rw [putN1 h, byteOf_nat h]
section
variable {s : Ro} {w : World} {R : List Asn}
theorem put_t {v g cc : Nat} {aa : Option Addr} {l : List UInt8} (H : Holds s w (var g 30 [.slice aa l.length cc] :: row 5 1 (.slice aa l.length cc) l.length (u8s l) :: R)) (hv : v < 256) (hl : l.length ≤ 1000) : Calls Tryz.prog 125 #[.int .i64 (v : Int), .pointer (some ⟨g, 0, none⟩)] w fun e w' => ∃ a' c', e = .returned (.tuple #[]) ∧ Holds s w' (var g 30 [.slice a' (l ++ [byteOf (v : Int)]).length c'] :: row 5 1 (.slice a' (l ++ [byteOf (v : Int)]).length c') (l ++ [byteOf (v : Int)]).length (u8s (l ++ [byteOf (v : Int)])) :: R) := by
 have hpl := putN_len v 1
 have wv : (IntKind.u64.wrap (v : Int)) = (v : Int) := by
  have := uwrap (k := .u64) (B := 64) v
  rw [this, Nat.mod_eq_of_lt (by omega)]
 refine enter Tryz.func125 rfl Tryz.ntmps125 rfl ?_
 refine Gq8 H ?_
 refine C.drawn2 [g] [1, 0, 0, 2, 3, 3] [4] [0, 0, 2, 6, 15, 31] (by kernel_rfl) ?_; replace H := H.drew; refine sgB ?_; have H0 := H
 repeat' (first | (refine K.convI Tryz.underlying3 rfl rfl rfl ?_; rw [wv]) | refine Go8 H ?_ | (refine Gs8 H ?_; clear H; (try clear w); intro w H) | (refine Gn H ?_; clear H; (try clear w); intro _ w H))
 (refine X.call (Put_s (n := v) (size := 1) H (by decide) (by decide)) ?_; (try clear H); rintro _ w ⟨g2, rfl, H⟩; refine ⟨_, rfl, ?_⟩); refine L.nil ?_; refine ⟨rfl, rfl, (by repeat (first | exact subN_nil | refine subN_cons (by simp) ?_)), (by first | exact keep_same | (repeat (first | exact keepV H0 H | exact keepP H0 H | exact keep_nil | refine keep_cons ?_ ?_))), ?_⟩; clear H0; have H0 := H
 repeat' (first | (refine X.app H ?_; clear H; intro a3 c3 w H) | refine Go8 H ?_ | (refine Gs8 H ?_; clear H; (try clear w); intro w H) | (refine Gn H ?_; clear H; (try clear w); intro _ w H))
 refine ⟨rfl, rfl, (by repeat (first | exact subN_nil | refine subN_cons (by simp) ?_)), (by first | exact keep_same | (repeat (first | exact keepV H0 H | exact keepP H0 H | exact keep_nil | refine keep_cons ?_ ?_))), ?_⟩; clear H0; have H0 := H
 refine Gq8 H ?_
 rw [← putN_b hv, List.length_append, u8s_app]
 exact ⟨_, res0 rfl, a3, c3, rfl, H.arr⟩
theorem Equal_t {l m : List UInt8} {v u : Value} (H : Holds s w R) (h : Src s R v 1 l.length (u8s l)) (k : Src s R u 1 m.length (u8s m)) : Calls Tryz.prog 77 #[v, u] w fun e w' => e = .returned (.bool (decide (l = m))) ∧ Holds s w' R := by
 obtain ⟨_, _, rfl, _⟩ := h.form H
 obtain ⟨_, _, rfl, _⟩ := k.form H
 refine enter Tryz.func77 rfl Tryz.ntmps77 rfl ?_
 repeat' (first | (refine K.str H h rfl rfl rfl ?_) | refine Go8 H ?_ | (refine Gs8 H ?_; clear H; (try clear w); intro w H) | (refine Gn H ?_; clear H; (try clear w); intro _ w H))
 refine K.str (l := m) H k rfl rfl rfl ?_
 repeat' (first | refine Z H ?_ | (refine Zc ?_ ?_ <;> intro hc <;> first | (exfalso; omega) | skip) | (refine Y ?_; try change C _ _ _ _ _ _) | (refine Zs H ?_; clear H; (try clear w); intro w H) | (refine Zn H ?_; clear H; (try clear w); intro _ w H) | (refine Ze H ?_; clear H; (try clear w); intro gv w H))
 ·have hlm : l = m := by
   have h1 := congrArg (fun b : ByteArray => b.data.toList) hc
   simpa using h1
  exact ⟨_, resT rfl, by rw [decide_eq_true hlm]; rfl, H⟩
 ·exact ⟨_, resT rfl, by rw [decide_eq_false (fun h => hc (by rw [h]))]; rfl, H⟩
end
structure NdB (n : Nd) : Prop where
 k0 : 0 ≤ n.kind
 k1 : n.kind < 256
 p0 : 0 ≤ n.parent
 p1 : n.parent < 256
 nm : n.name.length ≤ 8
 s0 : 0 ≤ n.size
 s1 : n.size < 256
 b0 : 0 ≤ n.b0
 b1 : n.b0 < 256
 c0 : 0 ≤ n.b1
 c1 : n.b1 < 256
theorem pageM_len {n : Nd} (h : n.name.length ≤ 8) : (pageM n).length = 40 := by
 unfold pageM padTo
 simp
 omega
theorem name8 {nm : Str} (h : nm.length ≤ 8) : (u8s (List.replicate 8 0)).take 0 ++ u8s nm ++ (u8s (List.replicate 8 0)).drop (0 + nm.length) = u8s (padTo 8 nm) := by
 unfold padTo u8s
 rw [List.take_zero, List.nil_append, Nat.zero_add, ← List.map_drop, ← List.map_append, List.take_of_length_le h, List.drop_replicate]
theorem pad8_len {nm : Str} (h : nm.length ≤ 8) : (padTo 8 nm).length = 8 := by
 unfold padTo
 simp
 omega
section
variable {s : Ro} {w : World} {R : List Asn}
theorem Go5 {p q : Prop} {s : Ro} {w : World} {rs : List Asn} (H : Holds s w rs) (h : q) (g : Holds s w rs → Wq q → p := by intro H h; (first | (refine X.lenL ?_) | (refine B.fn ?_) | refine Z H ?_ | (refine Zc ?_ ?_ <;> intro hc <;> first | (exfalso; omega) | skip) | (refine Y ?_; try change C _ _ _ _ _ _)) <;> exact h.out) : p := g H ⟨h⟩
theorem Gs5 {p q : Prop} {s : Ro} {w : World} {rs : List Asn} (H : Holds s w rs) (h : q) (g : Holds s w rs → Wq q → p := by intro H h; (first | (refine Zs H ?_; clear H; (try clear w); intro w H)) <;> (revert w; exact h.out)) : p := g H ⟨h⟩
theorem Gq5 {p q : Prop} {s : Ro} {w : World} {rs : List Asn} (H : Holds s w rs) (h : q) (g : Holds s w rs → Wq q → p := by intro H h; (repeat' (first | refine Go5 H ?_ | (refine Gs5 H ?_; clear H; (try clear w); intro w H) | (refine Gn H ?_; clear H; (try clear w); intro b w H))) <;> (first | exact h.out | (revert w; exact h.out) | (revert w; revert b; exact h.out))) : p := g H ⟨h⟩
theorem page_s {k p z b c : Nat} {nm : Str} (H : Holds s w R) (hb : NdB ⟨k, p, nm, z, b, c⟩) : Calls Tryz.prog 99 #[.agg (Nd.cells ⟨k, p, nm, z, b, c⟩).toArray] w fun e w' => ∃ aa cc, e = .returned (.slice aa (pageM ⟨k, p, nm, z, b, c⟩).length cc) ∧ Holds s w' (row 5 1 (.slice aa (pageM ⟨k, p, nm, z, b, c⟩).length cc) (pageM ⟨k, p, nm, z, b, c⟩).length (u8s (pageM ⟨k, p, nm, z, b, c⟩)) :: R) := by
 obtain ⟨hk0, hk1, hp0, hp1, hnm, hs0, hs1, hb0, hb1, hc0, hc1⟩ := hb
 dsimp only at hk0 hk1 hp0 hp1 hnm hs0 hs1 hb0 hb1 hc0 hc1
 refine enter Tryz.func99 rfl Tryz.ntmps99 rfl ?_
 (refine Gq5 H ?_; clear H; (try clear w); intro bl1 w H)
 refine K.make (k := 0) (m := 40) H rfl rfl rfl rfl rfl (by decide) (by decide) (by decide) ?_
 clear H
 intro g1 w H
 (refine Gq5 H ?_; clear H; (try clear w); intro bl2 w H)
 have H' : Holds s w (var bl2 30 [.slice (some ⟨g1, 0, none⟩) ([] : Str).length 40] :: row 5 1 (.slice (some ⟨g1, 0, none⟩) ([] : Str).length 40) ([] : Str).length (u8s []) :: var bl1 36 (Nd.cells ⟨k, p, nm, z, b, c⟩) :: R) := H
 clear H
 have H := H'
 clear H'
 refine B.call (put_t (v := k) H (by omega) (by simp)) ?_
 clear H
 rintro _ w ⟨a1, c1, rfl, H⟩
 refine ⟨_, rfl, ?_⟩
 refine Gq5 H ?_
 refine B.call (put_t (v := p) H (by omega) (by simp)) ?_
 clear H
 rintro _ w ⟨a2, c2, rfl, H⟩
 refine ⟨_, rfl, ?_⟩
 refine Gq5 H ?_
 refine B.call (put_t (v := nm.length) H (by omega) (by simp)) ?_
 clear H
 rintro _ w ⟨a3, c3, rfl, H⟩
 refine ⟨_, rfl, ?_⟩
 (refine Gq5 H ?_; clear H; (try clear w); intro bl3 w H)
 refine C.drawn1 [0, 0, 1, 3] [0, 0, 2, 7] (by kernel_rfl) ?_; replace H := H.drew
 refine Gq5 H ?_
 refine K.copyS (l := nm) 0 (cs := u8s (List.replicate 8 0)) H rfl hnm (by simpa [u8s] using hnm) rfl rfl rfl ?_
 clear H
 intro w H
 rw [List.set_cons_zero, name8 hnm] at H
 have hp8 := pad8_len hnm
 have hp8' : (u8s (padTo 8 nm)).length = 8 := by rw [u8s_len, hp8]
 generalize hl3 : ([] ++ [byteOf (k : Int)] ++ [byteOf (p : Int)] ++ [byteOf (nm.length : Int)] : Str) = l3 at H
 have hl3l : l3.length = 3 := by rw [← hl3]; rfl
 have H' : Holds s w (var bl3 208 (u8s (padTo 8 nm)) :: var bl2 30 [.slice a3 l3.length c3] :: row 5 1 (.slice a3 l3.length c3) l3.length (u8s l3) :: var bl1 36 (Nd.cells ⟨k, p, nm, z, b, c⟩) :: R) := H
 clear H
 have H := H'
 clear H'
 refine Gq5 H ?_
 refine C.drawn1 [1, 0, 3, 3] [0, 0, 3, 7] (by kernel_rfl) ?_; replace H := H.drew
 repeat' (first | (refine K.app 2 H rfl (Src.arr 0 bl3 8 208 rfl rfl (by rw [hp8']) (Nat.le_refl _) (by decide)) (u8s_one _) (by rw [hl3l]; decide) (by rw [hl3l]; decide) rfl rfl rfl ?_; clear H; (try clear w); intro a4 c4 w H; simp only [List.set_cons_succ, List.set_cons_zero] at H) | refine Go5 H ?_ | (refine Gs5 H ?_; clear H; (try clear w); intro w H) | (refine Gn H ?_; clear H; (try clear w); (first | ((fail_if_success (have := bl1)); intro bl1 w H) | ((fail_if_success (have := bl2)); intro bl2 w H) | ((fail_if_success (have := bl3)); intro bl3 w H) | intro _ w H)))
 have e1 : l3.length + 8 = (l3 ++ padTo 8 nm).length := by rw [List.length_append, hp8]
 have H' : Holds s w (var bl2 30 [.slice a4 (l3.length + 8) c4] :: row 5 1 (.slice a4 (l3.length + 8) c4) (l3.length + 8) (u8s l3 ++ u8s (padTo 8 nm)) :: var bl1 36 (Nd.cells ⟨k, p, nm, z, b, c⟩) :: R) := H.tail
 clear H
 rw [← u8s_app, e1] at H'
 have H := H'
 clear H'
 refine B.call (put_t (v := z) H (by omega) (by rw [List.length_append, hp8]; omega)) ?_
 clear H
 rintro _ w ⟨a5, c5, rfl, H⟩
 refine ⟨_, rfl, ?_⟩
 refine Gq5 H ?_
 repeat' (first | (refine K.iaA (i := 0) rfl rfl rfl rfl rfl (by decide) ?_) | refine Go5 H ?_ | (refine Gs5 H ?_; clear H; (try clear w); intro w H) | (refine Gn H ?_; clear H; (try clear w); (first | ((fail_if_success (have := bl1)); intro bl1 w H) | ((fail_if_success (have := bl2)); intro bl2 w H) | ((fail_if_success (have := bl3)); intro bl3 w H) | intro _ w H)))
 refine B.call (put_t (v := b) H (by omega) (by simp [hp8, hl3l])) ?_
 clear H
 rintro _ w ⟨a6, c6, rfl, H⟩
 refine ⟨_, rfl, ?_⟩
 repeat' (first | (refine K.iaA (i := 1) rfl rfl rfl rfl rfl (by decide) ?_) | refine Go5 H ?_ | (refine Gs5 H ?_; clear H; (try clear w); intro w H) | (refine Gn H ?_; clear H; (try clear w); (first | ((fail_if_success (have := bl1)); intro bl1 w H) | ((fail_if_success (have := bl2)); intro bl2 w H) | ((fail_if_success (have := bl3)); intro bl3 w H) | intro _ w H)))
 refine B.call (put_t (v := c) H (by omega) (by simp [hp8, hl3l])) ?_
 clear H
 rintro _ w ⟨a7, c7, rfl, H⟩
 refine ⟨_, rfl, ?_⟩
 have hl6 : (l3 ++ padTo 8 nm ++ [byteOf (z : Int)] ++ [byteOf (b : Int)] ++ [byteOf (c : Int)]).length = 14 := by simp only [List.length_append, hp8, hl3l]; rfl
 have hpm : pageM ⟨k, p, nm, z, b, c⟩ = padTo 40 (l3 ++ padTo 8 nm ++ [byteOf (z : Int)] ++ [byteOf (b : Int)] ++ [byteOf (c : Int)]) := by
  rw [← hl3]
  simp [pageM]
 generalize (l3 ++ padTo 8 nm ++ [byteOf (z : Int)] ++ [byteOf (b : Int)] ++ [byteOf (c : Int)] : Str) = l6 at *
 refine Gq5 H ?_
 refine K.make (k := 40) (m := 40) H rfl rfl rfl rfl rfl (by decide) (by decide) (by decide) ?_
 clear H
 intro g2 w H
 rw [rep_flat] at H
 refine Gq5 H ?_
 refine K.copyR 0 H rfl (.own 2 _ rfl) (u8s_one _) (q := 14) (by rw [hl6]; rfl) (by decide) rfl rfl rfl ?_
 clear H
 intro w H
 have hpl : (pageM ⟨k, p, nm, z, b, c⟩).length = 40 := pageM_len hnm
 have hfill : (List.replicate 40 (Value.int .u8 0)).take 0 ++ ((u8s l6).take 40 ++ (List.replicate 40 (Value.int .u8 0)).drop (0 + 14)) = u8s (pageM ⟨k, p, nm, z, b, c⟩) := by
  rw [List.take_zero, List.nil_append, List.take_of_length_le (by rw [u8s_len, hl6]; decide), hpm, padTo, List.take_of_length_le (by rw [hl6]; decide), u8s_app, hl6]
  rfl
 rw [List.set_cons_zero, hfill] at H
 refine Gq5 H ?_
 rw [hpl]
 exact ⟨_, resT rfl, _, _, rfl, H.arr⟩
end
def PgsV (s : Ro) (vl : List Value) (ps : List Str) : Prop := vl.length = ps.length ∧ ∀ (i : Nat) (p : Str), ps[i]? = some p → ∃ a c, vl[i]? = some (.slice a p.length c) ∧ SlS s (.slice a p.length c) 1 p.length (u8s p)
theorem PgsV.mono {s s' : Ro} {vl : List Value} {ps : List Str} (h : PgsV s vl ps) (hs : s.Le s') : PgsV s' vl ps :=
 ⟨h.1, fun i p hp => by obtain ⟨a, c, h1, h2⟩ := h.2 i p hp; exact ⟨a, c, h1, h2.mono hs⟩⟩
theorem PgsV.nil {s : Ro} : PgsV s [] [] := ⟨rfl, fun i p hp => by simp at hp⟩
theorem PgsV.snoc {s : Ro} {vl : List Value} {ps : List Str} {p : Str} {a : Option Addr} {c : Nat} (h : PgsV s vl ps) (hp : SlS s (.slice a p.length c) 1 p.length (u8s p)) : PgsV s (vl ++ [.slice a p.length c]) (ps ++ [p]) :=
 ⟨by simp [h.1], fun i q hq => by
  by_cases hi : i < ps.length
  ·rw [List.getElem?_append_left hi] at hq
   rw [List.getElem?_append_left (by rw [h.1]; exact hi)]
   exact h.2 i q hq
  ·rw [List.getElem?_append_right (by omega)] at hq
   rw [List.getElem?_append_right (by rw [h.1]; omega), h.1]
   have : i - ps.length = 0 := by
    have := (List.getElem?_eq_some_iff.1 hq).1
    simp at this; omega
   rw [this] at hq ⊢
   simp at hq; subst hq
   exact ⟨a, c, rfl, hp⟩⟩
theorem ndb_of {t : TR} (h : checkM t = true) {i : Nat} (hi : i < 8) : NdB (t.n i) := by
 have hb := bks_of h hi
 by_cases h0 : i = 0
 ·subst h0; rw [(check_iff.1 h).1]; exact ⟨by decide, by decide, by decide, by decide, by decide, by decide, by decide, by decide, by decide, by decide, by decide⟩
 ·rcases (check_iff.1 h).2.1 i hi (by omega) with hz | ⟨⟨f1, f2, f3, f4, f5, f6⟩, _⟩
  ·rw [hz]; exact ⟨by decide, by decide, by decide, by decide, by decide, by decide, by decide, by decide, by decide, by decide, by decide⟩
  ·have hl : (t.n i).name.length ≤ 8 := by
    unfold isNameM at f4
    simp only [Bool.and_eq_true, decide_eq_true_eq] at f4
    exact f4.1.2
   unfold Bks at hb
   unfold Shaped at f6
   exact ⟨by omega, by omega, by omega, by omega, hl, by omega, by omega, by omega, by omega, by omega, by omega⟩
theorem TR.blockL {t : TR} (h : t.Ok) {k : Nat} (hk : k < 8) : ((t.bl.flatMap u8s).drop (k * 40)).take 40 = u8s (t.b k) := by
 have := flatS_part (f := u8s) (sz := 40) t.bl (fun x hx => by rw [u8s_len]; exact h.b40 x hx) k 0 40 (by rw [h.b8]; exact hk) (by omega)
 rw [Nat.add_zero] at this
 rw [this, ← TR.b_get h hk, List.drop_zero, List.take_of_length_le (by rw [u8s_len, TR.b_len h hk]; omega)]
section
variable {s : Ro} {w : World} {R : List Asn}
theorem page_n {n : Nd} (H : Holds s w R) (hb : NdB n) : Calls Tryz.prog 99 #[.agg n.cells.toArray] w fun e w' => ∃ aa cc, e = .returned (.slice aa (pageM n).length cc) ∧ Holds s w' (row 5 1 (.slice aa (pageM n).length cc) (pageM n).length (u8s (pageM n)) :: R) := by
 obtain ⟨k, p, nm, z, b, c⟩ := n
 obtain ⟨k, rfl⟩ : ∃ x : Nat, k = x := ⟨k.toNat, by have := hb.k0; dsimp only at this; omega⟩
 obtain ⟨p, rfl⟩ : ∃ x : Nat, p = x := ⟨p.toNat, by have := hb.p0; dsimp only at this; omega⟩
 obtain ⟨z, rfl⟩ : ∃ x : Nat, z = x := ⟨z.toNat, by have := hb.s0; dsimp only at this; omega⟩
 obtain ⟨b, rfl⟩ : ∃ x : Nat, b = x := ⟨b.toNat, by have := hb.b0; dsimp only at this; omega⟩
 obtain ⟨c, rfl⟩ : ∃ x : Nat, c = x := ⟨c.toNat, by have := hb.c0; dsimp only at this; omega⟩
 exact page_s H hb
theorem Clone_t {b : Nat} {t : TypeId} {l : Str} (H : Holds s w (var b t (u8s l) :: R)) (hl : l.length = 40) : Calls Tryz.prog 100 #[.slice (some ⟨b, 0, none⟩) 40 40] w fun e w' => ∃ aa cc, e = .returned (.slice aa l.length cc) ∧ Holds s w' (row 5 1 (.slice aa l.length cc) l.length (u8s l) :: var b t (u8s l) :: R) := by
 have hu : (u8s l).length = 40 := by rw [u8s_len, hl]
 refine enter Tryz.func100 rfl Tryz.ntmps100 rfl ?_
 repeat' (first | (refine X.nilS ?_) | (refine K.app 0 H rfl (Src.arr 1 b 40 t rfl rfl (by rw [hu]) (Nat.le_refl _) (by decide)) (u8s_one _) (by decide) (by decide) rfl rfl rfl ?_; clear H; (try clear w); intro a4 c4 w H; simp only [List.set_cons_succ, List.set_cons_zero] at H) | refine Go8 H ?_ | (refine Gs8 H ?_; clear H; (try clear w); intro w H) | (refine Gn H ?_; clear H; (try clear w); intro _ w H))
 rw [hl]
 refine ⟨_, resT rfl, a4, c4, rfl, ?_⟩
 have H' : Holds s w (row 5 1 (.slice a4 40 c4) 40 (u8s l) :: var b t (u8s l) :: R) := H
 exact H'
theorem Go6 {p q : Prop} {s : Ro} {w : World} {rs : List Asn} (H : Holds s w rs) (h : q) (g : Holds s w rs → Wq q → p := by intro H h; (first | (refine X.lenL ?_) | (refine X.lv H ?_) | (refine X.lp H ?_) | (refine X.ldT H ?_) | (refine X.eqL ?_ ?_ <;> intro hc <;> first | (exfalso; first | exact absurd hc (by assumption) | exact absurd (by assumption) hc) | skip) | refine Z H ?_ | (refine Zc ?_ ?_ <;> intro hc <;> first | (exfalso; omega) | skip) | (refine Y ?_; try change C _ _ _ _ _ _)) <;> exact h.out) : p := g H ⟨h⟩
theorem Gs6 {p q : Prop} {s : Ro} {w : World} {rs : List Asn} (H : Holds s w rs) (h : q) (g : Holds s w rs → Wq q → p := by intro H h; (first | (refine X.stT H ?_; clear H; (try clear w); intro w H) | (refine Zs H ?_; clear H; (try clear w); intro w H)) <;> (revert w; exact h.out)) : p := g H ⟨h⟩
theorem Gq6 {p q : Prop} {s : Ro} {w : World} {rs : List Asn} (H : Holds s w rs) (h : q) (g : Holds s w rs → Wq q → p := by intro H h; (repeat' (first | refine Go6 H ?_ | (refine Gs6 H ?_; clear H; (try clear w); intro w H) | (refine Gn H ?_; clear H; (try clear w); intro b w H))) <;> (first | exact h.out | (revert w; exact h.out) | (revert w; revert b; exact h.out))) : p := g H ⟨h⟩
theorem Pages_t {t : TR} (H : Holds s w R) (ht : t.Ok) : Calls Tryz.prog 75 #[.agg t.cells.toArray] w fun e w' => ∃ s' a c vl, e = .returned (.slice a (pagesM t).length c) ∧ s.Le s' ∧ PgsV s' vl (pagesM t) ∧ Holds s' w' (row 30 1 (.slice a (pagesM t).length c) (pagesM t).length vl :: R) := by
 refine enter Tryz.func75 rfl Tryz.ntmps75 rfl ?_
 (refine Gq6 H ?_; clear H; (try clear w); intro bl1 w H)
 have hC := Check_s H ht
 by_cases hchk : checkM t = true
 rotate_left
 ·rw [show checkM t = false by simpa using hchk] at hC
  (refine X.call (hC) ?_; (try clear H); rintro _ w ⟨rfl, H⟩; refine ⟨_, rfl, ?_⟩)
  clear hC
  refine Gq6 H ?_
  have e : pagesM t = [] := by rw [pagesM, if_pos (by simpa using hchk)]
  rw [e]
  exact ⟨_, resT rfl, s, none, 0, [], rfl, Ro.Le.refl s, PgsV.nil, H.tail.nilRow _ _⟩
 rw [hchk] at hC
 (refine X.call (hC) ?_; (try clear H); rintro _ w ⟨rfl, H⟩; refine ⟨_, rfl, ?_⟩)
 clear hC
 have hnd := TR.nodes ht
 have hl48 := TR.nd_len ht
 have hbk := TR.blocks ht
 have hl320 := TR.bl_len ht
 refine Gq6 H ?_
 refine K.make (k := 0) (m := 16) H rfl rfl rfl rfl rfl (by decide) (by decide) (by decide) ?_
 clear H
 intro g1 w H
 refine Gq6 H ?_
 refine C.loopS [3, 5, 14, 15, 16, 17, 18, 19, 20, 21, 22] [3, 14] rfl (fun m vs w => ∃ (i : Nat) (s1 : Ro) (a : Option Addr) (c : Nat) (vl : List Value), m = 8 - i ∧ i ≤ 8 ∧ vs = [.slice a i c, .int .i64 (i : Int)] ∧ s.Le s1 ∧ PgsV s1 vl ((t.nd.take i).map pageM) ∧ Holds s1 w (row 30 1 (.slice a i c) i vl :: var bl1 41 t.cells :: R)) 8 ⟨0, s, some ⟨g1, 0, none⟩, 16, [], rfl, by omega, rfl, Ro.Le.refl s, PgsV.nil, H⟩ ?_
 clear H
 rintro m vs hv w ⟨i, s1, a, c, vl, rfl, hi, rfl, hs1, hpg, H⟩
 by_cases hlt : i < 8
 ·have hn := TR.nodeL ht hlt
  have htk : (t.nd.take (i + 1)).map pageM = (t.nd.take i).map pageM ++ [pageM (t.n i)] := by
   rw [List.take_succ_eq_append_getElem (by rw [ht.n8]; exact hlt), ← TR.n_get ht hlt, List.map_append]
   rfl
  repeat' (first | (refine X.ixP i ?_ hn hlt) | refine Go6 H ?_ | (refine Gs6 H ?_; clear H; (try clear w); intro w H) | (refine Gn H ?_; clear H; (try clear w); (first | ((fail_if_success (have := bl1)); intro bl1 w H) | intro _ w H)))
  (refine X.call (page_n H (ndb_of hchk hlt)) ?_; (try clear H); rintro _ w ⟨a2, c2, rfl, H⟩; refine ⟨_, rfl, ?_⟩)
  obtain ⟨s2, hs2, H, hr2⟩ := H.fixRow
  refine Gq6 H ?_
  refine K.one H rfl rfl (by conv => lhs; whnf) (by rfl) (by rfl) ?_; clear H; (try clear w); intro g1 w H
  repeat' (first | (refine X.app H ?_; clear H; intro a3 c3 w H) | refine Go6 H ?_ | (refine Gs6 H ?_; clear H; (try clear w); intro w H) | (refine Gn H ?_; clear H; (try clear w); (first | ((fail_if_success (have := bl1)); intro bl1 w H) | intro _ w H)))
  exact ⟨agr, 8 - (i + 1), by omega, i + 1, s2, a3, c3, _, rfl, by omega, rfl, hs1.trans hs2, by rw [htk]; exact (hpg.mono hs2).snoc hr2, H.arr⟩
 obtain rfl : i = 8 := by omega
 rw [List.take_of_length_le (by rw [ht.n8]; omega)] at hpg
 refine Gq6 H ?_
 refine C.loopS [3, 7, 25, 26, 27, 28, 29, 30, 31, 32, 33] [3, 25] rfl (fun m vs w => ∃ (i : Nat) (s1 : Ro) (a : Option Addr) (c : Nat) (vl : List Value), m = 8 - i ∧ i ≤ 8 ∧ vs = [.slice a (8 + i) c, .int .i64 (i : Int)] ∧ s.Le s1 ∧ PgsV s1 vl (t.nd.map pageM ++ t.bl.take i) ∧ Holds s1 w (row 30 1 (.slice a (8 + i) c) (8 + i) vl :: var bl1 41 t.cells :: R)) 8 ⟨0, s1, a, c, vl, rfl, by omega, rfl, hs1, by simpa using hpg, H⟩ ?_
 clear H hpg hs1 hlt hi
 rintro m vs hv2 w ⟨i, s1, a', c', vl, rfl, hi, rfl, hs1, hpg, H⟩
 by_cases hlt : i < 8
 ·have hn := TR.blockL ht hlt
  have htk : t.nd.map pageM ++ t.bl.take (i + 1) = t.nd.map pageM ++ t.bl.take i ++ [t.b i] := by
   rw [List.take_succ_eq_append_getElem (by rw [ht.b8]; exact hlt), ← TR.b_get ht hlt, List.append_assoc]
  have hb40 := TR.b_len ht hlt
  have hu40 : (u8s (t.b i)).length = 40 := by rw [u8s_len, hb40]
  repeat' (first | (refine X.ixP i ?_ hn hlt) | (refine X.sta (xs := u8s (t.b i)) H ?_ (h1 := List.all_eq_true.2 (u8s_one _)) (hn := hu40); clear H; (try clear w); intro w H) | refine Go6 H ?_ | (refine Gs6 H ?_; clear H; (try clear w); intro w H) | (refine Gn H ?_; clear H; (try clear w); (first | ((fail_if_success (have := bl1)); intro bl1 w H) | intro _ w H)))
  (refine X.call (Clone_t H hb40) ?_; (try clear H); rintro _ w ⟨a2, c2, rfl, H⟩; refine ⟨_, rfl, ?_⟩)
  obtain ⟨s2, hs2, H, hr2⟩ := H.fixRow
  refine Gq6 H ?_
  refine K.one H rfl rfl (by conv => lhs; whnf) (by rfl) (by rfl) ?_; clear H; (try clear w); intro g1 w H
  repeat' (first | (refine X.app H ?_; clear H; intro a3 c3 w H) | refine Go6 H ?_ | (refine Gs6 H ?_; clear H; (try clear w); intro w H) | (refine Gn H ?_; clear H; (try clear w); (first | ((fail_if_success (have := bl1)); intro bl1 w H) | intro _ w H)))
  exact ⟨agr, 8 - (i + 1), by omega, i + 1, s2, a3, c3, _, rfl, by omega, rfl, hs1.trans hs2, by rw [htk]; exact (hpg.mono hs2).snoc hr2, H.arr⟩
 obtain rfl : i = 8 := by omega
 rw [List.take_of_length_le (by rw [ht.b8]; omega)] at hpg
 have e : pagesM t = t.nd.map pageM ++ t.bl := by rw [pagesM, if_neg (by simpa using hchk)]
 have el : (pagesM t).length = 16 := by rw [e, List.length_append, List.length_map, ht.n8, ht.b8]
 refine Gq6 H ?_
 rw [el]
 exact ⟨_, resT rfl, s1, a', c', vl, rfl, hs1, by rw [e]; exact hpg, H.arr⟩
end
def nibs : List Nat := [0, 274646895, 549293790, 820201905, 1098587580, 1361435347, 1640403810, 1905808397, 2197175160, 2460548119, 2722870694, 2987750089, 3280807620, 3553878443, 3811616794, 4084100981]
def nib (q : Nat) : Nat := nibs[q]?.getD 0
theorem nib_lt : ∀ q, nib q < 2 ^ 32 := by
 intro q
 by_cases h : q < 16
 ·have : ∀ q : Fin 16, nib q.1 < 2 ^ 32 := by decide
  exact this ⟨q, h⟩
 ·unfold nib
  rw [List.getElem?_eq_none (by show 16 ≤ q; omega)]
  decide
def crcRound (r : Nat) : Nat := (r >>> 4) ^^^ nib (r &&& 15)
def crcByte (r : Nat) (x : UInt8) : Nat := crcRound (crcRound (r ^^^ x.toNat))
def crcOn (sum : Nat) (l : List UInt8) : Nat := (2 ^ 32 - 1) ^^^ (l.foldl crcByte ((2 ^ 32 - 1) ^^^ sum))
theorem shr_lt {r : Nat} (h : r < 2 ^ 32) (k : Nat) : r >>> k < 2 ^ 32 := Nat.lt_of_le_of_lt (Nat.shiftRight_le _ _) h
theorem round_lt {r : Nat} (h : r < 2 ^ 32) : crcRound r < 2 ^ 32 := Nat.xor_lt_two_pow (shr_lt h 4) (nib_lt _)
theorem u8_lt32 (x : UInt8) : x.toNat < 2 ^ 32 := by have := x.toNat_lt; omega
theorem byte_lt {r : Nat} (h : r < 2 ^ 32) (x : UInt8) : crcByte r x < 2 ^ 32 := round_lt (round_lt (Nat.xor_lt_two_pow h (u8_lt32 x)))
theorem fold_lt : ∀ (l : List UInt8) (r : Nat), r < 2 ^ 32 → l.foldl crcByte r < 2 ^ 32
 | [], _, h => h
 | x :: l, r, h => fold_lt l _ (byte_lt h x)
theorem on_lt {sum : Nat} (h : sum < 2 ^ 32) (l : List UInt8) : crcOn sum l < 2 ^ 32 := Nat.xor_lt_two_pow (by decide) (fold_lt l _ (Nat.xor_lt_two_pow (by decide) h))
def Nib (s : Ro) : Prop := ∀ q, q < 16 → Pin s 1 (0 + q * 1) (.int .u32 (nib q : Int))
theorem Nib.mono {s s' : Ro} (h : Nib s) (hs : s.Le s') : Nib s' := fun q hq => (h q hq).mono hs
def sealL (l : List UInt8) : List UInt8 := l ++ putN (crcOn 0 l) 4
section
variable {s : Ro} {w : World} {R : List Asn}
theorem _root_.Go.Own.Src.full {rs : List Asn} {v : Value} {sz n : Nat} {xs : List Value} (h : Src s rs v sz n xs) (H : Holds s w rs) : SlS (Own.full s w) v sz n xs := by
 have := SlS.start (h.sl H)
 obtain ⟨a, c, h1, h2, h3, h4, h5⟩ := this
 exact ⟨a, c, h1, h2, h3, h4, h5⟩
theorem _root_.Go.Own.Src.skip {rs : List Asn} {A : Asn} {v : Value} {sz n : Nat} {xs : List Value} (h : Src s rs v sz n xs) : Src s (A :: rs) v sz n xs := ⟨fun w H => h.reads w H.tail, fun hx k hk => (h.blk hx k hk).imp id fun ⟨i, A, h1, h2⟩ => ⟨i + 1, A, by simpa using h1, h2⟩⟩
theorem crcOn_s {l : List UInt8} {a : Option Addr} {c sum : Nat} (hN : Nib s) (H : Holds s w R) (h : SlS s (.slice a l.length c) 1 l.length (u8s l)) (hl : l.length ≤ 1000000) (hs : sum < 2 ^ 32) : Calls Tryz.prog 153 #[.int .u32 (sum : Int), .slice a l.length c] w fun e w' => e = .returned (.int .u32 (crcOn sum l : Int)) ∧ Holds s w' R := by
 refine enter Tryz.func153 rfl Tryz.ntmps153 rfl ?_
 repeat' (first | (refine B.not ?_) | refine Go8 H ?_ | (refine Gs8 H ?_; clear H; (try clear w); intro w H) | (refine Gn H ?_; clear H; (try clear w); intro _ w H))
 refine C.loopH H [5, 7, 12, 13, 14, 15, 16, 17, 18, 19, 20, 21, 22, 23, 24, 25, 26, 27, 28, 29, 30, 31, 32, 33, 34] [5, 12] rfl (fun m vs => ∃ i : Nat, m = l.length - i ∧ i ≤ l.length ∧ vs = [.int .u32 ((l.take i).foldl crcByte ((2 ^ 32 - 1) ^^^ sum) : Nat), .int .i64 (i : Int)]) l.length ⟨0, rfl, Nat.zero_le _, rfl⟩ ?_
 clear H
 rintro m vs hv w ⟨i, rfl, hi, rfl⟩ H
 have hb := fold_lt (l.take i) ((2 ^ 32 - 1) ^^^ sum) (Nat.xor_lt_two_pow (by decide) hs)
 by_cases hlt : i < l.length
 ·obtain ⟨g, o, c', hv', _, _, hp⟩ := elemS1 h (by omega)
  cases hv'
  have pn : Pin s g (o + i * 1) (.int .u8 (l[i].toNat : Int)) := by rw [Nat.mul_one]; exact hp i hlt
  have hsu : (l.take (i + 1)).foldl crcByte ((2 ^ 32 - 1) ^^^ sum) = crcByte ((l.take i).foldl crcByte ((2 ^ 32 - 1) ^^^ sum)) l[i] := by rw [List.take_succ_eq_append_getElem hlt, List.foldl_append]; rfl
  generalize (l.take i).foldl crcByte ((2 ^ 32 - 1) ^^^ sum) = r at *
  generalize l[i] = x at *
  have b2 : x.toNat % 2 ^ 32 = x.toNat := Nat.mod_eq_of_lt (u8_lt32 x)
  have b3 := u8_lt32 x
  repeat' (first | (refine B.conv Tryz.underlying5 ?_; rw [b2]) | refine Go8 H ?_ | (refine Gs8 H ?_; clear H; (try clear w); intro w H) | (refine Gn H ?_; clear H; (try clear w); intro _ w H))
  have b4 := Nat.xor_lt_two_pow hb b3
  refine B.bit ?_
  rw [show crcByte r x = crcRound (crcRound (r ^^^ x.toNat)) from rfl] at hsu
  generalize r ^^^ x.toNat = r1 at *
  repeat' (first | (refine B.shr ?_) | refine Go8 H ?_ | (refine Gs8 H ?_; clear H; (try clear w); intro w H) | (refine Gn H ?_; clear H; (try clear w); intro _ w H))
  refine B.bit ?_
  have hq : r1 &&& 15 < 16 := Nat.lt_succ_of_le Nat.and_le_right
  have hr1 : crcRound r1 = (r1 >>> 4) ^^^ nib (r1 &&& 15) := rfl
  generalize r1 &&& 15 = q1 at *
  have p1 := hN q1 hq
  refine Gq8 H ?_
  have c1 := shr_lt b4 4
  have c2 := nib_lt q1
  have c3 := Nat.xor_lt_two_pow c1 c2
  refine B.bit ?_
  rw [hr1] at hsu
  generalize r1 >>> 4 ^^^ nib q1 = r2 at *
  repeat' (first | (refine B.shr ?_) | refine Go8 H ?_ | (refine Gs8 H ?_; clear H; (try clear w); intro w H) | (refine Gn H ?_; clear H; (try clear w); intro _ w H))
  refine B.bit ?_
  have hq2 : r2 &&& 15 < 16 := Nat.lt_succ_of_le Nat.and_le_right
  have hr2 : crcRound r2 = (r2 >>> 4) ^^^ nib (r2 &&& 15) := rfl
  generalize r2 &&& 15 = q2 at *
  have p2 := hN q2 hq2
  refine Gq8 H ?_
  have d1 := shr_lt c3 4
  have d2 := nib_lt q2
  refine B.bit ?_
  rw [← hr2]
  refine Gq8 H ?_
  exact ⟨agr, l.length - (i + 1), by omega, ⟨i + 1, rfl, by omega, by rw [hsu]; rfl⟩, H⟩
 ·have hie : i = l.length := by omega
  subst hie
  rw [List.take_length] at hb ⊢
  repeat' (first | (refine B.not ?_) | refine Go8 H ?_ | (refine Gs8 H ?_; clear H; (try clear w); intro w H) | (refine Gn H ?_; clear H; (try clear w); intro _ w H))
  exact ⟨_, resT rfl, rfl, H⟩
theorem crcOf_s {l : List UInt8} {a : Option Addr} {c : Nat} (hN : Nib s) (H : Holds s w R) (h : SlS s (.slice a l.length c) 1 l.length (u8s l)) (hl : l.length ≤ 1000000) : Calls Tryz.prog 146 #[.slice a l.length c] w fun e w' => e = .returned (.int .u32 (crcOn 0 l : Int)) ∧ Holds s w' R := by
 refine enter Tryz.func146 rfl Tryz.ntmps146 rfl ?_
 refine Gq8 H ?_
 (refine X.call (crcOn_s (sum := 0) hN H h hl (by decide)) ?_; (try clear H); rintro _ w ⟨rfl, H⟩; refine ⟨_, rfl, ?_⟩)
 refine Gq8 H ?_
 exact ⟨_, resT rfl, rfl, H⟩
theorem crcOf_e {l : List UInt8} {a : Option Addr} {c : Nat} (hN : Nib s) (H : Holds s w R) (h : Src s R (.slice a l.length c) 1 l.length (u8s l)) (hl : l.length ≤ 1000000) : Calls Tryz.prog 146 #[.slice a l.length c] w fun e w' => e = .returned (.int .u32 (crcOn 0 l : Int)) ∧ Only [] w w' ∧ Holds s w' R :=
 (crcOf_s (hN.mono H.le_full) H.full (h.full H) hl).mono fun e w' ⟨he, H'⟩ => ⟨he, H.pure0 H'⟩
theorem Seal_s {l : List UInt8} {a : Option Addr} {c : Nat} (hN : Nib s) (H : Holds s w R) (h : Src s R (.slice a l.length c) 1 l.length (u8s l)) (hl : l.length ≤ 1000) : Calls Tryz.prog 144 #[.slice a l.length c] w fun e w' => ∃ aa cc, e = .returned (.slice aa (sealL l).length cc) ∧ Holds s w' (row 5 1 (.slice aa (sealL l).length cc) (sealL l).length (u8s (sealL l)) :: R) := by
 obtain ⟨ha, hc⟩ : l.length ≤ c ∧ c ≤ maxLen := by
  obtain ⟨_, _, hv, _, h3, h4⟩ := h.form H
  cases hv; exact ⟨h3, h4⟩
 have hcl := on_lt (sum := 0) (by decide) l
 have hcv : crcOn 0 l % 2 ^ 64 = crcOn 0 l := Nat.mod_eq_of_lt (Nat.lt_trans hcl (by decide))
 have hsl : (sealL l).length = l.length + 4 := by simp [sealL, putN_len]
 have hpl := putN_len (crcOn 0 l) 4
 refine enter Tryz.func144 rfl Tryz.ntmps144 rfl ?_
 refine Gq8 H ?_
 refine K.make (k := 0) (m := l.length + 4) H rfl rfl rfl rfl (by simp) (by omega) (by omega) (by unfold maxLen; omega) ?_
 clear H
 intro g1 w H
 dsimp only [List.replicate, List.flatten] at H
 refine Gq8 H ?_
 refine K.app0 0 H rfl h.skip (u8s_one _) (by unfold maxLen; omega) (by omega) rfl rfl rfl ?_
 clear H
 intro a1 c1 w H
 (try simp only [List.set_cons_zero, List.set_cons_succ, List.eraseIdx_cons_zero, List.eraseIdx_cons_succ] at H)
 refine Gq8 H ?_
 (refine X.call (crcOf_e hN H h.skip (by omega)) ?_; (try clear H); rintro _ w ⟨rfl, _, H⟩; refine ⟨_, rfl, ?_⟩)
 repeat' (first | (refine B.conv Tryz.underlying160 ?_; rw [hcv]) | refine Go8 H ?_ | (refine Gs8 H ?_; clear H; (try clear w); intro w H) | (refine Gn H ?_; clear H; (try clear w); intro _ w H))
 (refine X.call (Put_s (n := crcOn 0 l) (size := 4) H (by decide) (by decide)) ?_; (try clear H); rintro _ w ⟨g2, rfl, H⟩; refine ⟨_, rfl, ?_⟩)
 refine Gq8 H ?_
 refine X.app H ?_
 clear H
 intro a2 c2 w H
 refine Gq8 H ?_
 have e1 : (sealL l).length = l.length + (putN (crcOn 0 l) 4).length := by simp [sealL]
 have e2 : u8s (sealL l) = u8s l ++ u8s (putN (crcOn 0 l) 4) := u8s_app _ _
 refine ⟨_, resT rfl, a2, c2, by rw [e1]; rfl, ?_⟩
 rw [e1, e2]
 exact H.arr
theorem number_e {l : List UInt8} {v : Value} (H : Holds s w R) (h : Src s R v 1 l.length (u8s l)) (hl : l.length ≤ 8) : Calls Tryz.prog 137 #[v] w fun e w' => e = .returned (.int .u64 (numN l : Int)) ∧ Only [] w w' ∧ Holds s w' R := by
 obtain ⟨a, c, rfl, _⟩ := h.form H
 exact (number_s H.full (h.full H) hl).mono fun e w' ⟨he, H'⟩ => ⟨he, H.pure0 H'⟩
theorem Get_e {l : List UInt8} {v : Value} (H : Holds s w R) (h : Src s R v 1 l.length (u8s l)) (h1 : 1 ≤ l.length) (hl : l.length ≤ 8) : Calls Tryz.prog 134 #[v] w fun e w' => e = .returned (.tuple #[.int .u64 (numN l : Int), .int .i64 0]) ∧ Only [] w w' ∧ Holds s w' R := by
 obtain ⟨a, c, rfl, _⟩ := h.form H
 exact (Get_s H.full (h.full H) h1 hl).mono fun e w' ⟨he, H'⟩ => ⟨he, H.pure0 H'⟩
theorem u8s_take (l : List UInt8) (n : Nat) : (u8s l).take n = u8s (l.take n) := by simp [u8s]
theorem u8s_drop (l : List UInt8) (n : Nat) : (u8s l).drop n = u8s (l.drop n) := by simp [u8s]
def openL (l : List UInt8) : List UInt8 × Int := if l.length < 4 then ([], 2) else if numN (l.drop (l.length - 4)) = crcOn 0 (l.take (l.length - 4)) then (l.take (l.length - 4), 0) else ([], 8)
theorem src_upto {a : Option Addr} {c n : Nat} {l : List UInt8} (h : Src s R (.slice a l.length c) 1 l.length (u8s l)) (hn : n ≤ l.length) : Src s R (.slice a (l.take n).length c) 1 (l.take n).length (u8s (l.take n)) := by
 have e : (l.take n).length = n := by rw [List.length_take]; omega
 rw [e]
 have := h.sub (l := 0) (m := n) (Nat.zero_le _) hn
 simp only [Nat.sub_zero, Nat.mul_one, List.drop_zero, u8s_take, subAddr] at this
 split at this
 ·exact this
 ·cases a with
  | none => exact this
  | some a => simpa [Addr.add0] using this
theorem src_from {a : Option Addr} {c n : Nat} {l : List UInt8} (h : Src s R (.slice a l.length c) 1 l.length (u8s l)) (hn : n ≤ l.length) : Src s R (.slice (subAddr a c n 1) (l.drop n).length (c - n)) 1 (l.drop n).length (u8s (l.drop n)) := by
 have e : (l.drop n).length = l.length - n := by rw [List.length_drop]
 rw [e]
 have := h.sub (l := n) (m := l.length) hn (Nat.le_refl _)
 rw [Nat.mul_one, Nat.mul_one, u8s_drop, u8s_take, List.take_of_length_le (by rw [e]; exact Nat.le_refl _)] at this
 exact this
theorem Open_s {l : List UInt8} {a : Option Addr} {c : Nat} (hN : Nib s) (H : Holds s w R) (h : Src s R (.slice a l.length c) 1 l.length (u8s l)) (hl : l.length ≤ 1000) : Calls Tryz.prog 131 #[.slice a l.length c] w fun e w' => ∃ aa cc, e = .returned (.tuple #[.slice aa (openL l).1.length cc, .int .i64 (openL l).2]) ∧ Holds s w' (row 5 1 (.slice aa (openL l).1.length cc) (openL l).1.length (u8s (openL l).1) :: R) := by
 obtain ⟨ha, hc⟩ : l.length ≤ c ∧ c ≤ maxLen := by
  obtain ⟨_, _, hv, _, h3, h4⟩ := h.form H
  cases hv; exact ⟨h3, h4⟩
 by_cases h4 : l.length < 4
 ·have e1 : openL l = ([], 2) := by unfold openL; rw [if_pos h4]
  rw [e1]
  refine enter Tryz.func131 rfl Tryz.ntmps131 rfl ?_
  refine Gq8 H ?_
  exact ⟨_, resTT rfl, none, 0, rfl, H.nilRow _ _⟩
 have hd : (l.drop (l.length - 4)).length = 4 := by rw [List.length_drop]; omega
 have ht : (l.take (l.length - 4)).length = l.length - 4 := by rw [List.length_take]; omega
 have hS1 := src_from (n := l.length - 4) h (by omega)
 have hS2 := src_upto (n := l.length - 4) h (by omega)
 have hcl := on_lt (sum := 0) (by decide) (l.take (l.length - 4))
 have hcv : crcOn 0 (l.take (l.length - 4)) % 2 ^ 64 = crcOn 0 (l.take (l.length - 4)) := Nat.mod_eq_of_lt (Nat.lt_trans hcl (by decide))
 unfold openL
 rw [if_neg h4]
 generalize hD : l.drop (l.length - 4) = D at *
 generalize hT : l.take (l.length - 4) = T at *
 refine enter Tryz.func131 rfl Tryz.ntmps131 rfl ?_
 refine Gq8 H ?_
 refine K.from (l := l.length - 4) rfl rfl rfl rfl (by omega) (by omega) ?_
 rw [show l.length - (l.length - 4) = D.length by omega]
 (refine X.call (Get_e H hS1 (by omega) (by omega)) ?_; (try clear H); rintro _ w ⟨rfl, _, H⟩; refine ⟨_, rfl, ?_⟩)
 refine Gq8 H ?_
 refine K.upto (l := T.length) rfl rfl rfl rfl (by omega) (by omega) ?_
 (refine X.call (crcOf_e hN H hS2 (by omega)) ?_; (try clear H); rintro _ w ⟨rfl, _, H⟩; refine ⟨_, rfl, ?_⟩)
 repeat' (first | (refine B.conv Tryz.underlying160 ?_; rw [hcv]) | refine Z H ?_ | (refine Zc ?_ ?_ <;> intro hc <;> first | (exfalso; omega) | skip) | (refine Y ?_; try change C _ _ _ _ _ _) | (refine Zs H ?_; clear H; (try clear w); intro w H) | (refine Zn H ?_; clear H; (try clear w); intro _ w H) | (refine Ze H ?_; clear H; (try clear w); intro gv w H))
 ·rw [if_neg (by omega)]
  exact ⟨_, resTT rfl, none, 0, rfl, H.nilRow _ _⟩
 ·rw [if_pos (by omega)]
  refine K.upto (l := T.length) rfl rfl rfl rfl (by omega) (by omega) ?_
  replace H := H.nilRow 5 1
  refine K.app0 0 H rfl hS2.skip (u8s_one _) (by unfold maxLen; omega) (by omega) rfl rfl rfl ?_
  clear H
  intro a1 c1 w H
  (try simp only [List.set_cons_zero, List.set_cons_succ, List.eraseIdx_cons_zero, List.eraseIdx_cons_succ] at H)
  refine Gq8 H ?_
  exact ⟨_, resTT rfl, a1, c1, rfl, H⟩
end
end Go.Proofs.YtgilmcpdpggikaaGreatDoor

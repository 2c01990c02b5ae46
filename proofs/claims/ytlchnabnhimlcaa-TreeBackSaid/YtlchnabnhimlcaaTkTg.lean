/- package tree, walked: the page of a node. package tree, walked: the page of a node, whole. package tree, walked: Pages. crc: On, Of, Seal, Open, as plain data and walked. -/
import Derived.Test.YtlchnabnhimlcaaTkTx3
import Derived.Test.YtlchnabnhimlcaaTkTzw
set_option linter.unusedSimpArgs false
set_option linter.unusedVariables false
namespace Go.Proofs.Ytlchnabnhimlcaa
open Go Go.RowKit Go.Own
theorem putN1 {v : Nat} (h : v < 256) : putN v 1 = [UInt8.ofNat v] := by
  have : byteAt v 0 = UInt8.ofNat v := by
    unfold byteAt
    simp
  simp [putN, List.range_succ, this]
theorem byteOf_nat {v : Nat} (h : v < 256) : byteOf (v : Int) = UInt8.ofNat v := by
  unfold byteOf
  congr 1
  omega
theorem putN_b {v : Nat} (h : v < 256) : putN v 1 = [byteOf (v : Int)] := by rw [putN1 h, byteOf_nat h]
section
variable {s : Ro} {w : World} {R : List Asn}
set_option maxRecDepth 100000 in
set_option maxHeartbeats 1000000 in
theorem put_t {v g cc : Nat} {aa : Option Addr} {l : List UInt8} (H : Holds s w (var g 24 [.slice aa l.length cc] :: row 5 1 (.slice aa l.length cc) l.length (u8s l) :: R)) (hv : v < 256) (hl : l.length ≤ 1000) : Calls Try.prog 65 #[.int .i64 (v : Int), .pointer (some ⟨g, 0, none⟩)] w fun e w' => ∃ a' c', e = .returned (.tuple #[]) ∧ Holds s w' (var g 24 [.slice a' (l ++ [byteOf (v : Int)]).length c'] :: row 5 1 (.slice a' (l ++ [byteOf (v : Int)]).length c') (l ++ [byteOf (v : Int)]).length (u8s (l ++ [byteOf (v : Int)])) :: R) := by
  have hpl := putN_len v 1
  have wv : (IntKind.u64.wrap (v : Int)) = (v : Int) := by
    have := uwrap (k := .u64) (B := 64) v
    rw [this, Nat.mod_eq_of_lt (by omega)]
  refine enter Try.func65 rfl Try.ntmps65 rfl ?_
  repeat' (first | refine Z H ?_ | (refine Zc ?_ ?_ <;> intro hc <;> first | (exfalso; omega) | skip) | (refine Y ?_; try change C _ _ _ _ _ _) | (refine Zs H ?_; clear H; (try clear w); intro w H) | (refine Zn H ?_; clear H; (try clear w); intro _ w H) | (refine Ze H ?_; clear H; (try clear w); intro gv w H))
  refine C.drawn2 [g] [1, 0, 0, 2, 3, 3] [4] [0, 0, 2, 6, 15, 31] (by kernel_rfl) ?_; replace H := H.drew; simp only [segL, List.take_succ_cons, List.take_zero, List.drop_succ_cons, List.drop_zero]; have H0 := H
  repeat' (first | (refine K.convI Try.underlying3 rfl rfl rfl ?_; rw [wv]) | refine Z H ?_ | (refine Zc ?_ ?_ <;> intro hc <;> first | (exfalso; omega) | skip) | (refine Y ?_; try change C _ _ _ _ _ _) | (refine Zs H ?_; clear H; (try clear w); intro w H) | (refine Zn H ?_; clear H; (try clear w); intro _ w H) | (refine Ze H ?_; clear H; (try clear w); intro gv w H))
  (refine X.call (Put_s (n := v) (size := 1) H (by decide) (by decide)) ?_; (try clear H); rintro _ w ⟨g2, rfl, H⟩; refine ⟨_, rfl, ?_⟩); refine L.nil ?_; refine ⟨rfl, rfl, (by repeat (first | exact subN_nil | refine subN_cons (by simp) ?_)), (by first | exact keep_same | (repeat (first | exact keepV H0 H | exact keepP H0 H | exact keep_nil | refine keep_cons ?_ ?_))), ?_⟩; clear H0; have H0 := H
  repeat' (first | (refine X.app H ?_; clear H; intro a3 c3 w H) | refine Z H ?_ | (refine Zc ?_ ?_ <;> intro hc <;> first | (exfalso; omega) | skip) | (refine Y ?_; try change C _ _ _ _ _ _) | (refine Zs H ?_; clear H; (try clear w); intro w H) | (refine Zn H ?_; clear H; (try clear w); intro _ w H) | (refine Ze H ?_; clear H; (try clear w); intro gv w H))
  refine ⟨rfl, rfl, (by repeat (first | exact subN_nil | refine subN_cons (by simp) ?_)), (by first | exact keep_same | (repeat (first | exact keepV H0 H | exact keepP H0 H | exact keep_nil | refine keep_cons ?_ ?_))), ?_⟩; clear H0; have H0 := H
  repeat' (first | refine Z H ?_ | (refine Zc ?_ ?_ <;> intro hc <;> first | (exfalso; omega) | skip) | (refine Y ?_; try change C _ _ _ _ _ _) | (refine Zs H ?_; clear H; (try clear w); intro w H) | (refine Zn H ?_; clear H; (try clear w); intro _ w H) | (refine Ze H ?_; clear H; (try clear w); intro gv w H))
  rw [← putN_b hv, List.length_append, u8s_app]
  exact ⟨_, res0 rfl, a3, c3, rfl, H.arr⟩
theorem Equal_t {l m : List UInt8} {v u : Value} (H : Holds s w R) (h : Src s R v 1 l.length (u8s l)) (k : Src s R u 1 m.length (u8s m)) : Calls Try.prog 42 #[v, u] w fun e w' => e = .returned (.bool (decide (l = m))) ∧ Holds s w' R := by
  obtain ⟨_, _, rfl, _⟩ := h.form H
  obtain ⟨_, _, rfl, _⟩ := k.form H
  refine enter Try.func42 rfl Try.ntmps42 rfl ?_
  repeat' (first | (refine K.str H h rfl rfl rfl ?_) | refine Z H ?_ | (refine Zc ?_ ?_ <;> intro hc <;> first | (exfalso; omega) | skip) | (refine Y ?_; try change C _ _ _ _ _ _) | (refine Zs H ?_; clear H; (try clear w); intro w H) | (refine Zn H ?_; clear H; (try clear w); intro _ w H) | (refine Ze H ?_; clear H; (try clear w); intro gv w H))
  refine K.str (l := m) H k rfl rfl rfl ?_
  repeat' (first | refine Z H ?_ | (refine Zc ?_ ?_ <;> intro hc <;> first | (exfalso; omega) | skip) | (refine Y ?_; try change C _ _ _ _ _ _) | (refine Zs H ?_; clear H; (try clear w); intro w H) | (refine Zn H ?_; clear H; (try clear w); intro _ w H) | (refine Ze H ?_; clear H; (try clear w); intro gv w H))
  · have hlm : l = m := by
      have h1 := congrArg (fun b : ByteArray => b.data.toList) hc
      simpa using h1
    exact ⟨_, resT rfl, by rw [decide_eq_true hlm]; rfl, H⟩
  · exact ⟨_, resT rfl, by rw [decide_eq_false (fun h => hc (by rw [h]))]; rfl, H⟩
end
end Go.Proofs.Ytlchnabnhimlcaa
set_option linter.unusedSimpArgs false
set_option linter.unusedVariables false
namespace Go.Proofs.Ytlchnabnhimlcaa
open Go Go.RowKit Go.Own
/-- what fits into a page -/
structure NdB (n : Nd) : Prop where
  k0 : 0 ≤ n.kind
  k1 : n.kind < 256
  p0 : 0 ≤ n.parent
  p1 : n.parent < 256
  nm : n.name.length ≤ 8
  s0 : 0 ≤ n.size
  s1 : n.size < 256
  b0 : 0 ≤ n.b0
  b1 : n.b0 < 256
  c0 : 0 ≤ n.b1
  c1 : n.b1 < 256
theorem pageM_len {n : Nd} (h : n.name.length ≤ 8) : (pageM n).length = 40 := by
  unfold pageM padTo
  simp
  omega
theorem name8 {nm : Str} (h : nm.length ≤ 8) : (u8s (List.replicate 8 0)).take 0 ++ u8s nm ++ (u8s (List.replicate 8 0)).drop (0 + nm.length) = u8s (padTo 8 nm) := by
  unfold padTo u8s
  rw [List.take_zero, List.nil_append, Nat.zero_add, ← List.map_drop, ← List.map_append, List.take_of_length_le h, List.drop_replicate]
theorem pad8_len {nm : Str} (h : nm.length ≤ 8) : (padTo 8 nm).length = 8 := by
  unfold padTo
  simp
  omega
section
variable {s : Ro} {w : World} {R : List Asn}
set_option maxRecDepth 100000 in
set_option maxHeartbeats 1000000 in
theorem page_s {k p z b c : Nat} {nm : Str} (H : Holds s w R) (hb : NdB ⟨k, p, nm, z, b, c⟩) : Calls Try.prog 43 #[.agg (Nd.cells ⟨k, p, nm, z, b, c⟩).toArray] w fun e w' => ∃ aa cc, e = .returned (.slice aa (pageM ⟨k, p, nm, z, b, c⟩).length cc) ∧ Holds s w' (row 5 1 (.slice aa (pageM ⟨k, p, nm, z, b, c⟩).length cc) (pageM ⟨k, p, nm, z, b, c⟩).length (u8s (pageM ⟨k, p, nm, z, b, c⟩)) :: R) := by
  obtain ⟨hk0, hk1, hp0, hp1, hnm, hs0, hs1, hb0, hb1, hc0, hc1⟩ := hb
  dsimp only at hk0 hk1 hp0 hp1 hnm hs0 hs1 hb0 hb1 hc0 hc1
  refine enter Try.func43 rfl Try.ntmps43 rfl ?_
  repeat' (first | (refine X.lenL ?_) | (refine B.fn ?_) | refine Z H ?_ | (refine Zc ?_ ?_ <;> intro hc <;> first | (exfalso; omega) | skip) | (refine Y ?_; try change C _ _ _ _ _ _) | (refine Zs H ?_; clear H; (try clear w); intro w H) | (refine Zn H ?_; clear H; (try clear w); (first | ((fail_if_success (have := bl1)); intro bl1 w H) | ((fail_if_success (have := bl2)); intro bl2 w H) | ((fail_if_success (have := bl3)); intro bl3 w H) | intro _ w H)) | (refine Ze H ?_; clear H; (try clear w); intro gv w H))
  refine K.make (k := 0) (m := 40) H rfl rfl rfl rfl rfl (by decide) (by decide) (by decide) ?_
  clear H
  intro g1 w H
  repeat' (first | (refine X.lenL ?_) | (refine B.fn ?_) | refine Z H ?_ | (refine Zc ?_ ?_ <;> intro hc <;> first | (exfalso; omega) | skip) | (refine Y ?_; try change C _ _ _ _ _ _) | (refine Zs H ?_; clear H; (try clear w); intro w H) | (refine Zn H ?_; clear H; (try clear w); (first | ((fail_if_success (have := bl1)); intro bl1 w H) | ((fail_if_success (have := bl2)); intro bl2 w H) | ((fail_if_success (have := bl3)); intro bl3 w H) | intro _ w H)) | (refine Ze H ?_; clear H; (try clear w); intro gv w H))
  have H' : Holds s w (var bl2 24 [.slice (some ⟨g1, 0, none⟩) ([] : Str).length 40] :: row 5 1 (.slice (some ⟨g1, 0, none⟩) ([] : Str).length 40) ([] : Str).length (u8s []) :: var bl1 29 (Nd.cells ⟨k, p, nm, z, b, c⟩) :: R) := H
  clear H
  have H := H'
  clear H'
  refine B.call (put_t (v := k) H (by omega) (by simp)) ?_
  clear H
  rintro _ w ⟨a1, c1, rfl, H⟩
  refine ⟨_, rfl, ?_⟩
  repeat' (first | (refine X.lenL ?_) | (refine B.fn ?_) | refine Z H ?_ | (refine Zc ?_ ?_ <;> intro hc <;> first | (exfalso; omega) | skip) | (refine Y ?_; try change C _ _ _ _ _ _) | (refine Zs H ?_; clear H; (try clear w); intro w H) | (refine Zn H ?_; clear H; (try clear w); (first | ((fail_if_success (have := bl1)); intro bl1 w H) | ((fail_if_success (have := bl2)); intro bl2 w H) | ((fail_if_success (have := bl3)); intro bl3 w H) | intro _ w H)) | (refine Ze H ?_; clear H; (try clear w); intro gv w H))
  refine B.call (put_t (v := p) H (by omega) (by simp)) ?_
  clear H
  rintro _ w ⟨a2, c2, rfl, H⟩
  refine ⟨_, rfl, ?_⟩
  repeat' (first | (refine X.lenL ?_) | (refine B.fn ?_) | refine Z H ?_ | (refine Zc ?_ ?_ <;> intro hc <;> first | (exfalso; omega) | skip) | (refine Y ?_; try change C _ _ _ _ _ _) | (refine Zs H ?_; clear H; (try clear w); intro w H) | (refine Zn H ?_; clear H; (try clear w); (first | ((fail_if_success (have := bl1)); intro bl1 w H) | ((fail_if_success (have := bl2)); intro bl2 w H) | ((fail_if_success (have := bl3)); intro bl3 w H) | intro _ w H)) | (refine Ze H ?_; clear H; (try clear w); intro gv w H))
  refine B.call (put_t (v := nm.length) H (by omega) (by simp)) ?_
  clear H
  rintro _ w ⟨a3, c3, rfl, H⟩
  refine ⟨_, rfl, ?_⟩
  repeat' (first | (refine X.lenL ?_) | (refine B.fn ?_) | refine Z H ?_ | (refine Zc ?_ ?_ <;> intro hc <;> first | (exfalso; omega) | skip) | (refine Y ?_; try change C _ _ _ _ _ _) | (refine Zs H ?_; clear H; (try clear w); intro w H) | (refine Zn H ?_; clear H; (try clear w); (first | ((fail_if_success (have := bl1)); intro bl1 w H) | ((fail_if_success (have := bl2)); intro bl2 w H) | ((fail_if_success (have := bl3)); intro bl3 w H) | intro _ w H)) | (refine Ze H ?_; clear H; (try clear w); intro gv w H))
  refine C.drawn1 [0, 0, 1, 3] [0, 0, 2, 7] (by kernel_rfl) ?_; replace H := H.drew
  repeat' (first | (refine X.lenL ?_) | (refine B.fn ?_) | refine Z H ?_ | (refine Zc ?_ ?_ <;> intro hc <;> first | (exfalso; omega) | skip) | (refine Y ?_; try change C _ _ _ _ _ _) | (refine Zs H ?_; clear H; (try clear w); intro w H) | (refine Zn H ?_; clear H; (try clear w); (first | ((fail_if_success (have := bl1)); intro bl1 w H) | ((fail_if_success (have := bl2)); intro bl2 w H) | ((fail_if_success (have := bl3)); intro bl3 w H) | intro _ w H)) | (refine Ze H ?_; clear H; (try clear w); intro gv w H))
  refine K.copyS (l := nm) 0 (cs := u8s (List.replicate 8 0)) H rfl hnm (by simpa [u8s] using hnm) rfl rfl rfl ?_
  clear H
  intro w H
  rw [List.set_cons_zero, name8 hnm] at H
  have hp8 := pad8_len hnm
  have hp8' : (u8s (padTo 8 nm)).length = 8 := by rw [u8s_len, hp8]
  generalize hl3 : ([] ++ [byteOf (k : Int)] ++ [byteOf (p : Int)] ++ [byteOf (nm.length : Int)] : Str) = l3 at H
  have hl3l : l3.length = 3 := by rw [← hl3]; rfl
  have H' : Holds s w (var bl3 116 (u8s (padTo 8 nm)) :: var bl2 24 [.slice a3 l3.length c3] :: row 5 1 (.slice a3 l3.length c3) l3.length (u8s l3) :: var bl1 29 (Nd.cells ⟨k, p, nm, z, b, c⟩) :: R) := H
  clear H
  have H := H'
  clear H'
  repeat' (first | (refine X.lenL ?_) | (refine B.fn ?_) | refine Z H ?_ | (refine Zc ?_ ?_ <;> intro hc <;> first | (exfalso; omega) | skip) | (refine Y ?_; try change C _ _ _ _ _ _) | (refine Zs H ?_; clear H; (try clear w); intro w H) | (refine Zn H ?_; clear H; (try clear w); (first | ((fail_if_success (have := bl1)); intro bl1 w H) | ((fail_if_success (have := bl2)); intro bl2 w H) | ((fail_if_success (have := bl3)); intro bl3 w H) | intro _ w H)) | (refine Ze H ?_; clear H; (try clear w); intro gv w H))
  refine C.drawn1 [1, 0, 3, 3] [0, 0, 3, 7] (by kernel_rfl) ?_; replace H := H.drew
  repeat' (first | (refine K.app 2 H rfl (Src.arr 0 bl3 8 116 rfl rfl (by rw [hp8']) (Nat.le_refl _) (by decide)) (u8s_one _) (by rw [hl3l]; decide) (by rw [hl3l]; decide) rfl rfl rfl ?_; clear H; (try clear w); intro a4 c4 w H; simp only [List.set_cons_succ, List.set_cons_zero] at H) | (refine X.lenL ?_) | (refine B.fn ?_) | refine Z H ?_ | (refine Zc ?_ ?_ <;> intro hc <;> first | (exfalso; omega) | skip) | (refine Y ?_; try change C _ _ _ _ _ _) | (refine Zs H ?_; clear H; (try clear w); intro w H) | (refine Zn H ?_; clear H; (try clear w); (first | ((fail_if_success (have := bl1)); intro bl1 w H) | ((fail_if_success (have := bl2)); intro bl2 w H) | ((fail_if_success (have := bl3)); intro bl3 w H) | intro _ w H)) | (refine Ze H ?_; clear H; (try clear w); intro gv w H))
  have e1 : l3.length + 8 = (l3 ++ padTo 8 nm).length := by rw [List.length_append, hp8]
  have H' : Holds s w (var bl2 24 [.slice a4 (l3.length + 8) c4] :: row 5 1 (.slice a4 (l3.length + 8) c4) (l3.length + 8) (u8s l3 ++ u8s (padTo 8 nm)) :: var bl1 29 (Nd.cells ⟨k, p, nm, z, b, c⟩) :: R) := H.tail
  clear H
  rw [← u8s_app, e1] at H'
  have H := H'
  clear H'
  refine B.call (put_t (v := z) H (by omega) (by rw [List.length_append, hp8]; omega)) ?_
  clear H
  rintro _ w ⟨a5, c5, rfl, H⟩
  refine ⟨_, rfl, ?_⟩
  repeat' (first | (refine X.lenL ?_) | (refine B.fn ?_) | refine Z H ?_ | (refine Zc ?_ ?_ <;> intro hc <;> first | (exfalso; omega) | skip) | (refine Y ?_; try change C _ _ _ _ _ _) | (refine Zs H ?_; clear H; (try clear w); intro w H) | (refine Zn H ?_; clear H; (try clear w); (first | ((fail_if_success (have := bl1)); intro bl1 w H) | ((fail_if_success (have := bl2)); intro bl2 w H) | ((fail_if_success (have := bl3)); intro bl3 w H) | intro _ w H)) | (refine Ze H ?_; clear H; (try clear w); intro gv w H))
  repeat' (first | (refine K.iaA (i := 0) rfl rfl rfl rfl rfl (by decide) ?_) | (refine X.lenL ?_) | (refine B.fn ?_) | refine Z H ?_ | (refine Zc ?_ ?_ <;> intro hc <;> first | (exfalso; omega) | skip) | (refine Y ?_; try change C _ _ _ _ _ _) | (refine Zs H ?_; clear H; (try clear w); intro w H) | (refine Zn H ?_; clear H; (try clear w); (first | ((fail_if_success (have := bl1)); intro bl1 w H) | ((fail_if_success (have := bl2)); intro bl2 w H) | ((fail_if_success (have := bl3)); intro bl3 w H) | intro _ w H)) | (refine Ze H ?_; clear H; (try clear w); intro gv w H))
  refine B.call (put_t (v := b) H (by omega) (by simp [hp8, hl3l])) ?_
  clear H
  rintro _ w ⟨a6, c6, rfl, H⟩
  refine ⟨_, rfl, ?_⟩
  repeat' (first | (refine K.iaA (i := 1) rfl rfl rfl rfl rfl (by decide) ?_) | (refine X.lenL ?_) | (refine B.fn ?_) | refine Z H ?_ | (refine Zc ?_ ?_ <;> intro hc <;> first | (exfalso; omega) | skip) | (refine Y ?_; try change C _ _ _ _ _ _) | (refine Zs H ?_; clear H; (try clear w); intro w H) | (refine Zn H ?_; clear H; (try clear w); (first | ((fail_if_success (have := bl1)); intro bl1 w H) | ((fail_if_success (have := bl2)); intro bl2 w H) | ((fail_if_success (have := bl3)); intro bl3 w H) | intro _ w H)) | (refine Ze H ?_; clear H; (try clear w); intro gv w H))
  refine B.call (put_t (v := c) H (by omega) (by simp [hp8, hl3l])) ?_
  clear H
  rintro _ w ⟨a7, c7, rfl, H⟩
  refine ⟨_, rfl, ?_⟩
  have hl6 : (l3 ++ padTo 8 nm ++ [byteOf (z : Int)] ++ [byteOf (b : Int)] ++ [byteOf (c : Int)]).length = 14 := by simp only [List.length_append, hp8, hl3l]; rfl
  have hpm : pageM ⟨k, p, nm, z, b, c⟩ = padTo 40 (l3 ++ padTo 8 nm ++ [byteOf (z : Int)] ++ [byteOf (b : Int)] ++ [byteOf (c : Int)]) := by
    rw [← hl3]
    simp [pageM]
  generalize (l3 ++ padTo 8 nm ++ [byteOf (z : Int)] ++ [byteOf (b : Int)] ++ [byteOf (c : Int)] : Str) = l6 at *
  repeat' (first | (refine X.lenL ?_) | (refine B.fn ?_) | refine Z H ?_ | (refine Zc ?_ ?_ <;> intro hc <;> first | (exfalso; omega) | skip) | (refine Y ?_; try change C _ _ _ _ _ _) | (refine Zs H ?_; clear H; (try clear w); intro w H) | (refine Zn H ?_; clear H; (try clear w); (first | ((fail_if_success (have := bl1)); intro bl1 w H) | ((fail_if_success (have := bl2)); intro bl2 w H) | ((fail_if_success (have := bl3)); intro bl3 w H) | intro _ w H)) | (refine Ze H ?_; clear H; (try clear w); intro gv w H))
  refine K.make (k := 40) (m := 40) H rfl rfl rfl rfl rfl (by decide) (by decide) (by decide) ?_
  clear H
  intro g2 w H
  rw [rep_flat] at H
  repeat' (first | (refine X.lenL ?_) | (refine B.fn ?_) | refine Z H ?_ | (refine Zc ?_ ?_ <;> intro hc <;> first | (exfalso; omega) | skip) | (refine Y ?_; try change C _ _ _ _ _ _) | (refine Zs H ?_; clear H; (try clear w); intro w H) | (refine Zn H ?_; clear H; (try clear w); (first | ((fail_if_success (have := bl1)); intro bl1 w H) | ((fail_if_success (have := bl2)); intro bl2 w H) | ((fail_if_success (have := bl3)); intro bl3 w H) | intro _ w H)) | (refine Ze H ?_; clear H; (try clear w); intro gv w H))
  refine K.copyR 0 H rfl (.own 2 _ rfl) (u8s_one _) (q := 14) (by rw [hl6]; rfl) (by decide) rfl rfl rfl ?_
  clear H
  intro w H
  have hpl : (pageM ⟨k, p, nm, z, b, c⟩).length = 40 := pageM_len hnm
  have hfill : (List.replicate 40 (Value.int .u8 0)).take 0 ++ ((u8s l6).take 40 ++ (List.replicate 40 (Value.int .u8 0)).drop (0 + 14)) = u8s (pageM ⟨k, p, nm, z, b, c⟩) := by
    rw [List.take_zero, List.nil_append, List.take_of_length_le (by rw [u8s_len, hl6]; decide), hpm, padTo, List.take_of_length_le (by rw [hl6]; decide), u8s_app, hl6]
    rfl
  rw [List.set_cons_zero, hfill] at H
  repeat' (first | (refine X.lenL ?_) | (refine B.fn ?_) | refine Z H ?_ | (refine Zc ?_ ?_ <;> intro hc <;> first | (exfalso; omega) | skip) | (refine Y ?_; try change C _ _ _ _ _ _) | (refine Zs H ?_; clear H; (try clear w); intro w H) | (refine Zn H ?_; clear H; (try clear w); (first | ((fail_if_success (have := bl1)); intro bl1 w H) | ((fail_if_success (have := bl2)); intro bl2 w H) | ((fail_if_success (have := bl3)); intro bl3 w H) | intro _ w H)) | (refine Ze H ?_; clear H; (try clear w); intro gv w H))
  rw [hpl]
  exact ⟨_, resT rfl, _, _, rfl, H.arr⟩
end
end Go.Proofs.Ytlchnabnhimlcaa
set_option linter.unusedSimpArgs false
set_option linter.unusedVariables false
namespace Go.Proofs.Ytlchnabnhimlcaa
open Go Go.RowKit Go.Own
/-- pages in memory, only read from now on -/
def PgsV (s : Ro) (vl : List Value) (ps : List Str) : Prop := vl.length = ps.length ∧ ∀ (i : Nat) (p : Str), ps[i]? = some p → ∃ a c, vl[i]? = some (.slice a p.length c) ∧ SlS s (.slice a p.length c) 1 p.length (u8s p)
theorem PgsV.mono {s s' : Ro} {vl : List Value} {ps : List Str} (h : PgsV s vl ps) (hs : s.Le s') : PgsV s' vl ps :=
  ⟨h.1, fun i p hp => by obtain ⟨a, c, h1, h2⟩ := h.2 i p hp; exact ⟨a, c, h1, h2.mono hs⟩⟩
theorem PgsV.nil {s : Ro} : PgsV s [] [] := ⟨rfl, fun i p hp => by simp at hp⟩
theorem PgsV.snoc {s : Ro} {vl : List Value} {ps : List Str} {p : Str} {a : Option Addr} {c : Nat} (h : PgsV s vl ps) (hp : SlS s (.slice a p.length c) 1 p.length (u8s p)) : PgsV s (vl ++ [.slice a p.length c]) (ps ++ [p]) :=
  ⟨by simp [h.1], fun i q hq => by
    by_cases hi : i < ps.length
    · rw [List.getElem?_append_left hi] at hq
      rw [List.getElem?_append_left (by rw [h.1]; exact hi)]
      exact h.2 i q hq
    · rw [List.getElem?_append_right (by omega)] at hq
      rw [List.getElem?_append_right (by rw [h.1]; omega), h.1]
      have : i - ps.length = 0 := by
        have := (List.getElem?_eq_some_iff.1 hq).1
        simp at this; omega
      rw [this] at hq ⊢
      simp at hq; subst hq
      exact ⟨a, c, rfl, hp⟩⟩
theorem ndb_of {t : TR} (h : checkM t = true) {i : Nat} (hi : i < 8) : NdB (t.n i) := by
  have hb := bks_of h hi
  by_cases h0 : i = 0
  · subst h0; rw [(check_iff.1 h).1]; exact ⟨by decide, by decide, by decide, by decide, by decide, by decide, by decide, by decide, by decide, by decide, by decide⟩
  · rcases (check_iff.1 h).2.1 i hi (by omega) with hz | ⟨⟨f1, f2, f3, f4, f5, f6⟩, _⟩
    · rw [hz]; exact ⟨by decide, by decide, by decide, by decide, by decide, by decide, by decide, by decide, by decide, by decide, by decide⟩
    · have hl : (t.n i).name.length ≤ 8 := by
        unfold isNameM at f4
        simp only [Bool.and_eq_true, decide_eq_true_eq] at f4
        exact f4.1.2
      unfold Bks at hb
      unfold Shaped at f6
      exact ⟨by omega, by omega, by omega, by omega, hl, by omega, by omega, by omega, by omega, by omega, by omega⟩
theorem TR.blockL {t : TR} (h : t.Ok) {k : Nat} (hk : k < 8) : ((t.bl.flatMap u8s).drop (k * 40)).take 40 = u8s (t.b k) := by
  have := flatS_part (f := u8s) (sz := 40) t.bl (fun x hx => by rw [u8s_len]; exact h.b40 x hx) k 0 40 (by rw [h.b8]; exact hk) (by omega)
  rw [Nat.add_zero] at this
  rw [this, ← TR.b_get h hk, List.drop_zero, List.take_of_length_le (by rw [u8s_len, TR.b_len h hk]; omega)]
section
variable {s : Ro} {w : World} {R : List Asn}
theorem page_n {n : Nd} (H : Holds s w R) (hb : NdB n) : Calls Try.prog 43 #[.agg n.cells.toArray] w fun e w' => ∃ aa cc, e = .returned (.slice aa (pageM n).length cc) ∧ Holds s w' (row 5 1 (.slice aa (pageM n).length cc) (pageM n).length (u8s (pageM n)) :: R) := by
  obtain ⟨k, p, nm, z, b, c⟩ := n
  obtain ⟨k, rfl⟩ : ∃ x : Nat, k = x := ⟨k.toNat, by have := hb.k0; dsimp only at this; omega⟩
  obtain ⟨p, rfl⟩ : ∃ x : Nat, p = x := ⟨p.toNat, by have := hb.p0; dsimp only at this; omega⟩
  obtain ⟨z, rfl⟩ : ∃ x : Nat, z = x := ⟨z.toNat, by have := hb.s0; dsimp only at this; omega⟩
  obtain ⟨b, rfl⟩ : ∃ x : Nat, b = x := ⟨b.toNat, by have := hb.b0; dsimp only at this; omega⟩
  obtain ⟨c, rfl⟩ : ∃ x : Nat, c = x := ⟨c.toNat, by have := hb.c0; dsimp only at this; omega⟩
  exact page_s H hb
set_option maxRecDepth 100000 in
set_option maxHeartbeats 1000000 in
theorem Clone_t {b : Nat} {t : TypeId} {l : Str} (H : Holds s w (var b t (u8s l) :: R)) (hl : l.length = 40) : Calls Try.prog 44 #[.slice (some ⟨b, 0, none⟩) 40 40] w fun e w' => ∃ aa cc, e = .returned (.slice aa l.length cc) ∧ Holds s w' (row 5 1 (.slice aa l.length cc) l.length (u8s l) :: var b t (u8s l) :: R) := by
  have hu : (u8s l).length = 40 := by rw [u8s_len, hl]
  refine enter Try.func44 rfl Try.ntmps44 rfl ?_
  repeat' (first | (refine X.nilS ?_) | (refine K.app 0 H rfl (Src.arr 1 b 40 t rfl rfl (by rw [hu]) (Nat.le_refl _) (by decide)) (u8s_one _) (by decide) (by decide) rfl rfl rfl ?_; clear H; (try clear w); intro a4 c4 w H; simp only [List.set_cons_succ, List.set_cons_zero] at H) | refine Z H ?_ | (refine Zc ?_ ?_ <;> intro hc <;> first | (exfalso; omega) | skip) | (refine Y ?_; try change C _ _ _ _ _ _) | (refine Zs H ?_; clear H; (try clear w); intro w H) | (refine Zn H ?_; clear H; (try clear w); intro _ w H) | (refine Ze H ?_; clear H; (try clear w); intro gv w H))
  rw [hl]
  refine ⟨_, resT rfl, a4, c4, rfl, ?_⟩
  have H' : Holds s w (row 5 1 (.slice a4 40 c4) 40 (u8s l) :: var b t (u8s l) :: R) := H
  exact H'
set_option maxRecDepth 100000 in
set_option maxHeartbeats 1000000 in
theorem Pages_t {t : TR} (H : Holds s w R) (ht : t.Ok) : Calls Try.prog 17 #[.agg t.cells.toArray] w fun e w' => ∃ s' a c vl, e = .returned (.slice a (pagesM t).length c) ∧ s.Le s' ∧ PgsV s' vl (pagesM t) ∧ Holds s' w' (row 24 1 (.slice a (pagesM t).length c) (pagesM t).length vl :: R) := by
  refine enter Try.func17 rfl Try.ntmps17 rfl ?_
  repeat' (first | (refine X.lenL ?_) | (refine X.lv H ?_) | (refine X.lp H ?_) | (refine X.ldT H ?_) | (refine X.stT H ?_; clear H; (try clear w); intro w H) | (refine X.eqL ?_ ?_ <;> intro hc <;> first | (exfalso; first | exact absurd hc (by assumption) | exact absurd (by assumption) hc) | skip) | refine Z H ?_ | (refine Zc ?_ ?_ <;> intro hc <;> first | (exfalso; omega) | skip) | (refine Y ?_; try change C _ _ _ _ _ _) | (refine Zs H ?_; clear H; (try clear w); intro w H) | (refine Zn H ?_; clear H; (try clear w); (first | ((fail_if_success (have := bl1)); intro bl1 w H) | intro _ w H)) | (refine Ze H ?_; clear H; (try clear w); intro gv w H))
  have hC := Check_s H ht
  by_cases hchk : checkM t = true
  rotate_left
  · rw [show checkM t = false by simpa using hchk] at hC
    (refine X.call (hC) ?_; (try clear H); rintro _ w ⟨rfl, H⟩; refine ⟨_, rfl, ?_⟩)
    clear hC
    repeat' (first | (refine X.lenL ?_) | (refine X.lv H ?_) | (refine X.lp H ?_) | (refine X.ldT H ?_) | (refine X.stT H ?_; clear H; (try clear w); intro w H) | (refine X.eqL ?_ ?_ <;> intro hc <;> first | (exfalso; first | exact absurd hc (by assumption) | exact absurd (by assumption) hc) | skip) | refine Z H ?_ | (refine Zc ?_ ?_ <;> intro hc <;> first | (exfalso; omega) | skip) | (refine Y ?_; try change C _ _ _ _ _ _) | (refine Zs H ?_; clear H; (try clear w); intro w H) | (refine Zn H ?_; clear H; (try clear w); (first | ((fail_if_success (have := bl1)); intro bl1 w H) | intro _ w H)) | (refine Ze H ?_; clear H; (try clear w); intro gv w H))
    have e : pagesM t = [] := by rw [pagesM, if_pos (by simpa using hchk)]
    rw [e]
    exact ⟨_, resT rfl, s, none, 0, [], rfl, Ro.Le.refl s, PgsV.nil, H.tail.nilRow _ _⟩
  rw [hchk] at hC
  (refine X.call (hC) ?_; (try clear H); rintro _ w ⟨rfl, H⟩; refine ⟨_, rfl, ?_⟩)
  clear hC
  have hnd := TR.nodes ht
  have hl48 := TR.nd_len ht
  have hbk := TR.blocks ht
  have hl320 := TR.bl_len ht
  repeat' (first | (refine X.lenL ?_) | (refine X.lv H ?_) | (refine X.lp H ?_) | (refine X.ldT H ?_) | (refine X.stT H ?_; clear H; (try clear w); intro w H) | (refine X.eqL ?_ ?_ <;> intro hc <;> first | (exfalso; first | exact absurd hc (by assumption) | exact absurd (by assumption) hc) | skip) | refine Z H ?_ | (refine Zc ?_ ?_ <;> intro hc <;> first | (exfalso; omega) | skip) | (refine Y ?_; try change C _ _ _ _ _ _) | (refine Zs H ?_; clear H; (try clear w); intro w H) | (refine Zn H ?_; clear H; (try clear w); (first | ((fail_if_success (have := bl1)); intro bl1 w H) | intro _ w H)) | (refine Ze H ?_; clear H; (try clear w); intro gv w H))
  refine K.make (k := 0) (m := 16) H rfl rfl rfl rfl rfl (by decide) (by decide) (by decide) ?_
  clear H
  intro g1 w H
  repeat' (first | (refine X.lenL ?_) | (refine X.lv H ?_) | (refine X.lp H ?_) | (refine X.ldT H ?_) | (refine X.stT H ?_; clear H; (try clear w); intro w H) | (refine X.eqL ?_ ?_ <;> intro hc <;> first | (exfalso; first | exact absurd hc (by assumption) | exact absurd (by assumption) hc) | skip) | refine Z H ?_ | (refine Zc ?_ ?_ <;> intro hc <;> first | (exfalso; omega) | skip) | (refine Y ?_; try change C _ _ _ _ _ _) | (refine Zs H ?_; clear H; (try clear w); intro w H) | (refine Zn H ?_; clear H; (try clear w); (first | ((fail_if_success (have := bl1)); intro bl1 w H) | intro _ w H)) | (refine Ze H ?_; clear H; (try clear w); intro gv w H))
  refine C.loopS [3, 5, 14, 15, 16, 17, 18, 19, 20, 21, 22] [3, 14] rfl (fun m vs w => ∃ (i : Nat) (s1 : Ro) (a : Option Addr) (c : Nat) (vl : List Value), m = 8 - i ∧ i ≤ 8 ∧ vs = [.slice a i c, .int .i64 (i : Int)] ∧ s.Le s1 ∧ PgsV s1 vl ((t.nd.take i).map pageM) ∧ Holds s1 w (row 24 1 (.slice a i c) i vl :: var bl1 34 t.cells :: R)) 8 ⟨0, s, some ⟨g1, 0, none⟩, 16, [], rfl, by omega, rfl, Ro.Le.refl s, PgsV.nil, H⟩ ?_
  clear H
  rintro m vs hv w ⟨i, s1, a, c, vl, rfl, hi, rfl, hs1, hpg, H⟩
  by_cases hlt : i < 8
  · have hn := TR.nodeL ht hlt
    have htk : (t.nd.take (i + 1)).map pageM = (t.nd.take i).map pageM ++ [pageM (t.n i)] := by
      rw [List.take_succ_eq_append_getElem (by rw [ht.n8]; exact hlt), ← TR.n_get ht hlt, List.map_append]
      rfl
    repeat' (first | (refine X.ixP i ?_ hn hlt) | (refine X.lenL ?_) | (refine X.lv H ?_) | (refine X.lp H ?_) | (refine X.ldT H ?_) | (refine X.stT H ?_; clear H; (try clear w); intro w H) | (refine X.eqL ?_ ?_ <;> intro hc <;> first | (exfalso; first | exact absurd hc (by assumption) | exact absurd (by assumption) hc) | skip) | refine Z H ?_ | (refine Zc ?_ ?_ <;> intro hc <;> first | (exfalso; omega) | skip) | (refine Y ?_; try change C _ _ _ _ _ _) | (refine Zs H ?_; clear H; (try clear w); intro w H) | (refine Zn H ?_; clear H; (try clear w); (first | ((fail_if_success (have := bl1)); intro bl1 w H) | intro _ w H)) | (refine Ze H ?_; clear H; (try clear w); intro gv w H))
    (refine X.call (page_n H (ndb_of hchk hlt)) ?_; (try clear H); rintro _ w ⟨a2, c2, rfl, H⟩; refine ⟨_, rfl, ?_⟩)
    obtain ⟨s2, hs2, H, hr2⟩ := H.fixRow
    repeat' (first | (refine X.lenL ?_) | (refine X.lv H ?_) | (refine X.lp H ?_) | (refine X.ldT H ?_) | (refine X.stT H ?_; clear H; (try clear w); intro w H) | (refine X.eqL ?_ ?_ <;> intro hc <;> first | (exfalso; first | exact absurd hc (by assumption) | exact absurd (by assumption) hc) | skip) | refine Z H ?_ | (refine Zc ?_ ?_ <;> intro hc <;> first | (exfalso; omega) | skip) | (refine Y ?_; try change C _ _ _ _ _ _) | (refine Zs H ?_; clear H; (try clear w); intro w H) | (refine Zn H ?_; clear H; (try clear w); (first | ((fail_if_success (have := bl1)); intro bl1 w H) | intro _ w H)) | (refine Ze H ?_; clear H; (try clear w); intro gv w H))
    refine K.one H rfl rfl (by conv => lhs; whnf) (by rfl) (by rfl) ?_; clear H; (try clear w); intro g1 w H
    repeat' (first | (refine X.app H ?_; clear H; intro a3 c3 w H) | (refine X.lenL ?_) | (refine X.lv H ?_) | (refine X.lp H ?_) | (refine X.ldT H ?_) | (refine X.stT H ?_; clear H; (try clear w); intro w H) | (refine X.eqL ?_ ?_ <;> intro hc <;> first | (exfalso; first | exact absurd hc (by assumption) | exact absurd (by assumption) hc) | skip) | refine Z H ?_ | (refine Zc ?_ ?_ <;> intro hc <;> first | (exfalso; omega) | skip) | (refine Y ?_; try change C _ _ _ _ _ _) | (refine Zs H ?_; clear H; (try clear w); intro w H) | (refine Zn H ?_; clear H; (try clear w); (first | ((fail_if_success (have := bl1)); intro bl1 w H) | intro _ w H)) | (refine Ze H ?_; clear H; (try clear w); intro gv w H))
    exact ⟨by (repeat (first | exact Agr.refl | exact Agr.hav | refine Agr.upd rfl ?_ | refine Agr.in rfl ?_)), 8 - (i + 1), by omega, i + 1, s2, a3, c3, _, rfl, by omega, rfl, hs1.trans hs2, by rw [htk]; exact (hpg.mono hs2).snoc hr2, H.arr⟩
  obtain rfl : i = 8 := by omega
  rw [List.take_of_length_le (by rw [ht.n8]; omega)] at hpg
  repeat' (first | (refine X.lenL ?_) | (refine X.lv H ?_) | (refine X.lp H ?_) | (refine X.ldT H ?_) | (refine X.stT H ?_; clear H; (try clear w); intro w H) | (refine X.eqL ?_ ?_ <;> intro hc <;> first | (exfalso; first | exact absurd hc (by assumption) | exact absurd (by assumption) hc) | skip) | refine Z H ?_ | (refine Zc ?_ ?_ <;> intro hc <;> first | (exfalso; omega) | skip) | (refine Y ?_; try change C _ _ _ _ _ _) | (refine Zs H ?_; clear H; (try clear w); intro w H) | (refine Zn H ?_; clear H; (try clear w); (first | ((fail_if_success (have := bl1)); intro bl1 w H) | intro _ w H)) | (refine Ze H ?_; clear H; (try clear w); intro gv w H))
  refine C.loopS [3, 7, 25, 26, 27, 28, 29, 30, 31, 32, 33] [3, 25] rfl (fun m vs w => ∃ (i : Nat) (s1 : Ro) (a : Option Addr) (c : Nat) (vl : List Value), m = 8 - i ∧ i ≤ 8 ∧ vs = [.slice a (8 + i) c, .int .i64 (i : Int)] ∧ s.Le s1 ∧ PgsV s1 vl (t.nd.map pageM ++ t.bl.take i) ∧ Holds s1 w (row 24 1 (.slice a (8 + i) c) (8 + i) vl :: var bl1 34 t.cells :: R)) 8 ⟨0, s1, a, c, vl, rfl, by omega, rfl, hs1, by simpa using hpg, H⟩ ?_
  clear H hpg hs1 hlt hi
  rintro m vs hv2 w ⟨i, s1, a', c', vl, rfl, hi, rfl, hs1, hpg, H⟩
  by_cases hlt : i < 8
  · have hn := TR.blockL ht hlt
    have htk : t.nd.map pageM ++ t.bl.take (i + 1) = t.nd.map pageM ++ t.bl.take i ++ [t.b i] := by
      rw [List.take_succ_eq_append_getElem (by rw [ht.b8]; exact hlt), ← TR.b_get ht hlt, List.append_assoc]
    have hb40 := TR.b_len ht hlt
    have hu40 : (u8s (t.b i)).length = 40 := by rw [u8s_len, hb40]
    repeat' (first | (refine X.ixP i ?_ hn hlt) | (refine X.sta (xs := u8s (t.b i)) H ?_ (h1 := List.all_eq_true.2 (u8s_one _)) (hn := hu40); clear H; (try clear w); intro w H) | (refine X.lenL ?_) | (refine X.lv H ?_) | (refine X.lp H ?_) | (refine X.ldT H ?_) | (refine X.stT H ?_; clear H; (try clear w); intro w H) | (refine X.eqL ?_ ?_ <;> intro hc <;> first | (exfalso; first | exact absurd hc (by assumption) | exact absurd (by assumption) hc) | skip) | refine Z H ?_ | (refine Zc ?_ ?_ <;> intro hc <;> first | (exfalso; omega) | skip) | (refine Y ?_; try change C _ _ _ _ _ _) | (refine Zs H ?_; clear H; (try clear w); intro w H) | (refine Zn H ?_; clear H; (try clear w); (first | ((fail_if_success (have := bl1)); intro bl1 w H) | intro _ w H)) | (refine Ze H ?_; clear H; (try clear w); intro gv w H))
    (refine X.call (Clone_t H hb40) ?_; (try clear H); rintro _ w ⟨a2, c2, rfl, H⟩; refine ⟨_, rfl, ?_⟩)
    obtain ⟨s2, hs2, H, hr2⟩ := H.fixRow
    repeat' (first | (refine X.lenL ?_) | (refine X.lv H ?_) | (refine X.lp H ?_) | (refine X.ldT H ?_) | (refine X.stT H ?_; clear H; (try clear w); intro w H) | (refine X.eqL ?_ ?_ <;> intro hc <;> first | (exfalso; first | exact absurd hc (by assumption) | exact absurd (by assumption) hc) | skip) | refine Z H ?_ | (refine Zc ?_ ?_ <;> intro hc <;> first | (exfalso; omega) | skip) | (refine Y ?_; try change C _ _ _ _ _ _) | (refine Zs H ?_; clear H; (try clear w); intro w H) | (refine Zn H ?_; clear H; (try clear w); (first | ((fail_if_success (have := bl1)); intro bl1 w H) | intro _ w H)) | (refine Ze H ?_; clear H; (try clear w); intro gv w H))
    refine K.one H rfl rfl (by conv => lhs; whnf) (by rfl) (by rfl) ?_; clear H; (try clear w); intro g1 w H
    repeat' (first | (refine X.app H ?_; clear H; intro a3 c3 w H) | (refine X.lenL ?_) | (refine X.lv H ?_) | (refine X.lp H ?_) | (refine X.ldT H ?_) | (refine X.stT H ?_; clear H; (try clear w); intro w H) | (refine X.eqL ?_ ?_ <;> intro hc <;> first | (exfalso; first | exact absurd hc (by assumption) | exact absurd (by assumption) hc) | skip) | refine Z H ?_ | (refine Zc ?_ ?_ <;> intro hc <;> first | (exfalso; omega) | skip) | (refine Y ?_; try change C _ _ _ _ _ _) | (refine Zs H ?_; clear H; (try clear w); intro w H) | (refine Zn H ?_; clear H; (try clear w); (first | ((fail_if_success (have := bl1)); intro bl1 w H) | intro _ w H)) | (refine Ze H ?_; clear H; (try clear w); intro gv w H))
    exact ⟨by (repeat (first | exact Agr.refl | exact Agr.hav | refine Agr.upd rfl ?_ | refine Agr.in rfl ?_)), 8 - (i + 1), by omega, i + 1, s2, a3, c3, _, rfl, by omega, rfl, hs1.trans hs2, by rw [htk]; exact (hpg.mono hs2).snoc hr2, H.arr⟩
  obtain rfl : i = 8 := by omega
  rw [List.take_of_length_le (by rw [ht.b8]; omega)] at hpg
  have e : pagesM t = t.nd.map pageM ++ t.bl := by rw [pagesM, if_neg (by simpa using hchk)]
  have el : (pagesM t).length = 16 := by rw [e, List.length_append, List.length_map, ht.n8, ht.b8]
  repeat' (first | (refine X.lenL ?_) | (refine X.lv H ?_) | (refine X.lp H ?_) | (refine X.ldT H ?_) | (refine X.stT H ?_; clear H; (try clear w); intro w H) | (refine X.eqL ?_ ?_ <;> intro hc <;> first | (exfalso; first | exact absurd hc (by assumption) | exact absurd (by assumption) hc) | skip) | refine Z H ?_ | (refine Zc ?_ ?_ <;> intro hc <;> first | (exfalso; omega) | skip) | (refine Y ?_; try change C _ _ _ _ _ _) | (refine Zs H ?_; clear H; (try clear w); intro w H) | (refine Zn H ?_; clear H; (try clear w); (first | ((fail_if_success (have := bl1)); intro bl1 w H) | intro _ w H)) | (refine Ze H ?_; clear H; (try clear w); intro gv w H))
  rw [el]
  exact ⟨_, resT rfl, s1, a', c', vl, rfl, hs1, by rw [e]; exact hpg, H.arr⟩
end
end Go.Proofs.Ytlchnabnhimlcaa
set_option linter.unusedSimpArgs false
set_option linter.unusedVariables false
namespace Go.Proofs.Ytlchnabnhimlcaa
open Go Go.RowKit Go.Own
def nibs : List Nat := [0, 274646895, 549293790, 820201905, 1098587580, 1361435347, 1640403810, 1905808397, 2197175160, 2460548119, 2722870694, 2987750089, 3280807620, 3553878443, 3811616794, 4084100981]
def nib (q : Nat) : Nat := nibs[q]?.getD 0
/-- the table, read-only, in its global block -/
def Nib (s : Ro) : Prop := ∀ q, q < 16 → Pin s 0 (0 + q * 1) (.int .u32 (nib q : Int))
theorem Nib.mono {s s' : Ro} (h : Nib s) (hs : s.Le s') : Nib s' := fun q hq => (h q hq).mono hs
section
variable {s : Ro} {w : World} {R : List Asn}
/-- any readable slice, all memory being read-only -/
theorem _root_.Go.Own.Src.full {rs : List Asn} {v : Value} {sz n : Nat} {xs : List Value} (h : Src s rs v sz n xs) (H : Holds s w rs) : SlS (Own.full s w) v sz n xs := by
  have := SlS.start (h.sl H)
  obtain ⟨a, c, h1, h2, h3, h4, h5⟩ := this
  exact ⟨a, c, h1, h2, h3, h4, h5⟩
theorem _root_.Go.Own.Src.skip {rs : List Asn} {A : Asn} {v : Value} {sz n : Nat} {xs : List Value} (h : Src s rs v sz n xs) : Src s (A :: rs) v sz n xs := ⟨fun w H => h.reads w H.tail, fun hx k hk => (h.blk hx k hk).imp id fun ⟨i, A, h1, h2⟩ => ⟨i + 1, A, by simpa using h1, h2⟩⟩
theorem number_e {l : List UInt8} {v : Value} (H : Holds s w R) (h : Src s R v 1 l.length (u8s l)) (hl : l.length ≤ 8) : Calls Try.prog 75 #[v] w fun e w' => e = .returned (.int .u64 (numN l : Int)) ∧ Only [] w w' ∧ Holds s w' R := by
  obtain ⟨a, c, rfl, _⟩ := h.form H
  exact (number_s H.full (h.full H) hl).mono fun e w' ⟨he, H'⟩ => ⟨he, H.pure0 H'⟩
theorem u8s_take (l : List UInt8) (n : Nat) : (u8s l).take n = u8s (l.take n) := by simp [u8s]
theorem u8s_drop (l : List UInt8) (n : Nat) : (u8s l).drop n = u8s (l.drop n) := by simp [u8s]
end
end Go.Proofs.Ytlchnabnhimlcaa

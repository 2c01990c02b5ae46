/- Squeezed copy of the texts Od Tj Tk Tzz Ua. -/
import Derived.Test.YtgilmcpdpggikaaGreatDoorCTg
import Derived.Test.YtgilmcpdpggikaaGreatDoorCTy
import Derived.Test.YtgilmcpdpggikaaGreatDoorCTu
set_option maxRecDepth 100000
set_option maxHeartbeats 1000000
set_option linter.unusedSimpArgs false
set_option linter.unusedVariables false
namespace Go.Proofs.YtgilmcpdpggikaaGreatDoor
open Go Go.RowKit Go.Own
section
variable {P : Program} {n : Nat} {ops : Array Oper} {Q : Post} {rest : List Oper} {e : Env} {w : World} {tt : Nat} {pp : String} {af : Array Edge} {g : Option (Nat × Bool)} {d : Nat}
theorem midK {t el : TypeId} {x lo hi : Operand} {a : Option Addr} {m c sz by_ l h' : Nat} {zz : List Value} {k k' : IntKind} {il ih : Int} [E : ElC P t el sz by_ zz] (hw : wg n ops g e = true) (hd : Nat.blt d n = true) (hx : ev e x = .slice a m c) (hlo : ev e lo = .int k il) (hhi : ev e hi = .int k' ih) (hl : il = (l : Int)) (hh : ih = (h' : Int)) (h1 : l ≤ h') (h2 : h' ≤ c) (h : L P n ops Q rest (upd e d (.slice (subAddr a c l sz) (h' - l) (c - l))) w) : L P n ops Q (⟨some d, .slice t x (some lo) (some hi) none, tt, pp, af, g⟩ :: rest) e w := by
 obtain ⟨v, E', _⟩ := E.el
 obtain ⟨inf, i1, i2, i3, i4⟩ := E'.info
 refine L.val (o := ⟨some d, .slice t x (some lo) (some hi) none, tt, pp, af, g⟩) _ w hw hd (run_v (sm := Instr.sliceAt t (ev e x) (some (ev e lo)) (some (ev e hi)) none) rfl ?_) h
 rw [hx, hlo, hhi]
 simp [Instr.sliceAt, run_underlying E'.slice, Instr.slice, Instr.sliceBounds, Own.run_sliceBound hl h1, Own.run_sliceBound hh h2, sizeOf, typeInfo, i1, i3, subAddr]
end
section
variable {s : Ro} {w : World} {R : List Asn}
theorem src_mid {a : Option Addr} {c n k : Nat} {l : List UInt8} (h : Src s R (.slice a l.length c) 1 l.length (u8s l)) (hn : n + k ≤ l.length) : Src s R (.slice (subAddr a c n 1) ((l.drop n).take k).length (c - n)) 1 ((l.drop n).take k).length (u8s ((l.drop n).take k)) := by
 have e : ((l.drop n).take k).length = k := by rw [List.length_take, List.length_drop]; omega
 rw [e]
 have := h.sub (l := n) (m := n + k) (by omega) hn
 rw [Nat.mul_one, Nat.mul_one, u8s_drop, u8s_take, Nat.add_sub_cancel_left] at this
 exact this
theorem build_reader (a : Option Addr) (n c : Nat) (w : World) : (Instr.build 217 [(0, .slice a n c)].toArray).run Tryz.prog w = .ok (.agg #[.slice a n c, .int .i64 0, .int .i64 0]) w := by kernel_rfl
structure Rdr (s : Ro) (a : Option Addr) (c : Nat) (l : List UInt8) : Prop where
 sl : SlS s (.slice a l.length c) 1 l.length (u8s l)
 few : l.length ≤ 1000
theorem Rdr.mono {s s' : Ro} {a : Option Addr} {c : Nat} {l : List UInt8} (h : Rdr s a c l) (hs : s.Le s') : Rdr s' a c l := ⟨h.sl.mono hs, h.few⟩
theorem Read_o {l : List UInt8} {a : Option Addr} {c : Nat} (H : Holds s w R) (h : Src s R (.slice a l.length c) 1 l.length (u8s l)) (hl : l.length ≤ 1000) : Calls Tryz.prog 112 #[.slice a l.length c] w fun e w' => ∃ s' g aa cc, e = .returned (.pointer (some ⟨g, 0, none⟩)) ∧ s.Le s' ∧ Rdr s' aa cc l ∧ Holds s' w' (var g 217 [.slice aa l.length cc, .int .i64 0, .int .i64 0] :: R) := by
 refine enter Tryz.func112 rfl Tryz.ntmps112 rfl ?_
 refine Gq8 H ?_
 replace H := H.nilRow 5 1
 refine K.app0 0 H rfl h.skip (u8s_one _) (by unfold maxLen; omega) (by omega) rfl rfl rfl ?_
 clear H
 intro a1 c1 w H
 (try simp only [List.set_cons_zero, List.set_cons_succ, List.eraseIdx_cons_zero, List.eraseIdx_cons_succ] at H)
 obtain ⟨s1, hs1, H1, hd⟩ := H.fixRow
 clear H
 have H := H1
 clear H1
 refine K.build [(0, .slice a1 l.length c1)] (.agg #[.slice a1 l.length c1, .int .i64 0, .int .i64 0]) (build_reader _ _ _) rfl rfl rfl ?_
 (refine Gq8 H ?_; clear H; (try clear w); intro _ w H)
 exact ⟨_, resT rfl, s1, _, a1, c1, rfl, hs1, ⟨hd, hl⟩, H⟩
theorem Left_o {l : List UInt8} {g k c : Nat} {a : Option Addr} (H : Holds s w (var g 217 [.slice a l.length c, .int .i64 (k : Int), .int .i64 0] :: R)) (hr : Rdr s a c l) (hk : k ≤ l.length) : Calls Tryz.prog 148 #[.pointer (some ⟨g, 0, none⟩)] w fun e w' => e = .returned (.int .i64 ((l.length - k : Nat) : Int)) ∧ Holds s w' (var g 217 [.slice a l.length c, .int .i64 (k : Int), .int .i64 0] :: R) := by
 have := hr.few
 refine enter Tryz.func148 rfl Tryz.ntmps148 rfl ?_
 refine Gq8 H ?_
 refine C.drawn1 [0, 0, 0, 1, 0, 0, 0, 0, 1, 0, 0] [0, 1, 3, 7, 15, 0, 32, 96, 224, 511, 1023] (by kernel_rfl) ?_; replace H := H.drew
 refine Gq8 H ?_
 refine ⟨_, resT rfl, ?_, H⟩
 rw [show ((l.length - k : Nat) : Int) = (l.length : Int) - (k : Int) by omega]
 rfl
theorem take_o {l : List UInt8} {g k n c : Nat} {a : Option Addr} (H : Holds s w (var g 217 [.slice a l.length c, .int .i64 (k : Int), .int .i64 0] :: R)) (hr : Rdr s a c l) (hk : k + n ≤ l.length) : Calls Tryz.prog 136 #[.pointer (some ⟨g, 0, none⟩), .int .i64 (n : Int)] w fun e w' => e = .returned (.tuple #[.slice (subAddr a c k 1) ((l.drop k).take n).length (c - k), .bool true]) ∧ Holds s w' (var g 217 [.slice a l.length c, .int .i64 ((k + n : Nat) : Int), .int .i64 0] :: R) := by
 have := hr.few
 have e : ((l.drop k).take n).length = n := by rw [List.length_take, List.length_drop]; omega
 obtain ⟨_, _, hv, hc1, hc2⟩ := formS hr.sl
 cases hv
 rw [e]
 refine enter Tryz.func136 rfl Tryz.ntmps136 rfl ?_
 refine Gq8 H ?_
 (refine X.call (Left_o H hr (by omega)) ?_; (try clear H); rintro _ w ⟨rfl, H⟩; refine ⟨_, rfl, ?_⟩)
 refine Gq8 H ?_
 refine C.drawn1 [0, 0, 0, 1, 0, 0, 0, 1, 0, 0, 0, 1, 0, 0, 0, 0] [0, 1, 3, 7, 0, 16, 48, 112, 0, 256, 768, 1792, 0, 7936, 16383, 32767] (by kernel_rfl) ?_; replace H := H.drew
 repeat' (first | (refine midK (l := k) (h' := k + n) rfl rfl rfl rfl rfl rfl (by omega) (by omega) (by omega) ?_; rw [Nat.add_sub_cancel_left]) | refine Go8 H ?_ | (refine Gs8 H ?_; clear H; (try clear w); intro w H) | (refine Gn H ?_; clear H; (try clear w); intro _ w H))
 exact ⟨_, resTT rfl, rfl, H⟩
theorem Num_o {l : List UInt8} {g k n c : Nat} {a : Option Addr} (H : Holds s w (var g 217 [.slice a l.length c, .int .i64 (k : Int), .int .i64 0] :: R)) (hr : Rdr s a c l) (h1 : 1 ≤ n) (h8 : n ≤ 8) (hk : k + n ≤ l.length) : Calls Tryz.prog 114 #[.pointer (some ⟨g, 0, none⟩), .int .i64 (n : Int)] w fun e w' => e = .returned (.int .u64 (numN ((l.drop k).take n) : Int)) ∧ Holds s w' (var g 217 [.slice a l.length c, .int .i64 ((k + n : Nat) : Int), .int .i64 0] :: R) := by
 have e : ((l.drop k).take n).length = n := by rw [List.length_take, List.length_drop]; omega
 refine enter Tryz.func114 rfl Tryz.ntmps114 rfl ?_
 refine Gq8 H ?_
 (refine X.call (take_o (n := n) H hr hk) ?_; (try clear H); rintro _ w ⟨rfl, H⟩; refine ⟨_, rfl, ?_⟩)
 refine Gq8 H ?_
 (refine X.call (number_e H (src_mid (.ro hr.sl) hk) (by omega)) ?_; (try clear H); rintro _ w ⟨rfl, _, H⟩; refine ⟨_, rfl, ?_⟩)
 refine Gq8 H ?_
 exact ⟨_, resT rfl, rfl, H⟩
end
section
variable {s : Ro} {w : World} {R : List Asn}
theorem Bytes_o {l : List UInt8} {g k n c : Nat} {a : Option Addr} (H : Holds s w (var g 217 [.slice a l.length c, .int .i64 (k : Int), .int .i64 0] :: R)) (hr : Rdr s a c l) (hk : k + n ≤ l.length) : Calls Tryz.prog 115 #[.pointer (some ⟨g, 0, none⟩), .int .i64 (n : Int)] w fun e w' => ∃ s' aa cc, e = .returned (.slice aa ((l.drop k).take n).length cc) ∧ s.Le s' ∧ SlS s' (.slice aa ((l.drop k).take n).length cc) 1 ((l.drop k).take n).length (u8s ((l.drop k).take n)) ∧ Holds s' w' (var g 217 [.slice a l.length c, .int .i64 ((k + n : Nat) : Int), .int .i64 0] :: R) := by
 have := hr.few
 have e : ((l.drop k).take n).length = n := by rw [List.length_take, List.length_drop]; omega
 refine enter Tryz.func115 rfl Tryz.ntmps115 rfl ?_
 refine Gq8 H ?_
 (refine X.call (take_o (n := n) H hr hk) ?_; (try clear H); rintro _ w ⟨rfl, H⟩; refine ⟨_, rfl, ?_⟩)
 refine Gq8 H ?_
 replace H := H.nilRow 5 1
 refine K.app0 0 H rfl (Src.skip (Src.skip (src_mid (.ro hr.sl) hk))) (u8s_one _) (by unfold maxLen; omega) (by omega) rfl rfl rfl ?_
 clear H
 intro a1 c1 w H
 (try simp only [List.set_cons_zero, List.set_cons_succ, List.eraseIdx_cons_zero, List.eraseIdx_cons_succ] at H)
 obtain ⟨s1, hs1, H1, hd⟩ := H.fixRow
 clear H
 have H := H1
 clear H1
 refine Gq8 H ?_
 exact ⟨_, resT rfl, s1, a1, c1, rfl, hs1, hd, H⟩
theorem num_one {l : Str} {k : Nat} (hk : k + 1 ≤ l.length) : numN ((l.drop k).take 1) = (at8 l k).toNat := by
 have : (l.drop k).take 1 = [at8 l k] := by
  rw [List.drop_eq_getElem_cons (show k < l.length by omega), at8, List.getElem?_eq_getElem (show k < l.length by omega)]
  rfl
 rw [this]
 simp [numN, numI]
theorem get_o {l : List UInt8} {g k c gb : Nat} {a : Option Addr} (H : Holds s w (var g 217 [.slice a l.length c, .int .i64 (k : Int), .int .i64 0] :: var gb 196 [.pointer (some ⟨g, 0, none⟩)] :: R)) (hr : Rdr s a c l) (hk : k + 1 ≤ l.length) : Calls Tryz.prog 113 #[.pointer (some ⟨gb, 0, none⟩)] w fun e w' => e = .returned (.int .i64 ((at8 l k).toNat : Int)) ∧ Holds s w' (var g 217 [.slice a l.length c, .int .i64 ((k + 1 : Nat) : Int), .int .i64 0] :: var gb 196 [.pointer (some ⟨g, 0, none⟩)] :: R) := by
 have wr : IntKind.i64.wrap ((at8 l k).toNat : Int) = ((at8 l k).toNat : Int) := IntWalk.i64_in _ (by have := (at8 l k).toNat_lt; omega)
 refine enter Tryz.func113 rfl Tryz.ntmps113 rfl ?_
 refine Gq8 H ?_
 (refine X.call (Num_o (n := 1) H hr (by decide) (by decide) hk) ?_; (try clear H); rintro _ w ⟨rfl, H⟩; refine ⟨_, rfl, ?_⟩)
 rw [num_one hk]
 repeat' (first | (refine K.convI Tryz.underlying198 rfl rfl rfl ?_; rw [wr]) | refine Go8 H ?_ | (refine Gs8 H ?_; clear H; (try clear w); intro w H) | (refine Gn H ?_; clear H; (try clear w); intro _ w H))
 exact ⟨_, resT rfl, rfl, H⟩
def nodeR (l : Str) : Nd × Bool := match nodeM l with
 | none => (Nd.zero, false)
 | some n => (n, true)
theorem node_s {l : List UInt8} {a : Option Addr} {c : Nat} (H : Holds s w R) (h : Src s R (.slice a l.length c) 1 l.length (u8s l)) (hl : l.length = 40) : Calls Tryz.prog 89 #[.slice a l.length c] w fun e w' => ∃ s', e = .returned (.tuple #[.agg (nodeR l).1.cells.toArray, .bool (nodeR l).2]) ∧ s.Le s' ∧ Holds s' w' R := by
 refine enter Tryz.func89 rfl Tryz.ntmps89 rfl ?_
 repeat' (first | refine Z H ?_ | (refine Zc ?_ ?_ <;> intro hc <;> first | (exfalso; omega) | skip) | (refine Y ?_; try change C _ _ _ _ _ _) | (refine Zs H ?_; clear H; (try clear w); intro w H) | (refine Zn H ?_; clear H; (try clear w); (first | ((fail_if_success (have := bl1)); intro bl1 w H) | ((fail_if_success (have := bl2)); intro bl2 w H) | intro _ w H)) | (refine Ze H ?_; clear H; (try clear w); intro gv w H))
 (refine X.call (Read_o H (Src.skip h) (by omega)) ?_; (try clear H); rintro _ w ⟨s1, g, aa, cc, rfl, hs1, hr, H⟩; refine ⟨_, rfl, ?_⟩)
 repeat' (first | (refine B.fn ?_) | refine Z H ?_ | (refine Zc ?_ ?_ <;> intro hc <;> first | (exfalso; omega) | skip) | (refine Y ?_; try change C _ _ _ _ _ _) | (refine Zs H ?_; clear H; (try clear w); intro w H) | (refine Zn H ?_; clear H; (try clear w); (first | ((fail_if_success (have := bl1)); intro bl1 w H) | ((fail_if_success (have := bl2)); intro bl2 w H) | intro _ w H)) | (refine Ze H ?_; clear H; (try clear w); intro gv w H))
 replace H : Holds _ _ (var bl2 196 _ :: _) := tp H
 replace H : Holds _ _ (var g 217 _ :: _) := tp H
 refine B.call (get_o (l := l) (k := 0) H hr (by rw [hl]; decide)) ?_
 clear H
 rintro _ w ⟨rfl, H⟩
 refine ⟨_, rfl, ?_⟩
 repeat' (first | refine Z H ?_ | (refine Zc ?_ ?_ <;> intro hc <;> first | (exfalso; omega) | skip) | (refine Y ?_; try change C _ _ _ _ _ _) | (refine Zs H ?_; clear H; (try clear w); intro w H) | (refine Zn H ?_; clear H; (try clear w); (first | ((fail_if_success (have := bl1)); intro bl1 w H) | ((fail_if_success (have := bl2)); intro bl2 w H) | intro _ w H)) | (refine Ze H ?_; clear H; (try clear w); intro gv w H))
 refine B.call (get_o (l := l) (k := 0 + 1) H hr (by rw [hl]; decide)) ?_
 clear H
 rintro _ w ⟨rfl, H⟩
 refine ⟨_, rfl, ?_⟩
 repeat' (first | refine Z H ?_ | (refine Zc ?_ ?_ <;> intro hc <;> first | (exfalso; omega) | skip) | (refine Y ?_; try change C _ _ _ _ _ _) | (refine Zs H ?_; clear H; (try clear w); intro w H) | (refine Zn H ?_; clear H; (try clear w); (first | ((fail_if_success (have := bl1)); intro bl1 w H) | ((fail_if_success (have := bl2)); intro bl2 w H) | intro _ w H)) | (refine Ze H ?_; clear H; (try clear w); intro gv w H))
 refine B.call (get_o (l := l) (k := 0 + 1 + 1) H hr (by rw [hl]; decide)) ?_
 clear H
 rintro _ w ⟨rfl, H⟩
 refine ⟨_, rfl, ?_⟩
 repeat' (first | refine Z H ?_ | (refine Zc ?_ ?_ <;> intro hc <;> first | (exfalso; omega) | skip) | (refine Y ?_; try change C _ _ _ _ _ _) | (refine Zs H ?_; clear H; (try clear w); intro w H) | (refine Zn H ?_; clear H; (try clear w); (first | ((fail_if_success (have := bl1)); intro bl1 w H) | ((fail_if_success (have := bl2)); intro bl2 w H) | intro _ w H)) | (refine Ze H ?_; clear H; (try clear w); intro gv w H))
 (refine X.call (Bytes_o (l := l) (k := 0 + 1 + 1 + 1) (n := 8) H hr (by rw [hl]; decide)) ?_; (try clear H); rintro _ w ⟨s2, ba, bc, rfl, hs2, hbs, H⟩; refine ⟨_, rfl, ?_⟩)
 replace hr := hr.mono hs2
 have hn8 : ((l.drop (0 + 1 + 1 + 1)).take 8).length = 8 := by rw [List.length_take, List.length_drop]; omega
 rw [hn8] at hbs
 rw [hn8]
 repeat' (first | refine Z H ?_ | (refine Zc ?_ ?_ <;> intro hc <;> first | (exfalso; omega) | skip) | (refine Y ?_; try change C _ _ _ _ _ _) | (refine Zs H ?_; clear H; (try clear w); intro w H) | (refine Zn H ?_; clear H; (try clear w); (first | ((fail_if_success (have := bl1)); intro bl1 w H) | ((fail_if_success (have := bl2)); intro bl2 w H) | intro _ w H)) | (refine Ze H ?_; clear H; (try clear w); intro gv w H))
 refine B.call (get_o (l := l) (k := 0 + 1 + 1 + 1 + 8) H hr (by rw [hl]; decide)) ?_
 clear H
 rintro _ w ⟨rfl, H⟩
 refine ⟨_, rfl, ?_⟩
 repeat' (first | refine Z H ?_ | (refine Zc ?_ ?_ <;> intro hc <;> first | (exfalso; omega) | skip) | (refine Y ?_; try change C _ _ _ _ _ _) | (refine Zs H ?_; clear H; (try clear w); intro w H) | (refine Zn H ?_; clear H; (try clear w); (first | ((fail_if_success (have := bl1)); intro bl1 w H) | ((fail_if_success (have := bl2)); intro bl2 w H) | intro _ w H)) | (refine Ze H ?_; clear H; (try clear w); intro gv w H))
 refine B.call (get_o (l := l) (k := 0 + 1 + 1 + 1 + 8 + 1) H hr (by rw [hl]; decide)) ?_
 clear H
 rintro _ w ⟨rfl, H⟩
 refine ⟨_, rfl, ?_⟩
 repeat' (first | (refine K.iaA (i := 0) rfl rfl rfl rfl rfl (by decide) ?_) | refine Z H ?_ | (refine Zc ?_ ?_ <;> intro hc <;> first | (exfalso; omega) | skip) | (refine Y ?_; try change C _ _ _ _ _ _) | (refine Zs H ?_; clear H; (try clear w); intro w H) | (refine Zn H ?_; clear H; (try clear w); (first | ((fail_if_success (have := bl1)); intro bl1 w H) | ((fail_if_success (have := bl2)); intro bl2 w H) | intro _ w H)) | (refine Ze H ?_; clear H; (try clear w); intro gv w H))
 refine B.call (get_o (l := l) (k := 0 + 1 + 1 + 1 + 8 + 1 + 1) H hr (by rw [hl]; decide)) ?_
 clear H
 rintro _ w ⟨rfl, H⟩
 refine ⟨_, rfl, ?_⟩
 by_cases hlen0 : 8 < (at8 l (0 + 1 + 1)).toNat
 ·have hlen : 8 < (at8 l 2).toNat := hlen0
  have hno : nodeR l = (Nd.zero, false) := by unfold nodeR nodeM; rw [if_pos hlen]
  repeat' (first | (refine K.iaA (i := 1) rfl rfl rfl rfl rfl (by decide) ?_) | (refine K.build [] _ build_node0 rfl rfl rfl ?_) | refine Z H ?_ | (refine Zc ?_ ?_ <;> intro hc <;> first | (exfalso; omega) | skip) | (refine Y ?_; try change C _ _ _ _ _ _) | (refine Zs H ?_; clear H; (try clear w); intro w H) | (refine Zn H ?_; clear H; (try clear w); (first | ((fail_if_success (have := bl1)); intro bl1 w H) | ((fail_if_success (have := bl2)); intro bl2 w H) | intro _ w H)) | (refine Ze H ?_; clear H; (try clear w); intro gv w H))
  exact ⟨_, resVT (cs := Nd.zero.cells) H rfl, s2, by rw [hno]; rfl, hs1.trans hs2, H.tail.tail.tail.tail⟩
 have hlen : ¬ 8 < (at8 l 2).toNat := hlen0
 obtain ⟨nm, hnm⟩ : ∃ nm : Str, nm = ((l.drop 3).take 8).take (at8 l 2).toNat := ⟨_, rfl⟩
 have hnl : nm.length = (at8 l 2).toNat := by rw [hnm, List.length_take, List.length_take, List.length_drop]; omega
 have hbu : SlS s2 (.slice ba (at8 l 2).toNat bc) 1 nm.length (u8s nm) := by
  have h1 := hbs.upto (l := (at8 l 2).toNat) (by omega)
  rw [Nat.mul_one, u8s_take] at h1
  rw [hnl, hnm]
  exact h1
 have hbc : 8 ≤ bc := by
  obtain ⟨_, _, hv, h1, _⟩ := formS hbs
  cases hv
  exact h1
 have hno : nodeR l = (⟨(at8 l 0).toNat, (at8 l 1).toNat, nm, (at8 l 11).toNat, (at8 l 12).toNat, (at8 l 13).toNat⟩, true) := by unfold nodeR nodeM; rw [if_neg hlen, ← hnm]
 repeat' (first | (refine K.iaA (i := 1) rfl rfl rfl rfl rfl (by decide) ?_) | (refine K.upto (l := (at8 l 2).toNat) rfl rfl rfl rfl rfl (by omega) ?_) | (refine K.str (l := nm) H (.ro hbu) rfl rfl rfl ?_) | refine Z H ?_ | (refine Zc ?_ ?_ <;> intro hc <;> first | (exfalso; omega) | skip) | (refine Y ?_; try change C _ _ _ _ _ _) | (refine Zs H ?_; clear H; (try clear w); intro w H) | (refine Zn H ?_; clear H; (try clear w); (first | ((fail_if_success (have := bl1)); intro bl1 w H) | ((fail_if_success (have := bl2)); intro bl2 w H) | intro _ w H)) | (refine Ze H ?_; clear H; (try clear w); intro gv w H))
 --DBG
 exact ⟨_, resVT (cs := Nd.cells ⟨(at8 l 0).toNat, (at8 l 1).toNat, nm, (at8 l 11).toNat, (at8 l 12).toNat, (at8 l 13).toNat⟩) H rfl, s2, by rw [hno]; rfl, hs1.trans hs2, H.tail.tail.tail.tail⟩
end
theorem nodesM_snoc {p : Str} : ∀ {l : List Str}, nodesM (l ++ [p]) = (nodesM l).bind fun nd => (nodeM p).map fun n => nd ++ [n]
 | [] => by
  simp only [List.nil_append, nodesM, Option.bind_some]
  cases nodeM p <;> rfl
 | b :: l => by
  rw [List.cons_append, nodesM, nodesM, nodesM_snoc]
  cases nodeM b with
  | none => rfl
  | some n =>
   cases nodesM l with
   | none => rfl
   | some nd =>
    cases nodeM p <;> rfl
theorem nodesM_none {p : Str} : ∀ {l : List Str}, p ∈ l → nodeM p = none → nodesM l = none
 | b :: l, h, hn => by
  rw [nodesM]
  rcases List.mem_cons.1 h with rfl | h
  ·rw [hn]; rfl
  ·rw [nodesM_none h hn]; cases nodeM b <;> rfl
theorem nodesM_len : ∀ {l : List Str} {nd : List Nd}, nodesM l = some nd → nd.length = l.length
 | [], nd, h => by cases h; rfl
 | b :: l, nd, h => by
  rw [nodesM] at h
  cases hb : nodeM b with
  | none => rw [hb] at h; cases h
  | some n =>
   rw [hb] at h
   cases hl : nodesM l with
   | none => rw [hl] at h; cases h
   | some m =>
    rw [hl] at h
    cases h
    rw [List.length_cons, nodesM_len hl, List.length_cons]
theorem setMid {α : Type} {l : List α} {z x : α} {k i : Nat} (h : l.length = i) (hk : 0 < k) : (l ++ List.replicate k z).set i x = (l ++ [x]) ++ List.replicate (k - 1) z := by
 subst h
 obtain ⟨k, rfl⟩ : ∃ j, k = j + 1 := ⟨k - 1, by omega⟩
 rw [List.set_append_right _ _ (Nat.le_refl _), Nat.sub_self, List.replicate_succ, List.set_cons_zero]
 simp
section
variable {n : Nat} {ops : Array Oper} {Q : Post} {rest : List Oper} {e : Env} {w : World} {s : Ro} {rs R : List Asn} {tt : Nat} {pp : String} {af : Array Edge} {g : Option (Nat × Bool)} {d : Nat}
theorem parse_t {ps : List Str} {vl : List Value} {a : Option Addr} {c : Nat} (H : Holds s w R) (h : SlS s (.slice a ps.length c) 1 ps.length vl) (hv : PgsV s vl ps) (hp : ps.length ≤ 1000000) (hpl : ∀ p ∈ ps, p.length ≤ 1000000) : Calls Tryz.prog 57 #[.slice a ps.length c] w fun e w' => ∃ s', e = .returned (.tuple #[.agg (parseM ps).1.cells.toArray, .int .i64 (parseM ps).2]) ∧ s.Le s' ∧ Holds s' w' R := by
 have hz := TR.ok_zero
 refine enter Tryz.func57 rfl Tryz.ntmps57 rfl ?_
 by_cases h16 : ps.length = 16
 rotate_left
 ·have ep : parseM ps = (TR.zero, 1) := by rw [parseM, if_pos (.inl h16)]
  (refine Gq4 H ?_; clear H; (try clear w); intro bl1 w H)
  exact ⟨_, resVT (cs := TR.zero.cells) H rfl rfl inferInstance (TR.cells_len hz), s, by rw [ep]; rfl, Ro.Le.refl s, H.tail⟩
 have hvl : vl.length = 16 := by rw [hv.1, h16]
 have hel : ∀ (i : Nat) (hi : i < ps.length), ∃ (gb o : Nat) (ai : Option Addr) (ci : Nat), a = some ⟨gb, o, none⟩ ∧ Pin s gb (o + i * 1) (.slice ai (ps[i]).length ci) ∧ SlS s (.slice ai (ps[i]).length ci) 1 (ps[i]).length (u8s ps[i]) := by
  intro i hi
  obtain ⟨gb, o, c', hv', _, _, hpn⟩ := posS h (by omega) (by decide)
  cases hv'
  obtain ⟨ai, ci, h1, h2⟩ := hv.2 i ps[i] (List.getElem?_eq_getElem hi)
  exact ⟨gb, o, ai, ci, rfl, by rw [Nat.mul_one]; exact hpn i _ h1, h2⟩
 (refine Gq4 H ?_; clear H; (try clear w); intro bl1 w H)
 refine C.loopH H [3, 5, 19, 20, 21, 22, 23, 24, 25, 26, 27] [19] rfl (fun m vs => ∃ i : Nat, m = 16 - i ∧ i ≤ 16 ∧ vs = [.int .i64 (i : Int)] ∧ ∀ (j : Nat) (hj : j < ps.length), j < i → (ps[j]).length = 40) 16 ⟨0, rfl, by omega, rfl, fun j hj h0 => absurd h0 (by omega)⟩ ?_
 clear H
 rintro m vs hv1 w ⟨i, rfl, hi, rfl, hall⟩ H
 by_cases hlt : i < 16
 ·obtain ⟨gb, o, ai, ci, rfl, pn, hsl⟩ := hel i (by omega)
  have hb := hpl ps[i] (List.getElem_mem _)
  by_cases h40 : (ps[i]).length = 40
  ·refine Gq4 H ?_
   exact ⟨agr, 16 - (i + 1), by omega, ⟨i + 1, rfl, by omega, rfl, fun j hj hji => by
    by_cases e : j = i
    ·subst e; exact h40
    ·exact hall j hj (by omega)⟩, H⟩
  ·have ep : parseM ps = (TR.zero, 1) := by rw [parseM, if_pos (.inr ⟨_, List.getElem_mem _, h40⟩)]
   (refine Gq4 H ?_; clear H; (try clear w); intro w H)
   exact ⟨_, resVT (cs := TR.zero.cells) H rfl rfl inferInstance (TR.cells_len hz), s, by rw [ep]; rfl, Ro.Le.refl s, H.tail⟩
 obtain rfl : i = 16 := by omega
 have hall' : ∀ (j : Nat) (hj : j < ps.length), (ps[j]).length = 40 := fun j hj => hall j hj (by omega)
 have ep : parseM ps = match nodesM (ps.take 8) with
   | none => (TR.zero, 3)
   | some nd => if pagesM ⟨nd, ps.drop 8⟩ ≠ ps ∧ pagesM ⟨nd, ps.drop 8⟩ ≠ [] then (TR.zero, 3) else if checkM ⟨nd, ps.drop 8⟩ = false then (TR.zero, 3) else (⟨nd, ps.drop 8⟩, 0) := by
  rw [parseM, if_neg]
  rfl
  rintro (h' | ⟨p, hm, h'⟩)
  ·exact h' h16
  ·obtain ⟨j, hj, rfl⟩ := List.mem_iff_getElem.1 hm
   exact h' (hall' j hj)
 clear hall hpl hp
 (refine Gq4 H ?_; clear H; (try clear w); intro bl2 w H)
 have htl8 : (ps.take 8).length = 8 := by rw [List.length_take, h16]; rfl
 refine C.loopS [3, 7, 8, 9, 28, 29, 30, 31, 32, 33, 34, 35, 36, 37, 38, 39, 40, 41, 42, 43, 44, 45, 46] [28] rfl (fun m vs w => ∃ (i : Nat) (s1 : Ro) (nd : List Nd), m = 8 - i ∧ i ≤ 8 ∧ vs = [.int .i64 (i : Int)] ∧ s.Le s1 ∧ nodesM (ps.take i) = some nd ∧ Holds s1 w (var bl2 41 (TR.cells ⟨nd ++ List.replicate (8 - i) Nd.zero, TR.zero.bl⟩) :: var bl1 41 TR.zero.cells :: R)) 8 ⟨0, s, [], rfl, by omega, rfl, Ro.Le.refl s, rfl, H⟩ ?_
 clear H
 rintro m vs hv2 w ⟨i, s1, nd, rfl, hi, rfl, hs1, hnd, H⟩
 have hndl := nodesM_len hnd
 rw [List.length_take, h16, Nat.min_eq_left (by omega)] at hndl
 have hu : (TR.mk (nd ++ List.replicate (8 - i) Nd.zero) TR.zero.bl).Ok := ⟨by simp [hndl]; omega, rfl, TR.ok_zero.b40⟩
 by_cases hlt : i < 8
 ·obtain ⟨gb, o, ai, ci, rfl, pn0, hsl0⟩ := hel i (by omega)
  have pn := pn0.mono hs1
  have hsl := hsl0.mono hs1
  have h40 := hall' i (by omega)
  have htk : ps.take (i + 1) = ps.take i ++ [ps[i]] := List.take_succ_eq_append_getElem (by omega)
  refine Gq4 H ?_
  (refine X.call (node_s H (.ro hsl) h40) ?_; (try clear H); rintro _ w ⟨s2, rfl, hs2, H⟩; refine ⟨_, rfl, ?_⟩)
  cases hno : nodeM ps[i] with
  | none =>
   have hnr : nodeR ps[i] = (Nd.zero, false) := by unfold nodeR; rw [hno]
   rw [hnr]
   have ep2 : parseM ps = (TR.zero, 3) := by
    rw [ep, nodesM_none (p := ps[i]) (by rw [List.mem_iff_getElem]; exact ⟨i, by omega, by rw [List.getElem_take]⟩) hno]
   (refine Gq4 H ?_; clear H; (try clear w); intro _ w H)
   exact ⟨_, resVT (cs := TR.zero.cells) H rfl rfl inferInstance (TR.cells_len hz), s2, by rw [ep2]; rfl, hs1.trans hs2, H.tail.tail.tail⟩
  | some x =>
   have hnr : nodeR ps[i] = (x, true) := by unfold nodeR; rw [hno]
   rw [hnr]
   repeat' (first | (refine K.iaA (i := i) rfl rfl rfl rfl rfl hlt ?_) | (refine X.stM (ys := x.cells) i 0 x hu hlt (Nat.le_refl 6) (by simp [putL, Nd.cells]) rfl rfl H ?_; clear H; (try clear w); intro w H) | refine Go4 H ?_ | (refine Gs4 H ?_; clear H; (try clear w); intro w H) | (refine Gn H ?_; clear H; (try clear w); (first | ((fail_if_success (have := bl1)); intro bl1 w H) | ((fail_if_success (have := bl2)); intro bl2 w H) | intro _ w H)))
   have htr : (TR.mk (nd ++ List.replicate (8 - i) Nd.zero) TR.zero.bl).set i x = ⟨(nd ++ [x]) ++ List.replicate (8 - (i + 1)) Nd.zero, TR.zero.bl⟩ := by
    unfold TR.set
    rw [setMid hndl (by omega), show 8 - i - 1 = 8 - (i + 1) by omega]
   exact ⟨agr, 8 - (i + 1), by omega, i + 1, s2, nd ++ [x], rfl, by omega, rfl, hs1.trans hs2, by rw [htk, nodesM_snoc, hnd, hno]; rfl, by rw [← htr]; exact H.tail⟩
 obtain rfl : i = 8 := by omega
 rw [Nat.sub_self, List.replicate_zero, List.append_nil] at H hu
 clear hlt hi
 refine Gq4 H ?_
 refine C.loopR H [10, 47, 48, 49, 50, 51, 52, 53, 54, 55, 56, 57, 58, 59, 60] [47] rfl (fun m vs A => ∃ i : Nat, m = 8 - i ∧ i ≤ 8 ∧ vs = [.int .i64 (i : Int)] ∧ A = var bl2 41 (TR.cells ⟨nd, (ps.drop 8).take i ++ List.replicate (8 - i) (List.replicate 40 0)⟩)) 8 ⟨0, rfl, by omega, rfl, rfl⟩ ?_
 clear H
 rintro m vs hv3 w A ⟨i, rfl, hi, rfl, rfl⟩ H
 have htl : ((ps.drop 8).take i).length = i := by rw [List.length_take, List.length_drop, h16]; omega
 have hub : (TR.mk nd ((ps.drop 8).take i ++ List.replicate (8 - i) (List.replicate 40 0))).Ok := ⟨hndl, by simp [h16]; omega, fun b hb => by
  rcases List.mem_append.1 hb with hb | hb
  ·obtain ⟨j, hj, rfl⟩ := List.mem_iff_getElem.1 (List.mem_of_mem_drop (List.mem_of_mem_take hb))
   exact hall' j hj
  ·rw [List.eq_of_mem_replicate hb]; rfl⟩
 by_cases hlt : i < 8
 ·obtain ⟨gb, o, ai, ci, rfl, pn0, hsl0⟩ := hel (8 + i) (by omega)
  have pn := pn0.mono hs1
  have hsl := hsl0.mono hs1
  have h40 := hall' (8 + i) (by omega)
  have htk : (ps.drop 8).take (i + 1) = (ps.drop 8).take i ++ [ps[8 + i]] := by
   rw [List.take_succ_eq_append_getElem (by rw [List.length_drop]; omega), List.getElem_drop]
  have hcl := TR.cells_len hub
  refine Gq4 H ?_
  refine C.drawn1 [0, 0, 0, 0, 0, 0, 0, 0, 1, 3] [0, 0, 3, 7, 0, 0, 32, 112, 240, 511] (by kernel_rfl) ?_; replace H := H.drew
  repeat' (first | (refine K.ia (i := 8 + i) rfl rfl rfl rfl (by omega) (by omega) ?_) | (refine K.iaA (i := i) rfl rfl rfl rfl rfl hlt ?_) | refine Go4 H ?_ | (refine Gs4 H ?_; clear H; (try clear w); intro w H) | (refine Gn H ?_; clear H; (try clear w); (first | ((fail_if_success (have := bl1)); intro bl1 w H) | ((fail_if_success (have := bl2)); intro bl2 w H) | intro _ w H)))
  have hput : (TR.cells ⟨nd, (ps.drop 8).take i ++ List.replicate (8 - i) (List.replicate 40 0)⟩).take (48 + i * 40) ++ ((u8s ps[8 + i]).take 40 ++ (TR.cells ⟨nd, (ps.drop 8).take i ++ List.replicate (8 - i) (List.replicate 40 0)⟩).drop (48 + i * 40 + 40)) = TR.cells ⟨nd, (ps.drop 8).take (i + 1) ++ List.replicate (8 - (i + 1)) (List.replicate 40 0)⟩ := by
   have h1 := TR.put_block hub hlt h40
   rw [putL, u8s_len, h40] at h1
   rw [List.take_of_length_le (l := u8s ps[8 + i]) (by rw [u8s_len, h40]; omega), ← List.append_assoc, h1, TR.setB]
   rw [setMid htl (by omega), htk, show 8 - i - 1 = 8 - (i + 1) by omega]
  refine K.copyV 0 H rfl (.ro hsl) (u8s_one _) (q := 40) (by rw [h40]; rfl) (by rw [hcl]; omega) rfl rfl rfl ?_
  clear H
  intro w H
  rw [List.set_cons_zero, hput] at H
  refine Gq4 H ?_
  exact ⟨agr, 8 - (i + 1), by omega, _, ⟨i + 1, rfl, by omega, rfl, rfl⟩, H⟩
 obtain rfl : i = 8 := by omega
 rw [Nat.sub_self, List.replicate_zero, List.append_nil, List.take_of_length_le (by rw [List.length_drop, h16]; omega)] at H hub
 clear hlt hi htl hu
 obtain ⟨T, hT⟩ : ∃ T, T = TR.mk nd (ps.drop 8) := ⟨_, rfl⟩
 have ep3 : parseM ps = if pagesM T ≠ ps ∧ pagesM T ≠ [] then (TR.zero, 3) else if checkM T = false then (TR.zero, 3) else (T, 0) := by rw [ep, hnd, hT]
 rw [← hT] at H hub
 clear ep hnd hndl hT
 refine Gq4 H ?_
 (refine X.call (Pages_t H hub) ?_; (try clear H); rintro _ w ⟨s2, a2, c2, vl2, rfl, hs2, hpv, H⟩; refine ⟨_, rfl, ?_⟩)
 obtain ⟨s3, hs3, H1, hr2⟩ := H.fixRow
 clear H
 have H := H1
 clear H1
 replace hpv := hpv.mono hs3
 have hs13 := hs1.trans (hs2.trans hs3)
 have hle : (pagesM T).length = 0 ∨ (pagesM T).length = 16 := by
  unfold pagesM
  split
  ·exact .inl rfl
  ·exact .inr (by rw [List.length_append, List.length_map, hub.n8, hub.b8])
 have hel2 : ∀ (i : Nat) (hi : i < (pagesM T).length), ∃ (gb o : Nat) (ai : Option Addr) (ci : Nat), a2 = some ⟨gb, o, none⟩ ∧ Pin s3 gb (o + i * 1) (.slice ai ((pagesM T)[i]).length ci) ∧ SlS s3 (.slice ai ((pagesM T)[i]).length ci) 1 ((pagesM T)[i]).length (u8s (pagesM T)[i]) := by
  intro i hi
  obtain ⟨gb, o, c', hv', _, _, hpn⟩ := posS hr2 (by omega) (by decide)
  cases hv'
  obtain ⟨ai, ci, h1, h2⟩ := hpv.2 i (pagesM T)[i] (List.getElem?_eq_getElem hi)
  exact ⟨gb, o, ai, ci, rfl, by rw [Nat.mul_one]; exact hpn i _ h1, h2⟩
 refine Gq4 H ?_
 refine C.loopH H [3, 11, 12, 64, 65, 66, 67, 68, 69, 70, 71, 72, 73, 74, 75, 76, 77] [64] rfl (fun m vs => ∃ i : Nat, m = 16 - i ∧ i ≤ (pagesM T).length ∧ vs = [.int .i64 (i : Int)] ∧ ∀ j : Nat, j < i → (pagesM T)[j]? = ps[j]?) 16 ⟨0, rfl, by omega, rfl, fun j h0 => absurd h0 (by omega)⟩ ?_
 clear H
 rintro m vs hv4 w ⟨i, rfl, hi, rfl, hall⟩ H
 by_cases hlt : i < (pagesM T).length
 ·obtain ⟨gb, o, ai, ci, rfl, pn, hsl⟩ := hel2 i hlt
  obtain ⟨gb', o', ai', ci', rfl, pn0, hsl0⟩ := hel i (by omega)
  have pn' := pn0.mono hs13
  have hsl' := hsl0.mono hs13
  have h40 := hall' i (by omega)
  refine Gq4 H ?_
  have hE := Equal_t H (.ro hsl) (.ro hsl')
  by_cases heq : (pagesM T)[i] = ps[i]'(by omega)
  ·rw [decide_eq_true heq] at hE
   (refine X.call (hE) ?_; (try clear H); rintro _ w ⟨rfl, H⟩; refine ⟨_, rfl, ?_⟩)
   clear hE
   refine Gq4 H ?_
   exact ⟨agr, 16 - (i + 1), by omega, ⟨i + 1, rfl, by omega, rfl, fun j hj => by
    by_cases e : j = i
    ·subst e
     rw [List.getElem?_eq_getElem hlt, List.getElem?_eq_getElem (show j < ps.length by omega), heq]
    ·exact hall j (by omega)⟩, H⟩
  ·rw [decide_eq_false heq] at hE
   (refine X.call (hE) ?_; (try clear H); rintro _ w ⟨rfl, H⟩; refine ⟨_, rfl, ?_⟩)
   clear hE
   have ep2 : parseM ps = (TR.zero, 3) := by
    rw [ep3, if_pos]
    refine ⟨fun h => heq ?_, fun h => ?_⟩
    ·have h1 : (pagesM T)[i]? = ps[i]? := by rw [h]
     rw [List.getElem?_eq_getElem hlt, List.getElem?_eq_getElem (show i < ps.length by omega)] at h1
     exact Option.some.inj h1
    ·have : (pagesM T).length = 0 := by rw [h]; rfl
     omega
   (refine Gq4 H ?_; clear H; (try clear w); intro w H)
   exact ⟨_, resVT (cs := TR.zero.cells) H rfl rfl inferInstance (TR.cells_len hz), s3, by rw [ep2]; rfl, hs13, H.tail.tail⟩
 have hor : ¬ (pagesM T ≠ ps ∧ pagesM T ≠ []) := by
  rintro ⟨n1, n2⟩
  rcases hle with h0 | h1
  ·exact n2 (List.eq_nil_of_length_eq_zero h0)
  ·exact n1 (List.ext_getElem? fun j => by
    by_cases hj : j < 16
    ·exact hall j (by omega)
    ·rw [List.getElem?_eq_none (by omega), List.getElem?_eq_none (by omega)])
 rw [if_neg hor] at ep3
 refine Gq4 H ?_
 have hC := Check_s H hub
 by_cases hchk : checkM T = true
 ·rw [hchk] at hC
  rw [if_neg (by simp [hchk])] at ep3
  (refine X.call (hC) ?_; (try clear H); rintro _ w ⟨rfl, H⟩; refine ⟨_, rfl, ?_⟩)
  clear hC
  (refine Gq4 H ?_; clear H; (try clear w); intro w H)
  exact ⟨_, resVT (cs := T.cells) H rfl rfl inferInstance (TR.cells_len hub), s3, by rw [ep3]; rfl, hs13, H.tail.tail⟩
 ·rw [show checkM T = false by simpa using hchk] at hC
  rw [if_pos (by simpa using hchk)] at ep3
  (refine X.call (hC) ?_; (try clear H); rintro _ w ⟨rfl, H⟩; refine ⟨_, rfl, ?_⟩)
  clear hC
  (refine Gq4 H ?_; clear H; (try clear w); intro w H)
  exact ⟨_, resVT (cs := TR.zero.cells) H rfl rfl inferInstance (TR.cells_len hz), s3, by rw [ep3]; rfl, hs13, H.tail.tail⟩
end
theorem byteOf_back {v : Int} (h0 : 0 ≤ v) (h1 : v < 256) : ((byteOf v).toNat : Int) = v := by
 unfold byteOf
 rw [UInt8.toNat_ofNat']
 omega
theorem pageM_eq {n : Nd} (h : n.name.length ≤ 8) : ∃ z : Str, pageM n = byteOf n.kind :: byteOf n.parent :: byteOf n.name.length :: (padTo 8 n.name ++ ([byteOf n.size, byteOf n.b0, byteOf n.b1] ++ z)) := by
 have h8 := pad8_len h
 refine ⟨List.replicate 26 0, ?_⟩
 unfold pageM
 rw [padTo, List.take_of_length_le (by simp [h8])]
 simp [h8]
theorem node_page {n : Nd} (h : NdB n) : nodeM (pageM n) = some n := by
 obtain ⟨z, e⟩ := pageM_eq h.nm
 have h8 := pad8_len h.nm
 have a0 : at8 (pageM n) 0 = byteOf n.kind := by rw [e]; rfl
 have a1 : at8 (pageM n) 1 = byteOf n.parent := by rw [e]; rfl
 have a2 : at8 (pageM n) 2 = byteOf n.name.length := by rw [e]; rfl
 have a3 : ∀ k : Nat, at8 (pageM n) (11 + k) = (([byteOf n.size, byteOf n.b0, byteOf n.b1] ++ z : Str)[k]?).getD 0 := by
  intro k
  unfold at8
  rw [e, show 11 + k = (8 + k) + 1 + 1 + 1 by omega, List.getElem?_cons_succ, List.getElem?_cons_succ, List.getElem?_cons_succ, List.getElem?_append_right (by omega), h8, show 8 + k - 8 = k by omega]
 have b0 : at8 (pageM n) 11 = byteOf n.size := a3 0
 have b1 : at8 (pageM n) 12 = byteOf n.b0 := a3 1
 have b2 : at8 (pageM n) 13 = byteOf n.b1 := a3 2
 have hlen : (byteOf n.name.length).toNat = n.name.length := by
  have := byteOf_back (v := (n.name.length : Int)) (by omega) (by have := h.nm; omega)
  omega
 have hd : ((pageM n).drop 3).take 8 = padTo 8 n.name := by
  rw [e]
  show (padTo 8 n.name ++ _).take 8 = _
  rw [List.take_append_of_le_length (by omega), List.take_of_length_le (by omega)]
 have hp : (padTo 8 n.name).take n.name.length = n.name := by
  unfold padTo
  rw [List.take_of_length_le h.nm, List.take_append_of_le_length (Nat.le_refl _), List.take_length]
 unfold nodeM
 rw [a0, a1, a2, b0, b1, b2, hlen, hd, hp, if_neg (by have := h.nm; omega), byteOf_back h.k0 h.k1, byteOf_back h.p0 h.p1, byteOf_back h.s0 h.s1, byteOf_back h.b0 h.b1, byteOf_back h.c0 h.c1]
theorem nodes_pages : ∀ {l : List Nd}, (∀ n ∈ l, NdB n) → nodesM (l.map pageM) = some l
 | [], _ => rfl
 | n :: l, h => by
  rw [List.map_cons, nodesM, node_page (h n (by simp)), Option.bind_some, nodes_pages (fun m hm => h m (by simp [hm]))]
  rfl
theorem ndb_all {t : TR} (ht : t.Ok) (h : checkM t = true) : ∀ n ∈ t.nd, NdB n := by
 intro n hn
 obtain ⟨i, hi, rfl⟩ := List.mem_iff_getElem.1 hn
 rw [ht.n8] at hi
 rw [← TR.n_get ht hi]
 exact ndb_of h hi
theorem pages_eq {t : TR} (h : checkM t = true) : pagesM t = t.nd.map pageM ++ t.bl := by rw [pagesM, if_neg (by simp [h])]
theorem pages_len {t : TR} (ht : t.Ok) (h : checkM t = true) : (pagesM t).length = 16 := by rw [pages_eq h, List.length_append, List.length_map, ht.n8, ht.b8]
theorem pages_40 {t : TR} (ht : t.Ok) (h : checkM t = true) : ∀ p ∈ pagesM t, p.length = 40 := by
 intro p hp
 rw [pages_eq h] at hp
 rcases List.mem_append.1 hp with hp | hp
 ·obtain ⟨n, hn, rfl⟩ := List.mem_map.1 hp
  exact pageM_len (ndb_all ht h n hn).nm
 ·exact ht.b40 p hp
theorem parse_pages {t : TR} (ht : t.Ok) (h : checkM t = true) : parseM (pagesM t) = (t, 0) := by
 have hl := pages_len ht h
 have e1 : (pagesM t).take 8 = t.nd.map pageM := by
  rw [pages_eq h, List.take_append_of_le_length (by rw [List.length_map, ht.n8]; omega), List.take_of_length_le (by rw [List.length_map, ht.n8]; omega)]
 have e2 : (pagesM t).drop 8 = t.bl := by
  have h8 : (t.nd.map pageM).length = 8 := by rw [List.length_map, ht.n8]
  rw [pages_eq h, List.drop_append, List.drop_of_length_le (by omega), h8]
  rfl
 have hn : nodesM ((pagesM t).take 8) = some t.nd := by rw [e1]; exact nodes_pages (ndb_all ht h)
 unfold parseM
 rw [if_neg (by
  rintro (h' | ⟨p, hp, h'⟩)
  ·exact h' hl
  ·exact h' (pages_40 ht h p hp)), hn, e2]
 show (if pagesM t ≠ pagesM t ∧ pagesM t ≠ [] then _ else _) = _
 rw [if_neg (by rintro ⟨h', _⟩; exact h' rfl)]
 show (if checkM t = false then _ else _) = _
 rw [if_neg (by simp [h])]
def SameP (t t' : TR) : Prop := ∀ j, (t'.n j).parent = (t.n j).parent ∧ (t'.n j).name = (t.n j).name ∧ (t'.n j).kind = (t.n j).kind
theorem child_same {t t' : TR} (h : SameP t t') {d : Int} {nm : Str} : childM t' d nm = childM t d nm := by
 have key : ∀ (f i : Nat), childFrom t' d nm f i = childFrom t d nm f i := by
  intro f
  induction f with
  | zero => intro i; rfl
  | succ f ih =>
   intro i
   rw [childFrom, childFrom, (h i).1, (h i).2.1, (h i).2.2, ih]
 exact key 7 1
theorem walk_same {t t' : TR} (h : SameP t t') : ∀ (l : List Str) (a : Int), walkM t' l a = walkM t l a
 | [], a => rfl
 | nm :: l, a => by
  rw [walkM, walkM, (h _).2.2, child_same h, walk_same h]
theorem find_same {t t' : TR} (h : SameP t t') (p : Str) : findM t' p = findM t p := by
 unfold findM
 split
 ·exact walk_same h _ _
 ·rfl
def bytesOf (t : TR) (f : Nat) : Str := (List.range (t.n f).size.toNat).map fun i => peekM t f i
theorem read_all {t : TR} {p : Str} {f : Nat} (hc : checkM t = true) (hf : findM t p = ((f : Int), 0)) (hk : (t.n f).kind = 2) (h80 : (t.n f).size ≤ 80) : readM t p 0 80 = (bytesOf t f, 0) := by
 have hko : kindOfM t p 2 = ((f : Int), 0) := by
  unfold kindOfM
  rw [hf, if_neg (by simp), if_neg (by rw [Int.toNat_natCast]; simpa using hk)]
 unfold readM
 rw [if_neg (by simp [hc]), hko, if_neg (by simp), if_neg (by omega)]
 rw [Int.toNat_natCast]
 split
 ·rename_i h
  unfold bytesOf
  rw [show (t.n f).size.toNat = 0 by omega]
  rfl
 ·unfold bytesOf
  have e : (least 80 ((t.n f).size - 0)).toNat = (t.n f).size.toNat := by unfold least; split <;> omega
  rw [e]
  congr 1
  refine List.map_congr_left (fun i _ => ?_)
  show peekM t f (0 + i) = _
  rw [Nat.zero_add]
theorem peek_poke {u : TR} (hu : u.Ok) {f p i : Nat} {c : UInt8} (hp : 0 < (u.n f).blk (p / 40) ∧ (u.n f).blk (p / 40) ≤ 8) (hi : 0 < (u.n f).blk (i / 40) ∧ (u.n f).blk (i / 40) ≤ 8) (hd : i / 40 ≠ p / 40 → (u.n f).blk (i / 40) ≠ (u.n f).blk (p / 40)) : peekM (pokeM u f p c) f i = if i = p then c else peekM u f i := by
 have hn : (pokeM u f p c).n f = u.n f := rfl
 unfold peekM
 rw [hn]
 by_cases e : i = p
 ·subst e
  rw [if_pos rfl]
  unfold pokeM
  rw [TR.b_setB hu (by omega), if_pos rfl, List.getElem?_set_self (by rw [TR.b_len hu (by omega)]; exact Nat.mod_lt _ (by omega))]
  rfl
 ·rw [if_neg e, poke_other hu hp (q := i % 40)]
  rintro ⟨h1, h2⟩
  have h3 : (u.n f).blk (p / 40) = (u.n f).blk (i / 40) := by omega
  by_cases e2 : i / 40 = p / 40
  ·have := Nat.div_add_mod i 40
   have := Nat.div_add_mod p 40
   rw [e2] at *
   omega
  ·exact hd e2 h3.symm
theorem peek_pokes {f : Nat} : ∀ {l : Str} {u : TR} {p i : Nat}, u.Ok → (∀ k : Nat, p ≤ k → k < p + l.length → 0 < (u.n f).blk (k / 40) ∧ (u.n f).blk (k / 40) ≤ 8) → (0 < (u.n f).blk (i / 40) ∧ (u.n f).blk (i / 40) ≤ 8) → (∀ k : Nat, p ≤ k → k < p + l.length → i / 40 ≠ k / 40 → (u.n f).blk (i / 40) ≠ (u.n f).blk (k / 40)) →
  peekM (pokesM u f p l) f i = if p ≤ i ∧ i < p + l.length then l[i - p]?.getD 0 else peekM u f i
 | [], u, p, i, _, _, _, _ => by rw [pokesM, if_neg (by simp only [List.length_nil]; omega)]
 | c :: l, u, p, i, hu, hb, hi, hd => by
  have hbp := hb p (Nat.le_refl _) (by simp)
  rw [pokesM, peek_pokes (ok_poke hu hbp) (fun k h1 h2 => hb k (by omega) (by simp only [List.length_cons]; omega)) hi (fun k h1 h2 => hd k (by omega) (by simp only [List.length_cons]; omega)), peek_poke hu hbp hi (hd p (Nat.le_refl _) (by simp))]
  simp only [List.length_cons]
  by_cases h1 : p + 1 ≤ i ∧ i < p + 1 + l.length
  ·rw [if_pos h1, if_pos (by omega), show i - p = (i - (p + 1)) + 1 by omega, List.getElem?_cons_succ]
  ·rw [if_neg h1]
   by_cases e : i = p
   ·subst e
    rw [if_pos rfl, if_pos (by omega), Nat.sub_self]
    rfl
   ·rw [if_neg e, if_neg (by omega)]
end Go.Proofs.YtgilmcpdpggikaaGreatDoor

/- octet's Reader. package tree, walked: node. -/
import Derived.Test.YtlchnabnhimlcaaTkTg
import Derived.Test.YtlchnabnhimlcaaTkTy
set_option linter.unusedSimpArgs false
set_option linter.unusedVariables false
namespace Go.Proofs.Ytlchnabnhimlcaa
open Go Go.RowKit Go.Own
section
variable {P : Program} {n : Nat} {ops : Array Oper} {Q : Post} {rest : List Oper} {e : Env} {w : World} {tt : Nat} {pp : String} {af : Array Edge} {g : Option (Nat × Bool)} {d : Nat}
/-- x[l:h] of a slice -/
theorem midK {t el : TypeId} {x lo hi : Operand} {a : Option Addr} {m c sz by_ l h' : Nat} {zz : List Value} {k k' : IntKind} {il ih : Int} [E : ElC P t el sz by_ zz] (hw : wg n ops g e = true) (hd : Nat.blt d n = true) (hx : ev e x = .slice a m c) (hlo : ev e lo = .int k il) (hhi : ev e hi = .int k' ih) (hl : il = (l : Int)) (hh : ih = (h' : Int)) (h1 : l ≤ h') (h2 : h' ≤ c) (h : L P n ops Q rest (upd e d (.slice (subAddr a c l sz) (h' - l) (c - l))) w) : L P n ops Q (⟨some d, .slice t x (some lo) (some hi) none, tt, pp, af, g⟩ :: rest) e w := by
  obtain ⟨v, E', _⟩ := E.el
  obtain ⟨inf, i1, i2, i3, i4⟩ := E'.info
  refine L.val (o := ⟨some d, .slice t x (some lo) (some hi) none, tt, pp, af, g⟩) _ w hw hd (run_v (sm := Instr.sliceAt t (ev e x) (some (ev e lo)) (some (ev e hi)) none) rfl ?_) h
  rw [hx, hlo, hhi]
  simp [Instr.sliceAt, run_underlying E'.slice, Instr.slice, Instr.sliceBounds, Own.run_sliceBound hl h1, Own.run_sliceBound hh h2, sizeOf, typeInfo, i1, i3, subAddr]
end
section
variable {s : Ro} {w : World} {R : List Asn}
theorem src_mid {a : Option Addr} {c n k : Nat} {l : List UInt8} (h : Src s R (.slice a l.length c) 1 l.length (u8s l)) (hn : n + k ≤ l.length) : Src s R (.slice (subAddr a c n 1) ((l.drop n).take k).length (c - n)) 1 ((l.drop n).take k).length (u8s ((l.drop n).take k)) := by
  have e : ((l.drop n).take k).length = k := by rw [List.length_take, List.length_drop]; omega
  rw [e]
  have := h.sub (l := n) (m := n + k) (by omega) hn
  rw [Nat.mul_one, Nat.mul_one, u8s_drop, u8s_take, Nat.add_sub_cancel_left] at this
  exact this
theorem build_reader (a : Option Addr) (n c : Nat) (w : World) : (Instr.build 125 [(0, .slice a n c)].toArray).run Try.prog w = .ok (.agg #[.slice a n c, .int .i64 0, .int .i64 0]) w := by kernel_rfl
/-- a reader at block g: the bytes, and how far -/
structure Rdr (s : Ro) (a : Option Addr) (c : Nat) (l : List UInt8) : Prop where
  sl : SlS s (.slice a l.length c) 1 l.length (u8s l)
  few : l.length ≤ 1000
theorem Rdr.mono {s s' : Ro} {a : Option Addr} {c : Nat} {l : List UInt8} (h : Rdr s a c l) (hs : s.Le s') : Rdr s' a c l := ⟨h.sl.mono hs, h.few⟩
theorem Read_o {l : List UInt8} {a : Option Addr} {c : Nat} (H : Holds s w R) (h : Src s R (.slice a l.length c) 1 l.length (u8s l)) (hl : l.length ≤ 1000) : Calls Try.prog 61 #[.slice a l.length c] w fun e w' => ∃ s' g aa cc, e = .returned (.pointer (some ⟨g, 0, none⟩)) ∧ s.Le s' ∧ Rdr s' aa cc l ∧ Holds s' w' (var g 125 [.slice aa l.length cc, .int .i64 0, .int .i64 0] :: R) := by
  refine enter Try.func61 rfl Try.ntmps61 rfl ?_
  repeat' (first | refine Z H ?_ | (refine Zc ?_ ?_ <;> intro hc <;> first | (exfalso; omega) | skip) | (refine Y ?_; try change C _ _ _ _ _ _) | (refine Zs H ?_; clear H; (try clear w); intro w H) | (refine Zn H ?_; clear H; (try clear w); intro _ w H) | (refine Ze H ?_; clear H; (try clear w); intro gv w H))
  replace H := H.nilRow 5 1
  refine K.app0 0 H rfl h.skip (u8s_one _) (by unfold maxLen; omega) (by omega) rfl rfl rfl ?_
  clear H
  intro a1 c1 w H
  (try simp only [List.set_cons_zero, List.set_cons_succ, List.eraseIdx_cons_zero, List.eraseIdx_cons_succ] at H)
  obtain ⟨s1, hs1, H1, hd⟩ := H.fixRow
  clear H
  have H := H1
  clear H1
  refine K.build [(0, .slice a1 l.length c1)] (.agg #[.slice a1 l.length c1, .int .i64 0, .int .i64 0]) (build_reader _ _ _) rfl rfl rfl ?_
  repeat' (first | refine Z H ?_ | (refine Zc ?_ ?_ <;> intro hc <;> first | (exfalso; omega) | skip) | (refine Y ?_; try change C _ _ _ _ _ _) | (refine Zs H ?_; clear H; (try clear w); intro w H) | (refine Zn H ?_; clear H; (try clear w); intro _ w H) | (refine Ze H ?_; clear H; (try clear w); intro gv w H))
  exact ⟨_, resT rfl, s1, _, a1, c1, rfl, hs1, ⟨hd, hl⟩, H⟩
theorem Left_o {l : List UInt8} {g k c : Nat} {a : Option Addr} (H : Holds s w (var g 125 [.slice a l.length c, .int .i64 (k : Int), .int .i64 0] :: R)) (hr : Rdr s a c l) (hk : k ≤ l.length) : Calls Try.prog 90 #[.pointer (some ⟨g, 0, none⟩)] w fun e w' => e = .returned (.int .i64 ((l.length - k : Nat) : Int)) ∧ Holds s w' (var g 125 [.slice a l.length c, .int .i64 (k : Int), .int .i64 0] :: R) := by
  have := hr.few
  refine enter Try.func90 rfl Try.ntmps90 rfl ?_
  repeat' (first | refine Z H ?_ | (refine Zc ?_ ?_ <;> intro hc <;> first | (exfalso; omega) | skip) | (refine Y ?_; try change C _ _ _ _ _ _) | (refine Zs H ?_; clear H; (try clear w); intro w H) | (refine Zn H ?_; clear H; (try clear w); intro _ w H) | (refine Ze H ?_; clear H; (try clear w); intro gv w H))
  refine C.drawn1 [0, 0, 0, 1, 0, 0, 0, 0, 1, 0, 0] [0, 1, 3, 7, 15, 0, 32, 96, 224, 511, 1023] (by kernel_rfl) ?_; replace H := H.drew
  repeat' (first | refine Z H ?_ | (refine Zc ?_ ?_ <;> intro hc <;> first | (exfalso; omega) | skip) | (refine Y ?_; try change C _ _ _ _ _ _) | (refine Zs H ?_; clear H; (try clear w); intro w H) | (refine Zn H ?_; clear H; (try clear w); intro _ w H) | (refine Ze H ?_; clear H; (try clear w); intro gv w H))
  refine ⟨_, resT rfl, ?_, H⟩
  rw [show ((l.length - k : Nat) : Int) = (l.length : Int) - (k : Int) by omega]
  rfl
set_option maxRecDepth 100000 in
set_option maxHeartbeats 1000000 in
theorem take_o {l : List UInt8} {g k n c : Nat} {a : Option Addr} (H : Holds s w (var g 125 [.slice a l.length c, .int .i64 (k : Int), .int .i64 0] :: R)) (hr : Rdr s a c l) (hk : k + n ≤ l.length) : Calls Try.prog 74 #[.pointer (some ⟨g, 0, none⟩), .int .i64 (n : Int)] w fun e w' => e = .returned (.tuple #[.slice (subAddr a c k 1) ((l.drop k).take n).length (c - k), .bool true]) ∧ Holds s w' (var g 125 [.slice a l.length c, .int .i64 ((k + n : Nat) : Int), .int .i64 0] :: R) := by
  have := hr.few
  have e : ((l.drop k).take n).length = n := by rw [List.length_take, List.length_drop]; omega
  obtain ⟨_, _, hv, hc1, hc2⟩ := formS hr.sl
  cases hv
  rw [e]
  refine enter Try.func74 rfl Try.ntmps74 rfl ?_
  repeat' (first | refine Z H ?_ | (refine Zc ?_ ?_ <;> intro hc <;> first | (exfalso; omega) | skip) | (refine Y ?_; try change C _ _ _ _ _ _) | (refine Zs H ?_; clear H; (try clear w); intro w H) | (refine Zn H ?_; clear H; (try clear w); intro _ w H) | (refine Ze H ?_; clear H; (try clear w); intro gv w H))
  (refine X.call (Left_o H hr (by omega)) ?_; (try clear H); rintro _ w ⟨rfl, H⟩; refine ⟨_, rfl, ?_⟩)
  repeat' (first | refine Z H ?_ | (refine Zc ?_ ?_ <;> intro hc <;> first | (exfalso; omega) | skip) | (refine Y ?_; try change C _ _ _ _ _ _) | (refine Zs H ?_; clear H; (try clear w); intro w H) | (refine Zn H ?_; clear H; (try clear w); intro _ w H) | (refine Ze H ?_; clear H; (try clear w); intro gv w H))
  refine C.drawn1 [0, 0, 0, 1, 0, 0, 0, 1, 0, 0, 0, 1, 0, 0, 0, 0] [0, 1, 3, 7, 0, 16, 48, 112, 0, 256, 768, 1792, 0, 7936, 16383, 32767] (by kernel_rfl) ?_; replace H := H.drew
  repeat' (first | (refine midK (l := k) (h' := k + n) rfl rfl rfl rfl rfl rfl (by omega) (by omega) (by omega) ?_; rw [Nat.add_sub_cancel_left]) | refine Z H ?_ | (refine Zc ?_ ?_ <;> intro hc <;> first | (exfalso; omega) | skip) | (refine Y ?_; try change C _ _ _ _ _ _) | (refine Zs H ?_; clear H; (try clear w); intro w H) | (refine Zn H ?_; clear H; (try clear w); intro _ w H) | (refine Ze H ?_; clear H; (try clear w); intro gv w H))
  exact ⟨_, resTT rfl, rfl, H⟩
theorem Num_o {l : List UInt8} {g k n c : Nat} {a : Option Addr} (H : Holds s w (var g 125 [.slice a l.length c, .int .i64 (k : Int), .int .i64 0] :: R)) (hr : Rdr s a c l) (h1 : 1 ≤ n) (h8 : n ≤ 8) (hk : k + n ≤ l.length) : Calls Try.prog 63 #[.pointer (some ⟨g, 0, none⟩), .int .i64 (n : Int)] w fun e w' => e = .returned (.int .u64 (numN ((l.drop k).take n) : Int)) ∧ Holds s w' (var g 125 [.slice a l.length c, .int .i64 ((k + n : Nat) : Int), .int .i64 0] :: R) := by
  have e : ((l.drop k).take n).length = n := by rw [List.length_take, List.length_drop]; omega
  refine enter Try.func63 rfl Try.ntmps63 rfl ?_
  repeat' (first | refine Z H ?_ | (refine Zc ?_ ?_ <;> intro hc <;> first | (exfalso; omega) | skip) | (refine Y ?_; try change C _ _ _ _ _ _) | (refine Zs H ?_; clear H; (try clear w); intro w H) | (refine Zn H ?_; clear H; (try clear w); intro _ w H) | (refine Ze H ?_; clear H; (try clear w); intro gv w H))
  (refine X.call (take_o (n := n) H hr hk) ?_; (try clear H); rintro _ w ⟨rfl, H⟩; refine ⟨_, rfl, ?_⟩)
  repeat' (first | refine Z H ?_ | (refine Zc ?_ ?_ <;> intro hc <;> first | (exfalso; omega) | skip) | (refine Y ?_; try change C _ _ _ _ _ _) | (refine Zs H ?_; clear H; (try clear w); intro w H) | (refine Zn H ?_; clear H; (try clear w); intro _ w H) | (refine Ze H ?_; clear H; (try clear w); intro gv w H))
  (refine X.call (number_e H (src_mid (.ro hr.sl) hk) (by omega)) ?_; (try clear H); rintro _ w ⟨rfl, _, H⟩; refine ⟨_, rfl, ?_⟩)
  repeat' (first | refine Z H ?_ | (refine Zc ?_ ?_ <;> intro hc <;> first | (exfalso; omega) | skip) | (refine Y ?_; try change C _ _ _ _ _ _) | (refine Zs H ?_; clear H; (try clear w); intro w H) | (refine Zn H ?_; clear H; (try clear w); intro _ w H) | (refine Ze H ?_; clear H; (try clear w); intro gv w H))
  exact ⟨_, resT rfl, rfl, H⟩
end
end Go.Proofs.Ytlchnabnhimlcaa
set_option linter.unusedSimpArgs false
set_option linter.unusedVariables false
namespace Go.Proofs.Ytlchnabnhimlcaa
open Go Go.RowKit Go.Own
section
variable {s : Ro} {w : World} {R : List Asn}
set_option maxRecDepth 100000 in
set_option maxHeartbeats 1000000 in
theorem Bytes_o {l : List UInt8} {g k n c : Nat} {a : Option Addr} (H : Holds s w (var g 125 [.slice a l.length c, .int .i64 (k : Int), .int .i64 0] :: R)) (hr : Rdr s a c l) (hk : k + n ≤ l.length) : Calls Try.prog 64 #[.pointer (some ⟨g, 0, none⟩), .int .i64 (n : Int)] w fun e w' => ∃ s' aa cc, e = .returned (.slice aa ((l.drop k).take n).length cc) ∧ s.Le s' ∧ SlS s' (.slice aa ((l.drop k).take n).length cc) 1 ((l.drop k).take n).length (u8s ((l.drop k).take n)) ∧ Holds s' w' (var g 125 [.slice a l.length c, .int .i64 ((k + n : Nat) : Int), .int .i64 0] :: R) := by
  have := hr.few
  have e : ((l.drop k).take n).length = n := by rw [List.length_take, List.length_drop]; omega
  refine enter Try.func64 rfl Try.ntmps64 rfl ?_
  repeat' (first | refine Z H ?_ | (refine Zc ?_ ?_ <;> intro hc <;> first | (exfalso; omega) | skip) | (refine Y ?_; try change C _ _ _ _ _ _) | (refine Zs H ?_; clear H; (try clear w); intro w H) | (refine Zn H ?_; clear H; (try clear w); intro _ w H) | (refine Ze H ?_; clear H; (try clear w); intro gv w H))
  (refine X.call (take_o (n := n) H hr hk) ?_; (try clear H); rintro _ w ⟨rfl, H⟩; refine ⟨_, rfl, ?_⟩)
  repeat' (first | refine Z H ?_ | (refine Zc ?_ ?_ <;> intro hc <;> first | (exfalso; omega) | skip) | (refine Y ?_; try change C _ _ _ _ _ _) | (refine Zs H ?_; clear H; (try clear w); intro w H) | (refine Zn H ?_; clear H; (try clear w); intro _ w H) | (refine Ze H ?_; clear H; (try clear w); intro gv w H))
  replace H := H.nilRow 5 1
  refine K.app0 0 H rfl (Src.skip (Src.skip (src_mid (.ro hr.sl) hk))) (u8s_one _) (by unfold maxLen; omega) (by omega) rfl rfl rfl ?_
  clear H
  intro a1 c1 w H
  (try simp only [List.set_cons_zero, List.set_cons_succ, List.eraseIdx_cons_zero, List.eraseIdx_cons_succ] at H)
  obtain ⟨s1, hs1, H1, hd⟩ := H.fixRow
  clear H
  have H := H1
  clear H1
  repeat' (first | refine Z H ?_ | (refine Zc ?_ ?_ <;> intro hc <;> first | (exfalso; omega) | skip) | (refine Y ?_; try change C _ _ _ _ _ _) | (refine Zs H ?_; clear H; (try clear w); intro w H) | (refine Zn H ?_; clear H; (try clear w); intro _ w H) | (refine Ze H ?_; clear H; (try clear w); intro gv w H))
  exact ⟨_, resT rfl, s1, a1, c1, rfl, hs1, hd, H⟩
theorem num_one {l : Str} {k : Nat} (hk : k + 1 ≤ l.length) : numN ((l.drop k).take 1) = (at8 l k).toNat := by
  have : (l.drop k).take 1 = [at8 l k] := by
    rw [List.drop_eq_getElem_cons (show k < l.length by omega), at8, List.getElem?_eq_getElem (show k < l.length by omega)]
    rfl
  rw [this]
  simp [numN, numI]
set_option maxRecDepth 100000 in
set_option maxHeartbeats 1000000 in
theorem get_o {l : List UInt8} {g k c gb : Nat} {a : Option Addr} (H : Holds s w (var g 125 [.slice a l.length c, .int .i64 (k : Int), .int .i64 0] :: var gb 109 [.pointer (some ⟨g, 0, none⟩)] :: R)) (hr : Rdr s a c l) (hk : k + 1 ≤ l.length) : Calls Try.prog 62 #[.pointer (some ⟨gb, 0, none⟩)] w fun e w' => e = .returned (.int .i64 ((at8 l k).toNat : Int)) ∧ Holds s w' (var g 125 [.slice a l.length c, .int .i64 ((k + 1 : Nat) : Int), .int .i64 0] :: var gb 109 [.pointer (some ⟨g, 0, none⟩)] :: R) := by
  have wr : IntKind.i64.wrap ((at8 l k).toNat : Int) = ((at8 l k).toNat : Int) := IntWalk.i64_in _ (by have := (at8 l k).toNat_lt; omega)
  refine enter Try.func62 rfl Try.ntmps62 rfl ?_
  repeat' (first | refine Z H ?_ | (refine Zc ?_ ?_ <;> intro hc <;> first | (exfalso; omega) | skip) | (refine Y ?_; try change C _ _ _ _ _ _) | (refine Zs H ?_; clear H; (try clear w); intro w H) | (refine Zn H ?_; clear H; (try clear w); intro _ w H) | (refine Ze H ?_; clear H; (try clear w); intro gv w H))
  (refine X.call (Num_o (n := 1) H hr (by decide) (by decide) hk) ?_; (try clear H); rintro _ w ⟨rfl, H⟩; refine ⟨_, rfl, ?_⟩)
  rw [num_one hk]
  repeat' (first | (refine K.convI Try.underlying111 rfl rfl rfl ?_; rw [wr]) | refine Z H ?_ | (refine Zc ?_ ?_ <;> intro hc <;> first | (exfalso; omega) | skip) | (refine Y ?_; try change C _ _ _ _ _ _) | (refine Zs H ?_; clear H; (try clear w); intro w H) | (refine Zn H ?_; clear H; (try clear w); intro _ w H) | (refine Ze H ?_; clear H; (try clear w); intro gv w H))
  exact ⟨_, resT rfl, rfl, H⟩
def nodeR (l : Str) : Nd × Bool := match nodeM l with
  | none => (Nd.zero, false)
  | some n => (n, true)
set_option maxRecDepth 100000 in
set_option maxHeartbeats 1000000 in
theorem node_s {l : List UInt8} {a : Option Addr} {c : Nat} (H : Holds s w R) (h : Src s R (.slice a l.length c) 1 l.length (u8s l)) (hl : l.length = 40) : Calls Try.prog 41 #[.slice a l.length c] w fun e w' => ∃ s', e = .returned (.tuple #[.agg (nodeR l).1.cells.toArray, .bool (nodeR l).2]) ∧ s.Le s' ∧ Holds s' w' R := by
  refine enter Try.func41 rfl Try.ntmps41 rfl ?_
  repeat' (first | refine Z H ?_ | (refine Zc ?_ ?_ <;> intro hc <;> first | (exfalso; omega) | skip) | (refine Y ?_; try change C _ _ _ _ _ _) | (refine Zs H ?_; clear H; (try clear w); intro w H) | (refine Zn H ?_; clear H; (try clear w); (first | ((fail_if_success (have := bl1)); intro bl1 w H) | ((fail_if_success (have := bl2)); intro bl2 w H) | intro _ w H)) | (refine Ze H ?_; clear H; (try clear w); intro gv w H))
  (refine X.call (Read_o H (Src.skip h) (by omega)) ?_; (try clear H); rintro _ w ⟨s1, g, aa, cc, rfl, hs1, hr, H⟩; refine ⟨_, rfl, ?_⟩)
  repeat' (first | (refine B.fn ?_) | refine Z H ?_ | (refine Zc ?_ ?_ <;> intro hc <;> first | (exfalso; omega) | skip) | (refine Y ?_; try change C _ _ _ _ _ _) | (refine Zs H ?_; clear H; (try clear w); intro w H) | (refine Zn H ?_; clear H; (try clear w); (first | ((fail_if_success (have := bl1)); intro bl1 w H) | ((fail_if_success (have := bl2)); intro bl2 w H) | intro _ w H)) | (refine Ze H ?_; clear H; (try clear w); intro gv w H))
  first | (have hT : Holds _ _ (var bl2 109 _ :: _) := H; clear hT) | (replace H := H.up 1 rfl; (try simp only [List.set_cons_zero, List.set_cons_succ, List.eraseIdx_cons_zero, List.eraseIdx_cons_succ] at H); have hT : Holds _ _ (var bl2 109 _ :: _) := H; clear hT) | (replace H := H.up 2 rfl; (try simp only [List.set_cons_zero, List.set_cons_succ, List.eraseIdx_cons_zero, List.eraseIdx_cons_succ] at H); have hT : Holds _ _ (var bl2 109 _ :: _) := H; clear hT) | (replace H := H.up 3 rfl; (try simp only [List.set_cons_zero, List.set_cons_succ, List.eraseIdx_cons_zero, List.eraseIdx_cons_succ] at H); have hT : Holds _ _ (var bl2 109 _ :: _) := H; clear hT) | (replace H := H.up 4 rfl; (try simp only [List.set_cons_zero, List.set_cons_succ, List.eraseIdx_cons_zero, List.eraseIdx_cons_succ] at H); have hT : Holds _ _ (var bl2 109 _ :: _) := H; clear hT) | (replace H := H.up 5 rfl; (try simp only [List.set_cons_zero, List.set_cons_succ, List.eraseIdx_cons_zero, List.eraseIdx_cons_succ] at H); have hT : Holds _ _ (var bl2 109 _ :: _) := H; clear hT) | (replace H := H.up 6 rfl; (try simp only [List.set_cons_zero, List.set_cons_succ, List.eraseIdx_cons_zero, List.eraseIdx_cons_succ] at H); have hT : Holds _ _ (var bl2 109 _ :: _) := H; clear hT)
  first | (have hT : Holds _ _ (var g 125 _ :: _) := H; clear hT) | (replace H := H.up 1 rfl; (try simp only [List.set_cons_zero, List.set_cons_succ, List.eraseIdx_cons_zero, List.eraseIdx_cons_succ] at H); have hT : Holds _ _ (var g 125 _ :: _) := H; clear hT) | (replace H := H.up 2 rfl; (try simp only [List.set_cons_zero, List.set_cons_succ, List.eraseIdx_cons_zero, List.eraseIdx_cons_succ] at H); have hT : Holds _ _ (var g 125 _ :: _) := H; clear hT) | (replace H := H.up 3 rfl; (try simp only [List.set_cons_zero, List.set_cons_succ, List.eraseIdx_cons_zero, List.eraseIdx_cons_succ] at H); have hT : Holds _ _ (var g 125 _ :: _) := H; clear hT) | (replace H := H.up 4 rfl; (try simp only [List.set_cons_zero, List.set_cons_succ, List.eraseIdx_cons_zero, List.eraseIdx_cons_succ] at H); have hT : Holds _ _ (var g 125 _ :: _) := H; clear hT) | (replace H := H.up 5 rfl; (try simp only [List.set_cons_zero, List.set_cons_succ, List.eraseIdx_cons_zero, List.eraseIdx_cons_succ] at H); have hT : Holds _ _ (var g 125 _ :: _) := H; clear hT) | (replace H := H.up 6 rfl; (try simp only [List.set_cons_zero, List.set_cons_succ, List.eraseIdx_cons_zero, List.eraseIdx_cons_succ] at H); have hT : Holds _ _ (var g 125 _ :: _) := H; clear hT)
  refine B.call (get_o (l := l) (k := 0) H hr (by rw [hl]; decide)) ?_
  clear H
  rintro _ w ⟨rfl, H⟩
  refine ⟨_, rfl, ?_⟩
  repeat' (first | refine Z H ?_ | (refine Zc ?_ ?_ <;> intro hc <;> first | (exfalso; omega) | skip) | (refine Y ?_; try change C _ _ _ _ _ _) | (refine Zs H ?_; clear H; (try clear w); intro w H) | (refine Zn H ?_; clear H; (try clear w); (first | ((fail_if_success (have := bl1)); intro bl1 w H) | ((fail_if_success (have := bl2)); intro bl2 w H) | intro _ w H)) | (refine Ze H ?_; clear H; (try clear w); intro gv w H))
  refine B.call (get_o (l := l) (k := 0 + 1) H hr (by rw [hl]; decide)) ?_
  clear H
  rintro _ w ⟨rfl, H⟩
  refine ⟨_, rfl, ?_⟩
  repeat' (first | refine Z H ?_ | (refine Zc ?_ ?_ <;> intro hc <;> first | (exfalso; omega) | skip) | (refine Y ?_; try change C _ _ _ _ _ _) | (refine Zs H ?_; clear H; (try clear w); intro w H) | (refine Zn H ?_; clear H; (try clear w); (first | ((fail_if_success (have := bl1)); intro bl1 w H) | ((fail_if_success (have := bl2)); intro bl2 w H) | intro _ w H)) | (refine Ze H ?_; clear H; (try clear w); intro gv w H))
  refine B.call (get_o (l := l) (k := 0 + 1 + 1) H hr (by rw [hl]; decide)) ?_
  clear H
  rintro _ w ⟨rfl, H⟩
  refine ⟨_, rfl, ?_⟩
  repeat' (first | refine Z H ?_ | (refine Zc ?_ ?_ <;> intro hc <;> first | (exfalso; omega) | skip) | (refine Y ?_; try change C _ _ _ _ _ _) | (refine Zs H ?_; clear H; (try clear w); intro w H) | (refine Zn H ?_; clear H; (try clear w); (first | ((fail_if_success (have := bl1)); intro bl1 w H) | ((fail_if_success (have := bl2)); intro bl2 w H) | intro _ w H)) | (refine Ze H ?_; clear H; (try clear w); intro gv w H))
  (refine X.call (Bytes_o (l := l) (k := 0 + 1 + 1 + 1) (n := 8) H hr (by rw [hl]; decide)) ?_; (try clear H); rintro _ w ⟨s2, ba, bc, rfl, hs2, hbs, H⟩; refine ⟨_, rfl, ?_⟩)
  replace hr := hr.mono hs2
  have hn8 : ((l.drop (0 + 1 + 1 + 1)).take 8).length = 8 := by rw [List.length_take, List.length_drop]; omega
  rw [hn8] at hbs
  rw [hn8]
  repeat' (first | refine Z H ?_ | (refine Zc ?_ ?_ <;> intro hc <;> first | (exfalso; omega) | skip) | (refine Y ?_; try change C _ _ _ _ _ _) | (refine Zs H ?_; clear H; (try clear w); intro w H) | (refine Zn H ?_; clear H; (try clear w); (first | ((fail_if_success (have := bl1)); intro bl1 w H) | ((fail_if_success (have := bl2)); intro bl2 w H) | intro _ w H)) | (refine Ze H ?_; clear H; (try clear w); intro gv w H))
  refine B.call (get_o (l := l) (k := 0 + 1 + 1 + 1 + 8) H hr (by rw [hl]; decide)) ?_
  clear H
  rintro _ w ⟨rfl, H⟩
  refine ⟨_, rfl, ?_⟩
  repeat' (first | refine Z H ?_ | (refine Zc ?_ ?_ <;> intro hc <;> first | (exfalso; omega) | skip) | (refine Y ?_; try change C _ _ _ _ _ _) | (refine Zs H ?_; clear H; (try clear w); intro w H) | (refine Zn H ?_; clear H; (try clear w); (first | ((fail_if_success (have := bl1)); intro bl1 w H) | ((fail_if_success (have := bl2)); intro bl2 w H) | intro _ w H)) | (refine Ze H ?_; clear H; (try clear w); intro gv w H))
  refine B.call (get_o (l := l) (k := 0 + 1 + 1 + 1 + 8 + 1) H hr (by rw [hl]; decide)) ?_
  clear H
  rintro _ w ⟨rfl, H⟩
  refine ⟨_, rfl, ?_⟩
  repeat' (first | (refine K.iaA (i := 0) rfl rfl rfl rfl rfl (by decide) ?_) | refine Z H ?_ | (refine Zc ?_ ?_ <;> intro hc <;> first | (exfalso; omega) | skip) | (refine Y ?_; try change C _ _ _ _ _ _) | (refine Zs H ?_; clear H; (try clear w); intro w H) | (refine Zn H ?_; clear H; (try clear w); (first | ((fail_if_success (have := bl1)); intro bl1 w H) | ((fail_if_success (have := bl2)); intro bl2 w H) | intro _ w H)) | (refine Ze H ?_; clear H; (try clear w); intro gv w H))
  refine B.call (get_o (l := l) (k := 0 + 1 + 1 + 1 + 8 + 1 + 1) H hr (by rw [hl]; decide)) ?_
  clear H
  rintro _ w ⟨rfl, H⟩
  refine ⟨_, rfl, ?_⟩
  by_cases hlen0 : 8 < (at8 l (0 + 1 + 1)).toNat
  · have hlen : 8 < (at8 l 2).toNat := hlen0
    have hno : nodeR l = (Nd.zero, false) := by unfold nodeR nodeM; rw [if_pos hlen]
    repeat' (first | (refine K.iaA (i := 1) rfl rfl rfl rfl rfl (by decide) ?_) | (refine K.build [] _ build_node0 rfl rfl rfl ?_) | refine Z H ?_ | (refine Zc ?_ ?_ <;> intro hc <;> first | (exfalso; omega) | skip) | (refine Y ?_; try change C _ _ _ _ _ _) | (refine Zs H ?_; clear H; (try clear w); intro w H) | (refine Zn H ?_; clear H; (try clear w); (first | ((fail_if_success (have := bl1)); intro bl1 w H) | ((fail_if_success (have := bl2)); intro bl2 w H) | intro _ w H)) | (refine Ze H ?_; clear H; (try clear w); intro gv w H))
    exact ⟨_, resVT (cs := Nd.zero.cells) H rfl, s2, by rw [hno]; rfl, hs1.trans hs2, H.tail.tail.tail.tail⟩
  have hlen : ¬ 8 < (at8 l 2).toNat := hlen0
  obtain ⟨nm, hnm⟩ : ∃ nm : Str, nm = ((l.drop 3).take 8).take (at8 l 2).toNat := ⟨_, rfl⟩
  have hnl : nm.length = (at8 l 2).toNat := by rw [hnm, List.length_take, List.length_take, List.length_drop]; omega
  have hbu : SlS s2 (.slice ba (at8 l 2).toNat bc) 1 nm.length (u8s nm) := by
    have h1 := hbs.upto (l := (at8 l 2).toNat) (by omega)
    rw [Nat.mul_one, u8s_take] at h1
    rw [hnl, hnm]
    exact h1
  have hbc : 8 ≤ bc := by
    obtain ⟨_, _, hv, h1, _⟩ := formS hbs
    cases hv
    exact h1
  have hno : nodeR l = (⟨(at8 l 0).toNat, (at8 l 1).toNat, nm, (at8 l 11).toNat, (at8 l 12).toNat, (at8 l 13).toNat⟩, true) := by unfold nodeR nodeM; rw [if_neg hlen, ← hnm]
  repeat' (first | (refine K.iaA (i := 1) rfl rfl rfl rfl rfl (by decide) ?_) | (refine K.upto (l := (at8 l 2).toNat) rfl rfl rfl rfl rfl (by omega) ?_) | (refine K.str (l := nm) H (.ro hbu) rfl rfl rfl ?_) | refine Z H ?_ | (refine Zc ?_ ?_ <;> intro hc <;> first | (exfalso; omega) | skip) | (refine Y ?_; try change C _ _ _ _ _ _) | (refine Zs H ?_; clear H; (try clear w); intro w H) | (refine Zn H ?_; clear H; (try clear w); (first | ((fail_if_success (have := bl1)); intro bl1 w H) | ((fail_if_success (have := bl2)); intro bl2 w H) | intro _ w H)) | (refine Ze H ?_; clear H; (try clear w); intro gv w H))
  --DBG
  exact ⟨_, resVT (cs := Nd.cells ⟨(at8 l 0).toNat, (at8 l 1).toNat, nm, (at8 l 11).toNat, (at8 l 12).toNat, (at8 l 13).toNat⟩) H rfl, s2, by rw [hno]; rfl, hs1.trans hs2, H.tail.tail.tail.tail⟩
end
end Go.Proofs.Ytlchnabnhimlcaa

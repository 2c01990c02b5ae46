/- octet's Reader. -/
import Derived.Test.YtbknpbihgfphaaaDoorCr
import Derived.Test.YtbknpbihgfphaaaDoorTy2
set_option linter.unusedSimpArgs false
set_option linter.unusedVariables false
namespace Go.Proofs.YtbknpbihgfphaaaDoor
open Go Go.RowKit Go.Own

section
variable {P : Program} {n : Nat} {ops : Array Oper} {Q : Post} {rest : List Oper} {e : Env} {w : World} {tt : Nat} {pp : String} {af : Array Edge} {g : Option (Nat × Bool)} {d : Nat}
/-- x[l:h] of a slice -/
theorem midK {t el : TypeId} {x lo hi : Operand} {a : Option Addr} {m c sz by_ l h' : Nat} {zz : List Value} {k k' : IntKind} {il ih : Int} [E : ElC P t el sz by_ zz] (hw : wg n ops g e = true) (hd : Nat.blt d n = true) (hx : ev e x = .slice a m c) (hlo : ev e lo = .int k il) (hhi : ev e hi = .int k' ih) (hl : il = (l : Int)) (hh : ih = (h' : Int)) (h1 : l ≤ h') (h2 : h' ≤ c) (h : L P n ops Q rest (upd e d (.slice (subAddr a c l sz) (h' - l) (c - l))) w) : L P n ops Q (⟨some d, .slice t x (some lo) (some hi) none, tt, pp, af, g⟩ :: rest) e w := by
  obtain ⟨v, E', _⟩ := E.el
  obtain ⟨inf, i1, i2, i3, i4⟩ := E'.info
  refine L.val (o := ⟨some d, .slice t x (some lo) (some hi) none, tt, pp, af, g⟩) _ w hw hd (run_v (sm := Instr.sliceAt t (ev e x) (some (ev e lo)) (some (ev e hi)) none) rfl ?_) h
  rw [hx, hlo, hhi]
  simp [Instr.sliceAt, run_underlying E'.slice, Instr.slice, Instr.sliceBounds, Own.run_sliceBound hl h1, Own.run_sliceBound hh h2, sizeOf, typeInfo, i1, i3, subAddr]
end

section
variable {s : Ro} {w : World} {R : List Asn}
theorem src_mid {a : Option Addr} {c n k : Nat} {l : List UInt8} (h : Src s R (.slice a l.length c) 1 l.length (u8s l)) (hn : n + k ≤ l.length) : Src s R (.slice (subAddr a c n 1) ((l.drop n).take k).length (c - n)) 1 ((l.drop n).take k).length (u8s ((l.drop n).take k)) := by
  have e : ((l.drop n).take k).length = k := by rw [List.length_take, List.length_drop]; omega
  rw [e]
  have := h.sub (l := n) (m := n + k) (by omega) hn
  rw [Nat.mul_one, Nat.mul_one, u8s_drop, u8s_take, Nat.add_sub_cancel_left] at this
  exact this
theorem build_reader (a : Option Addr) (n c : Nat) (w : World) : (Instr.build 184 [(0, .slice a n c)].toArray).run Tryd.prog w = .ok (.agg #[.slice a n c, .int .i64 0, .int .i64 0]) w := by kernel_rfl
/-- a reader at block g: the bytes, and how far -/
structure Rdr (s : Ro) (a : Option Addr) (c : Nat) (l : List UInt8) : Prop where
  sl : SlS s (.slice a l.length c) 1 l.length (u8s l)
  few : l.length ≤ 1000
theorem Rdr.mono {s s' : Ro} {a : Option Addr} {c : Nat} {l : List UInt8} (h : Rdr s a c l) (hs : s.Le s') : Rdr s' a c l := ⟨h.sl.mono hs, h.few⟩
theorem Read_o {l : List UInt8} {a : Option Addr} {c : Nat} (H : Holds s w R) (h : Src s R (.slice a l.length c) 1 l.length (u8s l)) (hl : l.length ≤ 1000) : Calls Tryd.prog 94 #[.slice a l.length c] w fun e w' => ∃ s' g aa cc, e = .returned (.pointer (some ⟨g, 0, none⟩)) ∧ s.Le s' ∧ Rdr s' aa cc l ∧ Holds s' w' (var g 184 [.slice aa l.length cc, .int .i64 0, .int .i64 0] :: R) := by
  refine enter Tryd.func94 rfl Tryd.ntmps94 rfl ?_
  repeat' (first | refine Z H ?_ | (refine Zc ?_ ?_ <;> intro hc <;> first | (exfalso; omega) | skip) | (refine Y ?_; try change C _ _ _ _ _ _) | (refine Zs H ?_; clear H; (try clear w); intro w H) | (refine Zn H ?_; clear H; (try clear w); intro _ w H) | (refine Ze H ?_; clear H; (try clear w); intro gv w H))
  replace H := H.nilRow 5 1
  refine K.app0 0 H rfl h.skip (u8s_one _) (by unfold maxLen; omega) (by omega) rfl rfl rfl ?_
  clear H
  intro a1 c1 w H
  (try simp only [List.set_cons_zero, List.set_cons_succ, List.eraseIdx_cons_zero, List.eraseIdx_cons_succ] at H)
  obtain ⟨s1, hs1, H1, hd⟩ := H.fixRow
  clear H
  have H := H1
  clear H1
  refine K.build [(0, .slice a1 l.length c1)] (.agg #[.slice a1 l.length c1, .int .i64 0, .int .i64 0]) (build_reader _ _ _) rfl rfl rfl ?_
  repeat' (first | refine Z H ?_ | (refine Zc ?_ ?_ <;> intro hc <;> first | (exfalso; omega) | skip) | (refine Y ?_; try change C _ _ _ _ _ _) | (refine Zs H ?_; clear H; (try clear w); intro w H) | (refine Zn H ?_; clear H; (try clear w); intro _ w H) | (refine Ze H ?_; clear H; (try clear w); intro gv w H))
  exact ⟨_, resT rfl, s1, _, a1, c1, rfl, hs1, ⟨hd, hl⟩, H⟩
theorem Left_o {l : List UInt8} {g k c : Nat} {a : Option Addr} (H : Holds s w (var g 184 [.slice a l.length c, .int .i64 (k : Int), .int .i64 0] :: R)) (hr : Rdr s a c l) (hk : k ≤ l.length) : Calls Tryd.prog 129 #[.pointer (some ⟨g, 0, none⟩)] w fun e w' => e = .returned (.int .i64 ((l.length - k : Nat) : Int)) ∧ Holds s w' (var g 184 [.slice a l.length c, .int .i64 (k : Int), .int .i64 0] :: R) := by
  have := hr.few
  refine enter Tryd.func129 rfl Tryd.ntmps129 rfl ?_
  repeat' (first | refine Z H ?_ | (refine Zc ?_ ?_ <;> intro hc <;> first | (exfalso; omega) | skip) | (refine Y ?_; try change C _ _ _ _ _ _) | (refine Zs H ?_; clear H; (try clear w); intro w H) | (refine Zn H ?_; clear H; (try clear w); intro _ w H) | (refine Ze H ?_; clear H; (try clear w); intro gv w H))
  refine C.drawn1 [0, 0, 0, 1, 0, 0, 0, 0, 1, 0, 0] [0, 1, 3, 7, 15, 0, 32, 96, 224, 511, 1023] (by kernel_rfl) ?_; replace H := H.drew
  repeat' (first | refine Z H ?_ | (refine Zc ?_ ?_ <;> intro hc <;> first | (exfalso; omega) | skip) | (refine Y ?_; try change C _ _ _ _ _ _) | (refine Zs H ?_; clear H; (try clear w); intro w H) | (refine Zn H ?_; clear H; (try clear w); intro _ w H) | (refine Ze H ?_; clear H; (try clear w); intro gv w H))
  refine ⟨_, resT rfl, ?_, H⟩
  rw [show ((l.length - k : Nat) : Int) = (l.length : Int) - (k : Int) by omega]
  rfl
set_option maxRecDepth 100000 in
set_option maxHeartbeats 1000000 in
theorem take_o {l : List UInt8} {g k n c : Nat} {a : Option Addr} (H : Holds s w (var g 184 [.slice a l.length c, .int .i64 (k : Int), .int .i64 0] :: R)) (hr : Rdr s a c l) (hk : k + n ≤ l.length) : Calls Tryd.prog 119 #[.pointer (some ⟨g, 0, none⟩), .int .i64 (n : Int)] w fun e w' => e = .returned (.tuple #[.slice (subAddr a c k 1) ((l.drop k).take n).length (c - k), .bool true]) ∧ Holds s w' (var g 184 [.slice a l.length c, .int .i64 ((k + n : Nat) : Int), .int .i64 0] :: R) := by
  have := hr.few
  have e : ((l.drop k).take n).length = n := by rw [List.length_take, List.length_drop]; omega
  obtain ⟨_, _, hv, hc1, hc2⟩ := formS hr.sl
  cases hv
  rw [e]
  refine enter Tryd.func119 rfl Tryd.ntmps119 rfl ?_
  repeat' (first | refine Z H ?_ | (refine Zc ?_ ?_ <;> intro hc <;> first | (exfalso; omega) | skip) | (refine Y ?_; try change C _ _ _ _ _ _) | (refine Zs H ?_; clear H; (try clear w); intro w H) | (refine Zn H ?_; clear H; (try clear w); intro _ w H) | (refine Ze H ?_; clear H; (try clear w); intro gv w H))
  (refine X.call (Left_o H hr (by omega)) ?_; (try clear H); rintro _ w ⟨rfl, H⟩; refine ⟨_, rfl, ?_⟩)
  repeat' (first | refine Z H ?_ | (refine Zc ?_ ?_ <;> intro hc <;> first | (exfalso; omega) | skip) | (refine Y ?_; try change C _ _ _ _ _ _) | (refine Zs H ?_; clear H; (try clear w); intro w H) | (refine Zn H ?_; clear H; (try clear w); intro _ w H) | (refine Ze H ?_; clear H; (try clear w); intro gv w H))
  refine C.drawn1 [0, 0, 0, 1, 0, 0, 0, 1, 0, 0, 0, 1, 0, 0, 0, 0] [0, 1, 3, 7, 0, 16, 48, 112, 0, 256, 768, 1792, 0, 7936, 16383, 32767] (by kernel_rfl) ?_; replace H := H.drew
  repeat' (first | (refine midK (l := k) (h' := k + n) rfl rfl rfl rfl rfl rfl (by omega) (by omega) (by omega) ?_; rw [Nat.add_sub_cancel_left]) | refine Z H ?_ | (refine Zc ?_ ?_ <;> intro hc <;> first | (exfalso; omega) | skip) | (refine Y ?_; try change C _ _ _ _ _ _) | (refine Zs H ?_; clear H; (try clear w); intro w H) | (refine Zn H ?_; clear H; (try clear w); intro _ w H) | (refine Ze H ?_; clear H; (try clear w); intro gv w H))
  exact ⟨_, resTT rfl, rfl, H⟩
theorem Num_o {l : List UInt8} {g k n c : Nat} {a : Option Addr} (H : Holds s w (var g 184 [.slice a l.length c, .int .i64 (k : Int), .int .i64 0] :: R)) (hr : Rdr s a c l) (h1 : 1 ≤ n) (h8 : n ≤ 8) (hk : k + n ≤ l.length) : Calls Tryd.prog 95 #[.pointer (some ⟨g, 0, none⟩), .int .i64 (n : Int)] w fun e w' => e = .returned (.int .u64 (numN ((l.drop k).take n) : Int)) ∧ Holds s w' (var g 184 [.slice a l.length c, .int .i64 ((k + n : Nat) : Int), .int .i64 0] :: R) := by
  have e : ((l.drop k).take n).length = n := by rw [List.length_take, List.length_drop]; omega
  refine enter Tryd.func95 rfl Tryd.ntmps95 rfl ?_
  repeat' (first | refine Z H ?_ | (refine Zc ?_ ?_ <;> intro hc <;> first | (exfalso; omega) | skip) | (refine Y ?_; try change C _ _ _ _ _ _) | (refine Zs H ?_; clear H; (try clear w); intro w H) | (refine Zn H ?_; clear H; (try clear w); intro _ w H) | (refine Ze H ?_; clear H; (try clear w); intro gv w H))
  (refine X.call (take_o (n := n) H hr hk) ?_; (try clear H); rintro _ w ⟨rfl, H⟩; refine ⟨_, rfl, ?_⟩)
  repeat' (first | refine Z H ?_ | (refine Zc ?_ ?_ <;> intro hc <;> first | (exfalso; omega) | skip) | (refine Y ?_; try change C _ _ _ _ _ _) | (refine Zs H ?_; clear H; (try clear w); intro w H) | (refine Zn H ?_; clear H; (try clear w); intro _ w H) | (refine Ze H ?_; clear H; (try clear w); intro gv w H))
  (refine X.call (number_e H (src_mid (.ro hr.sl) hk) (by omega)) ?_; (try clear H); rintro _ w ⟨rfl, _, H⟩; refine ⟨_, rfl, ?_⟩)
  repeat' (first | refine Z H ?_ | (refine Zc ?_ ?_ <;> intro hc <;> first | (exfalso; omega) | skip) | (refine Y ?_; try change C _ _ _ _ _ _) | (refine Zs H ?_; clear H; (try clear w); intro w H) | (refine Zn H ?_; clear H; (try clear w); intro _ w H) | (refine Ze H ?_; clear H; (try clear w); intro gv w H))
  exact ⟨_, resT rfl, rfl, H⟩
end
end Go.Proofs.YtbknpbihgfphaaaDoor

/- Squeezed copy of the texts Nc. -/
import Derived.Test.YtgilmcpdpggikaaGreatDoorZNb
set_option maxRecDepth 100000
set_option maxHeartbeats 1000000
set_option linter.unusedSimpArgs false
set_option linter.unusedVariables false
namespace Go.Proofs.YtgilmcpdpggikaaGreatDoor
open Go Go.RowKit Go.Own
open Go.ChangeShapes Go.WideShapes Go.ChangeAt
def sel {α : Type} (k : Nat) (a b : α) : α := match k with | 0 => a | _ + 1 => b
def two (k : Nat) (a b : Value) : List Value := [sel k a b, sel k b a]
def yC (k : Nat) (S T : TR) : List Value := (sel k S T).cells ++ (sel k T S).cells
section
variable {k : Nat} {p q v : Value} {S T U : TR}
theorem bit_sw (h : k = 0 ∨ k = 1) : 1 - k = 0 ∨ 1 - k = 1 := by omega
theorem two_sw (h : k = 0 ∨ k = 1) : two k p q = two (1 - k) q p := by rcases h with rfl | rfl <;> rfl
theorem yC_sw (h : k = 0 ∨ k = 1) : yC k S T = yC (1 - k) T S := by rcases h with rfl | rfl <;> rfl
theorem two_k (h : k = 0 ∨ k = 1) : (two k p q)[0 + k * 1]? = some p := by rcases h with rfl | rfl <;> rfl
theorem two_o (h : k = 0 ∨ k = 1) : (two k p q)[0 + (1 - k) * 1]? = some q := by rw [two_sw h]; exact two_k (bit_sw h)
theorem two_sk (h : k = 0 ∨ k = 1) : (two k p q).set (0 + k * 1) v = two k v q := by rcases h with rfl | rfl <;> rfl
theorem two_so (h : k = 0 ∨ k = 1) : (two k p q).set (0 + (1 - k) * 1) v = two k p v := by rw [two_sw h, two_sk (bit_sw h), two_sw (k := k) h]
theorem two_lt (h : k = 0 ∨ k = 1) : Nat.blt (0 + k * 1) (two k p q).length = true := by rcases h with rfl | rfl <;> rfl
theorem two_lo (h : k = 0 ∨ k = 1) : Nat.blt (0 + (1 - k) * 1) (two k p q).length = true := by rcases h with rfl | rfl <;> rfl
theorem yC_k (h : k = 0 ∨ k = 1) (hS : S.Ok) (hT : T.Ok) : ((yC k S T).drop (0 + k * 368)).take 368 = S.cells := by
 have h1 := TR.cells_len hS
 have h2 := TR.cells_len hT
 rcases h with rfl | rfl
 ·show ((S.cells ++ T.cells).drop 0).take 368 = S.cells
  rw [List.drop_zero, List.take_left' h1]
 ·show ((T.cells ++ S.cells).drop 368).take 368 = S.cells
  rw [List.drop_left' h2, List.take_of_length_le (by omega)]
theorem yC_o (h : k = 0 ∨ k = 1) (hS : S.Ok) (hT : T.Ok) : ((yC k S T).drop (0 + (1 - k) * 368)).take 368 = T.cells := by
 rw [yC_sw h]; exact yC_k (bit_sw h) hT hS
theorem yC_sk (h : k = 0 ∨ k = 1) (hS : S.Ok) (hT : T.Ok) : (yC k S T).take (0 + k * 368) ++ U.cells ++ (yC k S T).drop (0 + k * 368 + 368) = yC k U T := by
 have h1 := TR.cells_len hS
 have h2 := TR.cells_len hT
 rcases h with rfl | rfl
 ·show (S.cells ++ T.cells).take 0 ++ U.cells ++ (S.cells ++ T.cells).drop 368 = U.cells ++ T.cells
  rw [List.drop_left' h1, List.take_zero, List.nil_append]
 ·show (T.cells ++ S.cells).take 368 ++ U.cells ++ (T.cells ++ S.cells).drop 736 = T.cells ++ U.cells
  rw [List.take_left' h2, List.drop_of_length_le (by rw [List.length_append]; omega), List.append_nil]
theorem yC_ln (h : k = 0 ∨ k = 1) (hS : S.Ok) (hT : T.Ok) : Nat.ble (0 + k * 368 + 368) (yC k S T).length = true := by
 have h1 := TR.cells_len hS
 have h2 := TR.cells_len hT
 rw [Nat.ble_eq]
 rcases h with rfl | rfl
 ·show 368 ≤ (S.cells ++ T.cells).length; rw [List.length_append]; omega
 ·show 736 ≤ (T.cells ++ S.cells).length; rw [List.length_append]; omega
end
section
variable {n : Nat} {ops : Array Oper} {Q : Post} {rest : List Oper} {e : Env} {w : World} {s : Ro} {rs : List Asn} {tt : Nat} {pp : String} {af : Array Edge} {g : Option (Nat × Bool)} {d : Nat}
variable {P : Program} {x y : Operand} {b k : Nat} {tp : TypeId} {p q v : Value} {S T U : TR} {f : List Value → List Asn}
theorem X.lk {ty : TypeId} [OneC P ty] (H : Holds s w rs) (h : L P n ops Q rest (upd e d p) w) (hw : wg n ops g e = true := by rfl) (hd : Nat.blt d n = true := by rfl) (hx : ev e x = .pointer (some ⟨b, 0 + k * 1, none⟩) := by rfl) (V : PutV rs b tp (two k p q) f := by infer_instance) (hk : k = 0 ∨ k = 1 := by assumption) : L P n ops Q (⟨some d, .load ty x, tt, pp, af, g⟩ :: rest) e w := X.ld H h hw hd hx V (two_k hk)
theorem X.lo {ty : TypeId} [OneC P ty] (H : Holds s w rs) (h : L P n ops Q rest (upd e d q) w) (hw : wg n ops g e = true := by rfl) (hd : Nat.blt d n = true := by rfl) (hx : ev e x = .pointer (some ⟨b, 0 + (1 - k) * 1, none⟩) := by rfl) (V : PutV rs b tp (two k p q) f := by infer_instance) (hk : k = 0 ∨ k = 1 := by assumption) : L P n ops Q (⟨some d, .load ty x, tt, pp, af, g⟩ :: rest) e w := X.ld H h hw hd hx V (two_o hk)
theorem X.sk {ty : TypeId} [T : OneC P ty] (H : Holds s w rs) (h : ∀ w', Holds s w' (f (two k v q)) → L P n ops Q rest e w') (hw : wg n ops g e = true := by rfl) (hx : ev e x = .pointer (some ⟨b, 0 + k * 1, none⟩) := by rfl) (V : PutV rs b tp (two k p q) f := by infer_instance) (hy : ev e y = v := by conv => lhs; whnf) (h1 : v.oneCell' = true := by rfl) (hk : k = 0 ∨ k = 1 := by assumption) : L P n ops Q (⟨none, .store ty x y, tt, pp, af, g⟩ :: rest) e w := by
 obtain ⟨i, hi, hf⟩ := V.ix
 exact K.store i H hw hx hi hy h1 (two_lt hk) (fun w' H' => h w' (by rw [hf, two_sk hk] at H'; exact H'))
theorem X.so {ty : TypeId} [T : OneC P ty] (H : Holds s w rs) (h : ∀ w', Holds s w' (f (two k p v)) → L P n ops Q rest e w') (hw : wg n ops g e = true := by rfl) (hx : ev e x = .pointer (some ⟨b, 0 + (1 - k) * 1, none⟩) := by rfl) (V : PutV rs b tp (two k p q) f := by infer_instance) (hy : ev e y = v := by conv => lhs; whnf) (h1 : v.oneCell' = true := by rfl) (hk : k = 0 ∨ k = 1 := by assumption) : L P n ops Q (⟨none, .store ty x y, tt, pp, af, g⟩ :: rest) e w := by
 obtain ⟨i, hi, hf⟩ := V.ix
 exact K.store i H hw hx hi hy h1 (two_lo hk) (fun w' H' => h w' (by rw [hf, two_so hk] at H'; exact H'))
theorem X.lyk (H : Holds s w rs) (h : L Tryz.prog n ops Q rest (upd e d (.agg S.cells.toArray)) w) (hw : wg n ops g e = true := by rfl) (hd : Nat.blt d n = true := by rfl) (hx : ev e x = .pointer (some ⟨b, 0 + k * 368, none⟩) := by rfl) (V : PutV rs b tp (yC k S T) f := by infer_instance) (hk : k = 0 ∨ k = 1 := by assumption) (hS : S.Ok := by assumption) (hT : T.Ok := by assumption) : L Tryz.prog n ops Q (⟨some d, .load 41 x, tt, pp, af, g⟩ :: rest) e w :=
 X.ldp (k := 368) S.cells H h hw hd hx V (yC_k hk hS hT) (TR.cells_len hS)
theorem X.lyo (H : Holds s w rs) (h : L Tryz.prog n ops Q rest (upd e d (.agg T.cells.toArray)) w) (hw : wg n ops g e = true := by rfl) (hd : Nat.blt d n = true := by rfl) (hx : ev e x = .pointer (some ⟨b, 0 + (1 - k) * 368, none⟩) := by rfl) (V : PutV rs b tp (yC k S T) f := by infer_instance) (hk : k = 0 ∨ k = 1 := by assumption) (hS : S.Ok := by assumption) (hT : T.Ok := by assumption) : L Tryz.prog n ops Q (⟨some d, .load 41 x, tt, pp, af, g⟩ :: rest) e w :=
 X.ldp (k := 368) T.cells H h hw hd hx V (yC_o hk hS hT) (TR.cells_len hT)
theorem X.syk (H : Holds s w rs) (h : ∀ w', Holds s w' (f (yC k U T)) → L Tryz.prog n ops Q rest e w') (hw : wg n ops g e = true := by rfl) (hx : ev e x = .pointer (some ⟨b, 0 + k * 368, none⟩) := by rfl) (V : PutV rs b tp (yC k S T) f := by infer_instance) (hy : ev e y = .agg U.cells.toArray := by rfl) (hk : k = 0 ∨ k = 1 := by assumption) (hS : S.Ok := by assumption) (hT : T.Ok := by assumption) (hU : U.Ok := by assumption) : L Tryz.prog n ops Q (⟨none, .store 41 x y, tt, pp, af, g⟩ :: rest) e w :=
 X.stp (k := 368) (ys := U.cells) (yC k U T) H h hw hx V hy (yC_sk hk hS hT) (TR.cells_all hU) (TR.cells_len hU) (yC_ln hk hS hT)
theorem X.iaO {t : TypeId} {gb off sz : Nat} {one : Bool} {kk : IntKind} [A : ArrC P t 2 sz one] (h : L P n ops Q rest (upd e d (.pointer (some ⟨gb, off + (1 - k) * sz, none⟩))) w) (hw : wg n ops g e = true := by rfl) (hd : Nat.blt d n = true := by rfl) (hx : ev e x = .pointer (some ⟨gb, off, none⟩) := by rfl) (hy : ev e y = .int kk (1 - (k : Int)) := by rfl) (hk : k = 0 ∨ k = 1 := by assumption) : L P n ops Q (⟨some d, .indexAddr t x y, tt, pp, af, g⟩ :: rest) e w := K.iaA (i := 1 - k) hw hd hx hy (by omega) (by omega) h
theorem X.cvU {t u : TypeId} {a : Int} {dd : TypeDesc} [T : IntC P u .u64] (r : Nat) (hr : IntKind.u64.wrap a = (r : Int)) (hs : P.underlying t = some dd) (h : L P n ops Q rest (upd e d (.int .u64 (r : Int))) w) (hw : wg n ops g e = true := by rfl) (hd : Nat.blt d n = true := by rfl) (hx : ev e x = .int .i64 a := by rfl) : L P n ops Q (⟨some d, .convert t u x, tt, pp, af, g⟩ :: rest) e w :=
 K.convI hs hw hd hx (by rw [hr]; exact h)
end
theorem u64_nat (a : Int) : ∃ r : Nat, IntKind.u64.wrap a = (r : Int) ∧ r < 2 ^ 64 := by
 have h : IntKind.u64.wrap a = a.emod (2 ^ 64) := rfl
 have h0 := Int.emod_nonneg a (b := 2 ^ 64) (by decide)
 have h1 := Int.emod_lt_of_pos a (b := 2 ^ 64) (by decide)
 refine ⟨(a.emod (2 ^ 64)).toNat, ?_, ?_⟩
 ·rw [h]; exact (Int.toNat_of_nonneg h0).symm
 ·have h2 : a.emod (2 ^ 64) < 2 ^ 64 := h1
  omega
theorem build_s3 (a b c : ByteArray) (w : World) : (Instr.buildSlice 71 3 [(0, .string a), (1, .string b), (2, .string c)].toArray).run Tryz.prog w = .ok (.slice (some ⟨w.heap.size, 0, none⟩) 3 3) (w.alloc (.cells [.string a, .string b, .string c].toArray 9)) := by kernel_rfl
def St2 (s : Ro) (b q5 q6 q7 K k : Nat) (R : List Asn) (w : World) : Prop :=
 ∃ (bF bL bp bF' bL' bp' : Nat) (d : DM) (m m' : WL) (t t' S S' : TR) (hs hs' : List Hd), FI K (54 * k) d m t hs S ∧ FI K (54 * (1 - k)) d m' t' hs' S' ∧ PartS s bp b (XK (54 * k)) ∧ PartS s bp' b (XK (54 * (1 - k))) ∧ Holds s w (fsV bF bL t 8 hs :: logM bL bp m :: fsV bF' bL' t' 8 hs' :: logM bL' bp' m' :: dsk b d :: var q5 83 (two k (.pointer (some ⟨bp, 0, none⟩)) (.pointer (some ⟨bp', 0, none⟩))) :: var q6 84 (two k (.pointer (some ⟨bF, 0, none⟩)) (.pointer (some ⟨bF', 0, none⟩))) :: var q7 85 (yC k S S') :: R)
theorem St2.at {s : Ro} {b q5 q6 q7 K k j : Nat} {R : List Asn} {w : World} (h : St2 s b q5 q6 q7 K k R w) (hk : k = 0 ∨ k = 1) (hj : j = 0 ∨ j = 1) : St2 s b q5 q6 q7 K j R w := by
 by_cases e : j = k
 ·rw [e]; exact h
 have ej : j = 1 - k := by omega
 have ek : 1 - j = k := by omega
 obtain ⟨bF, bL, bp, bF', bL', bp', d, m, m', t, t', S, S', hs, hs', h1, h2, h3, h4, H⟩ := h
 have H' := H.arr (rs' := fsV bF' bL' t' 8 hs' :: logM bL' bp' m' :: fsV bF bL t 8 hs :: logM bL bp m :: dsk b d :: var q5 83 (two k (.pointer (some ⟨bp, 0, none⟩)) (.pointer (some ⟨bp', 0, none⟩))) :: var q6 84 (two k (.pointer (some ⟨bF, 0, none⟩)) (.pointer (some ⟨bF', 0, none⟩))) :: var q7 85 (yC k S S') :: R)
 rw [two_sw hk, two_sw (p := .pointer (some ⟨bF, 0, none⟩)) hk, yC_sw hk, ← ej] at H'
 rw [← ej] at h2 h4
 rw [← ek] at h1 h3
 exact ⟨bF', bL', bp', bF, bL, bp, d, m', m, t', t, S', S, hs', hs, h2, h1, h4, h3, H'⟩
def Pre2 (s : Ro) (b q5 q6 q7 i : Nat) (w : World) : Prop :=
 ∃ (d : DM) (po pF : Value) (So : TR) (R : List Asn), Fr0 110 d ∧ d.pend = [] ∧ secF (54 * i) d 0 = z64 ∧ So.Ok ∧ Holds s w (dsk b d :: var q5 83 (two i (.pointer none) po) :: var q6 84 (two i (.pointer none) pF) :: var q7 85 (yC i TR.zero So) :: R) ∧
  ((i = 0 ∧ d = DM.new 110 ∧ R = [] ∧ po = .pointer none ∧ pF = .pointer none ∧ So = TR.zero) ∨ (i = 1 ∧ d = dA ∧ ∃ bF bL bp, PartS s bp b (XK 0) ∧ po = .pointer (some ⟨bp, 0, none⟩) ∧ pF = .pointer (some ⟨bF, 0, none⟩) ∧ So = TR.new ∧ R = [fsV bF bL TR.new 8 (List.replicate 4 Hd.zero), logM bL bp awM]))
end Go.Proofs.YtgilmcpdpggikaaGreatDoor

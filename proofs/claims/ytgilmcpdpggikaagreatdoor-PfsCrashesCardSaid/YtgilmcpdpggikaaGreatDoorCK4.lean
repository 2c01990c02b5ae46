/- Squeezed copy of the texts K4 K8 Ta Tm K6. -/
import Derived.Test.YtgilmcpdpggikaaGreatDoorCK3
set_option maxRecDepth 100000
set_option maxHeartbeats 1000000
set_option linter.unusedSimpArgs false
set_option linter.unusedVariables false
namespace Go.Own
open Go Go.RowKit
def putL (xs : List Value) (off : Nat) (ys : List Value) : List Value := xs.take off ++ ys ++ xs.drop (off + ys.length)
section
variable {P : Program} {n : Nat} {ops : Array Oper} {Q : Post} {rest : List Oper} {e : Env} {w w' : World} {s : Ro} {rs : List Asn} {tt : Nat} {pp : String} {af : Array Edge} {g : Option (Nat × Bool)} {d : Nat}
theorem X.nilS {x y : Operand} {t u el : TypeId} {sz by_ : Nat} {zz : List Value} [E : ElC P t el sz by_ zz] {a : Option Addr} {m c : Nat} {r : Bool} (h : L P n ops Q rest (upd e d (.bool r)) w) (hw : wg n ops g e = true := by rfl) (hd : Nat.blt d n = true := by rfl) (hx : ev e x = .slice a m c := by rfl) (hy : ev e y = .slice none 0 0 := by rfl) (hr : a.isNone = r := by rfl) : L P n ops Q (⟨some d, .binOp .eql t x y u, tt, pp, af, g⟩ :: rest) e w := by
 obtain ⟨v, E', _⟩ := E.el
 subst hr
 refine L.val (o := ⟨some d, .binOp .eql t x y u, tt, pp, af, g⟩) _ w hw hd ?_ h
 unfold execOp
 simp [hx, hy, eqGuard, Lib.run_eql_slice_nil w t el a m c 0 0 E'.slice]
theorem flatS_set {α : Type} {f : α → List Value} {sz : Nat} : ∀ (l : List α), (∀ x ∈ l, (f x).length = sz) → ∀ (i j : Nat) (v : Value) (x' : α) (hi : i < l.length), j < sz → f x' = (f l[i]).set j v → (l.flatMap f).set (i * sz + j) v = (l.set i x').flatMap f
 | [], _, i, j, v, x', hi, _, _ => by simp at hi
 | x :: l, hf, 0, j, v, x', hi, hj, he => by
  have hx := hf x (by simp)
  simp only [List.getElem_cons_zero] at he
  rw [List.set_cons_zero, List.flatMap_cons, List.flatMap_cons, Nat.zero_mul, Nat.zero_add, List.set_append_left _ _ (by omega), he]
 | x :: l, hf, i + 1, j, v, x', hi, hj, he => by
  have hx := hf x (by simp)
  have e1 : (i + 1) * sz + j - (f x).length = i * sz + j := by rw [hx, Nat.add_mul]; omega
  rw [List.set_cons_succ, List.flatMap_cons, List.flatMap_cons, List.set_append_right _ _ (by rw [hx, Nat.add_mul]; omega), e1, flatS_set l (fun y hy => hf y (by simp [hy])) i j v x' (by simpa using hi) hj (by simpa using he)]
theorem flatS_put {α : Type} {f : α → List Value} {sz : Nat} : ∀ (l : List α), (∀ x ∈ l, (f x).length = sz) → ∀ (i j : Nat) (ys : List Value) (x' : α) (hi : i < l.length), j + ys.length ≤ sz → f x' = putL (f l[i]) j ys → putL (l.flatMap f) (i * sz + j) ys = (l.set i x').flatMap f
 | [], _, i, j, v, x', hi, _, _ => by simp at hi
 | x :: l, hf, 0, j, ys, x', hi, hj, he => by
  have hx := hf x (by simp)
  simp only [List.getElem_cons_zero] at he
  rw [List.set_cons_zero, List.flatMap_cons, List.flatMap_cons, Nat.zero_mul, Nat.zero_add, he]
  unfold putL
  rw [List.take_append_of_le_length (by omega), List.drop_append_of_le_length (by omega)]
  simp
 | x :: l, hf, i + 1, j, ys, x', hi, hj, he => by
  have hx := hf x (by simp)
  have ih := flatS_put l (fun y hy => hf y (by simp [hy])) i j ys x' (by simpa using hi) hj (by simpa using he)
  rw [List.set_cons_succ, List.flatMap_cons, List.flatMap_cons, ← ih]
  have e1 : (i + 1) * sz + j = (f x).length + (i * sz + j) := by rw [hx, Nat.add_mul]; omega
  unfold putL
  rw [e1, List.take_append, List.take_of_length_le (by omega), Nat.add_sub_cancel_left, Nat.add_assoc, List.drop_append, List.drop_of_length_le (by omega), Nat.add_sub_cancel_left]
  simp
theorem flatS_part {α : Type} {f : α → List Value} {sz : Nat} (l : List α) (hf : ∀ x ∈ l, (f x).length = sz) (i j k : Nat) (hi : i < l.length) (hj : j + k ≤ sz) : ((l.flatMap f).drop (i * sz + j)).take k = ((f l[i]).drop j).take k := by
 apply List.ext_getElem?
 intro q
 rw [List.getElem?_take, List.getElem?_take]
 split
 ·rw [List.getElem?_drop, List.getElem?_drop, Nat.add_assoc, flat_get l hf i (j + q) hi (by omega)]
 ·rfl
theorem flat_mem {α : Type} {f : α → List Value} {l : List α} (h : ∀ x ∈ l, ∀ v ∈ f x, v.oneCell' = true) : ∀ v ∈ l.flatMap f, v.oneCell' = true := by
 intro v hv
 obtain ⟨x, hx, hv⟩ := List.mem_flatMap.1 hv
 exact h x hx v hv
theorem resV {fn : Func} {r ty k : Nat} [T : RowC P ty k] {b t : Nat} {cs : List Value} {f : List Value → List Asn} (H : Holds s w rs) (h : fn.results = #[.cell r ty]) (hr : e r = .pointer (some ⟨b, 0, none⟩) := by rfl) (V : PutV rs b t cs f := by infer_instance) (hn : cs.length = k := by rfl) : ResE P fn e w (.agg cs.toArray) := by
 obtain ⟨i, hi, _⟩ := V.ix
 exact resC i H h hr hi hn
theorem resVT {fn : Func} {r ty k u : Nat} [T : RowC P ty k] {b t : Nat} {cs : List Value} {f : List Value → List Asn} (H : Holds s w rs) (h : fn.results = #[.cell r ty, .tmp u]) (hr : e r = .pointer (some ⟨b, 0, none⟩) := by rfl) (V : PutV rs b t cs f := by infer_instance) (hn : cs.length = k := by rfl) : ResE P fn e w (.tuple #[.agg cs.toArray, e u]) := by
 obtain ⟨i, hi, _⟩ := V.ix
 exact resCT i H h hr hi hn
end
section
variable {P : Program} {n : Nat} {ops : Array Oper} {Q : Post} {rest : List Oper} {e : Env} {w w' : World} {s : Ro} {rs : List Asn} {tt : Nat} {pp : String} {af : Array Edge} {g : Option (Nat × Bool)} {d : Nat}
theorem X.ldp {ty : TypeId} {x : Operand} {k : Nat} [RowC P ty k] {b off : Nat} {t : TypeId} {cs : List Value} {f : List Value → List Asn} (ys : List Value) (H : Holds s w rs) (h : L P n ops Q rest (upd e d (.agg ys.toArray)) w) (hw : wg n ops g e = true := by rfl) (hd : Nat.blt d n = true := by rfl) (hx : ev e x = .pointer (some ⟨b, off, none⟩) := by rfl) (T : PutV rs b t cs f := by infer_instance) (hys : (cs.drop off).take k = ys := by rfl) (hn : ys.length = k := by rfl) : L P n ops Q (⟨some d, .load ty x, tt, pp, af, g⟩ :: rest) e w := by
 obtain ⟨i, hi, _⟩ := T.ix
 exact K.loadPart i ys H hw hd hx hi hys hn h
theorem X.stp {ty : TypeId} {x y : Operand} {k : Nat} [T : RowC P ty k] {b off : Nat} {t : TypeId} {cs ys : List Value} {f : List Value → List Asn} (cs' : List Value) (H : Holds s w rs) (h : ∀ w', Holds s w' (f cs') → L P n ops Q rest e w') (hw : wg n ops g e = true := by rfl) (hx : ev e x = .pointer (some ⟨b, off, none⟩) := by rfl) (V : PutV rs b t cs f := by infer_instance) (hy : ev e y = .agg ys.toArray := by rfl) (hcs : cs.take off ++ ys ++ cs.drop (off + k) = cs' := by rfl) (h1 : ys.all Value.oneCell' = true := by rfl) (hn : ys.length = k := by rfl) (hl : Nat.ble (off + k) cs.length = true := by rfl) : L P n ops Q (⟨none, .store ty x y, tt, pp, af, g⟩ :: rest) e w := by
 obtain ⟨i, hi, hf⟩ := V.ix
 subst hcs
 refine ⟨fun a ha => sl_storepart i H (by rw [ha.wn]; exact hw) rfl (by rw [ha.eval]; exact hx) hi (by rw [ha.eval]; exact hy) (fun v hv => List.all_eq_true.1 h1 v hv) hn (Nat.le_of_ble_eq_true hl) (fun w' H' => ?_)⟩
 rw [hf] at H'
 exact (h w' H').go _ (ha.put (d := none) rfl _)
theorem X.ldq {ty : TypeId} {x : Operand} {k : Nat} [RowC P ty k] {b off : Nat} {v : Value} {cs : List Value} (H : Holds s w rs) (h : L P n ops Q rest (upd e d (.agg cs.toArray)) w) (hw : wg n ops g e = true := by rfl) (hd : Nat.blt d n = true := by rfl) (hx : ev e x = .pointer (some ⟨b, off, none⟩) := by rfl) (hp : ∀ j v, cs[j]? = some v → Pin s b (off + j) v := by assumption) (hn : cs.length = k := by rfl) : L P n ops Q (⟨some d, .load ty x, tt, pp, af, g⟩ :: rest) e w := K.loadAllS H hp hw hd hx rfl hn h
end
end Go.Own
namespace Go.Proofs.YtgilmcpdpggikaaGreatDoor
open Go Go.RowKit Go.Own
abbrev Str := List UInt8
structure Nd where
 kind : Int
 parent : Int
 name : Str
 size : Int
 b0 : Int
 b1 : Int
deriving DecidableEq
def Nd.zero : Nd := ⟨0, 0, [], 0, 0, 0⟩
def Nd.root : Nd := ⟨1, 0, [], 0, 0, 0⟩
def Nd.cells (n : Nd) : List Value := [.int .i64 n.kind, .int .i64 n.parent, .string ⟨n.name.toArray⟩, .int .i64 n.size, .int .i64 n.b0, .int .i64 n.b1]
def Nd.blk (n : Nd) (j : Nat) : Int := if j = 0 then n.b0 else n.b1
def Nd.setBlk (n : Nd) (j : Nat) (v : Int) : Nd := if j = 0 then { n with b0 := v } else { n with b1 := v }
structure TR where
 nd : List Nd
 bl : List Str
deriving DecidableEq
def TR.cells (t : TR) : List Value := t.nd.flatMap Nd.cells ++ t.bl.flatMap u8s
structure TR.Ok (t : TR) : Prop where
 n8 : t.nd.length = 8
 b8 : t.bl.length = 8
 b40 : ∀ b ∈ t.bl, b.length = 40
def TR.n (t : TR) (i : Nat) : Nd := t.nd[i]?.getD Nd.zero
def TR.b (t : TR) (i : Nat) : Str := t.bl[i]?.getD []
def TR.set (t : TR) (i : Nat) (x : Nd) : TR := ⟨t.nd.set i x, t.bl⟩
def TR.setB (t : TR) (i : Nat) (x : Str) : TR := ⟨t.nd, t.bl.set i x⟩
def TR.zero : TR := ⟨List.replicate 8 Nd.zero, List.replicate 8 (List.replicate 40 0)⟩
def TR.new : TR := ⟨Nd.root :: List.replicate 7 Nd.zero, List.replicate 8 (List.replicate 40 0)⟩
theorem Nd.cells_len (n : Nd) : n.cells.length = 6 := rfl
theorem Nd.cells_one (n : Nd) : ∀ v ∈ n.cells, v.oneCell' = true := by
 intro v hv
 simp only [Nd.cells, List.mem_cons, List.not_mem_nil, or_false] at hv
 rcases hv with rfl | rfl | rfl | rfl | rfl | rfl <;> rfl
theorem flatS_len {α : Type} {f : α → List Value} {sz : Nat} : ∀ (l : List α), (∀ x ∈ l, (f x).length = sz) → (l.flatMap f).length = l.length * sz
 | [], _ => by simp
 | x :: l, h => by
  rw [List.flatMap_cons, List.length_append, h x (by simp), flatS_len l (fun y hy => h y (by simp [hy])), List.length_cons, Nat.add_mul]; omega
section
variable {t : TR}
theorem TR.nd_len (h : t.Ok) : (t.nd.flatMap Nd.cells).length = 48 := by
 rw [flatS_len t.nd (fun x _ => Nd.cells_len x), h.n8]
theorem TR.bl_len (h : t.Ok) : (t.bl.flatMap u8s).length = 320 := by
 rw [flatS_len t.bl (sz := 40) (fun x hx => by rw [u8s_len]; exact h.b40 x hx), h.b8]
theorem TR.cells_len (h : t.Ok) : t.cells.length = 368 := by
 rw [TR.cells, List.length_append, t.nd_len h, t.bl_len h]
theorem TR.cells_one (h : t.Ok) : ∀ v ∈ t.cells, v.oneCell' = true := by
 intro v hv
 rcases List.mem_append.1 hv with hv | hv
 ·exact flat_mem (fun x _ => Nd.cells_one x) v hv
 ·exact flat_mem (fun x _ => u8s_one x) v hv
theorem TR.cells_all (h : t.Ok) : t.cells.all Value.oneCell' = true := List.all_eq_true.2 fun v hv => TR.cells_one h v hv
theorem TR.n_eq (h : t.Ok) {i : Nat} (hi : i < 8) : t.nd[i]? = some (t.n i) := by
 unfold TR.n
 rw [List.getElem?_eq_getElem (by rw [h.n8]; exact hi)]
 rfl
theorem TR.b_eq (h : t.Ok) {i : Nat} (hi : i < 8) : t.bl[i]? = some (t.b i) := by
 unfold TR.b
 rw [List.getElem?_eq_getElem (by rw [h.b8]; exact hi)]
 rfl
theorem TR.b_len (h : t.Ok) {i : Nat} (hi : i < 8) : (t.b i).length = 40 := h.b40 _ (List.mem_of_getElem? (TR.b_eq h hi))
theorem TR.n_get (h : t.Ok) {i : Nat} (hi : i < 8) : t.n i = t.nd[i]'(by rw [h.n8]; exact hi) := by
 unfold TR.n
 rw [List.getElem?_eq_getElem (by rw [h.n8]; exact hi)]
 rfl
theorem TR.b_get (h : t.Ok) {i : Nat} (hi : i < 8) : t.b i = t.bl[i]'(by rw [h.b8]; exact hi) := by
 unfold TR.b
 rw [List.getElem?_eq_getElem (by rw [h.b8]; exact hi)]
 rfl
theorem TR.cell (h : t.Ok) {i : Nat} (hi : i < 8) (k : Nat) (v : Value) (hv : (t.n i).cells[k]? = some v) : t.cells[0 + i * 6 + k]? = some v := by
 have hk : k < 6 := by
  rw [← Nd.cells_len (t.n i)]
  exact (List.getElem?_eq_some_iff.1 hv).1
 rw [Nat.zero_add, TR.cells, List.getElem?_append_left (by rw [t.nd_len h]; omega), flat_get t.nd (fun x _ => Nd.cells_len x) i k (by rw [h.n8]; exact hi) hk, ← TR.n_get h hi]
 exact hv
theorem TR.cell0 (h : t.Ok) {i : Nat} (hi : i < 8) : t.cells[0 + i * 6]? = some (.int .i64 (t.n i).kind) := TR.cell h hi 0 _ rfl
theorem TR.node (h : t.Ok) {i : Nat} (hi : i < 8) : (t.cells.drop (0 + i * 6)).take 6 = (t.n i).cells := by
 have h0 : i * 6 ≤ (t.nd.flatMap Nd.cells).length := by rw [t.nd_len h]; omega
 rw [Nat.zero_add, TR.cells, List.drop_append_of_le_length h0, List.take_append_of_le_length (by rw [List.length_drop, t.nd_len h]; omega)]
 have := flatS_part (f := Nd.cells) t.nd (fun x _ => Nd.cells_len x) i 0 6 (by rw [h.n8]; exact hi) (by omega)
 rw [Nat.add_zero] at this
 rw [this, ← TR.n_get h hi]
 rfl
theorem TR.blks (h : t.Ok) {i : Nat} (hi : i < 8) : (t.cells.drop (0 + i * 6 + 4)).take 2 = [.int .i64 (t.n i).b0, .int .i64 (t.n i).b1] := by
 have h0 : i * 6 + 4 ≤ (t.nd.flatMap Nd.cells).length := by rw [t.nd_len h]; omega
 rw [Nat.zero_add, TR.cells, List.drop_append_of_le_length h0, List.take_append_of_le_length (by rw [List.length_drop, t.nd_len h]; omega)]
 rw [flatS_part (f := Nd.cells) t.nd (fun x _ => Nd.cells_len x) i 4 2 (by rw [h.n8]; exact hi) (by omega), ← TR.n_get h hi]
 rfl
theorem TR.byte (h : t.Ok) {k q : Nat} (hk : k < 8) (hq : q < 40) {x : UInt8} (hx : (t.b k)[q]? = some x) : t.cells[48 + k * 40 + q * 1]? = some (u8 x) := by
 rw [TR.cells, List.getElem?_append_right (by rw [t.nd_len h]; omega), t.nd_len h, show 48 + k * 40 + q * 1 - 48 = k * 40 + q by omega, flat_get t.bl (sz := 40) (fun x hx => by rw [u8s_len]; exact h.b40 x hx) k q (by rw [h.b8]; exact hk) hq, ← TR.b_get h hk]
 simp [u8s, hx]
theorem TR.nodes (h : t.Ok) : (t.cells.drop 0).take 48 = t.nd.flatMap Nd.cells := by
 rw [TR.cells, List.drop_zero, List.take_append_of_le_length (by rw [t.nd_len h]; omega), List.take_of_length_le (by rw [t.nd_len h]; omega)]
theorem TR.blocks (h : t.Ok) : (t.cells.drop 48).take 320 = t.bl.flatMap u8s := by
 rw [TR.cells, List.drop_append, List.drop_of_length_le (by rw [t.nd_len h]; omega), t.nd_len h, List.nil_append, List.drop_zero, List.take_of_length_le (by rw [t.bl_len h]; omega)]
theorem TR.ok_set (h : t.Ok) (i : Nat) (x : Nd) : (t.set i x).Ok := ⟨by simp [TR.set, h.n8], h.b8, h.b40⟩
theorem TR.ok_setB (h : t.Ok) (i : Nat) {x : Str} (hx : x.length = 40) : (t.setB i x).Ok := ⟨h.n8, by simp [TR.setB, h.b8], fun b hb => by
 rcases List.mem_or_eq_of_mem_set hb with hb | rfl
 ·exact h.b40 b hb
 ·exact hx⟩
theorem TR.n_set (h : t.Ok) {i : Nat} (hi : i < 8) (x : Nd) (j : Nat) : (t.set i x).n j = if i = j then x else t.n j := by
 unfold TR.n TR.set
 by_cases e : i = j
 ·subst e; rw [if_pos rfl, List.getElem?_set_self (by rw [h.n8]; exact hi)]; rfl
 ·rw [if_neg e, List.getElem?_set_ne e]
theorem TR.b_setB (h : t.Ok) {i : Nat} (hi : i < 8) (x : Str) (j : Nat) : (t.setB i x).b j = if i = j then x else t.b j := by
 unfold TR.b TR.setB
 by_cases e : i = j
 ·subst e; rw [if_pos rfl, List.getElem?_set_self (by rw [h.b8]; exact hi)]; rfl
 ·rw [if_neg e, List.getElem?_set_ne e]
theorem TR.b_set (i : Nat) (x : Nd) (j : Nat) : (t.set i x).b j = t.b j := rfl
theorem TR.put_cell (h : t.Ok) {i k : Nat} (hi : i < 8) (hk : k < 6) (v : Value) (x : Nd) (hx : x.cells = (t.n i).cells.set k v) : t.cells.set (0 + i * 6 + k) v = (t.set i x).cells := by
 rw [Nat.zero_add, TR.cells, List.set_append_left _ _ (by rw [t.nd_len h]; omega), flatS_set (f := Nd.cells) t.nd (fun x _ => Nd.cells_len x) i k v x (by rw [h.n8]; exact hi) hk (by rw [hx, TR.n_get h hi])]
 rfl
theorem putL_left {xs ys zs : List Value} {off : Nat} (h : off + ys.length ≤ xs.length) : putL (xs ++ zs) off ys = putL xs off ys ++ zs := by
 unfold putL
 rw [List.take_append_of_le_length (by omega), List.drop_append_of_le_length h]
 simp
theorem putL_right {xs ys zs : List Value} {off : Nat} (h : xs.length ≤ off) : putL (xs ++ zs) off ys = xs ++ putL zs (off - xs.length) ys := by
 unfold putL
 rw [List.take_append, List.take_of_length_le h, List.drop_append, List.drop_of_length_le (by omega), show off + ys.length - xs.length = off - xs.length + ys.length by omega]
 simp
theorem TR.put_part (h : t.Ok) {i k : Nat} (hi : i < 8) (ys : List Value) (hk : k + ys.length ≤ 6) (x : Nd) (hx : x.cells = putL (t.n i).cells k ys) : putL t.cells (0 + i * 6 + k) ys = (t.set i x).cells := by
 rw [Nat.zero_add, TR.cells, putL_left (by rw [t.nd_len h]; omega), flatS_put (f := Nd.cells) t.nd (fun x _ => Nd.cells_len x) i k ys x (by rw [h.n8]; exact hi) hk (by rw [hx, TR.n_get h hi])]
 rfl
theorem TR.put_block (h : t.Ok) {k : Nat} (hk : k < 8) {x : Str} (hx : x.length = 40) : putL t.cells (48 + k * 40) (u8s x) = (t.setB k x).cells := by
 have e := flatS_put (f := u8s) (sz := 40) t.bl (fun x hx => by rw [u8s_len]; exact h.b40 x hx) k 0 (u8s x) x (by rw [h.b8]; exact hk) (by rw [u8s_len, hx]; omega) (by
  have hl : (u8s (t.bl[k]'(by rw [h.b8]; exact hk))).length = 40 := by rw [u8s_len]; exact h.b40 _ (List.getElem_mem _)
  unfold putL
  rw [List.take_zero, List.nil_append, List.drop_of_length_le (by rw [hl, u8s_len, hx]; omega), List.append_nil])
 rw [Nat.add_zero] at e
 rw [TR.cells, putL_right (by rw [t.nd_len h]; omega), t.nd_len h, show 48 + k * 40 - 48 = k * 40 by omega, e]
 rfl
theorem TR.put_byte (h : t.Ok) {k q : Nat} (hk : k < 8) (hq : q < 40) (x : UInt8) : t.cells.set (48 + k * 40 + q * 1) (u8 x) = (t.setB k ((t.b k).set q x)).cells := by
 rw [TR.cells, List.set_append_right _ _ (by rw [t.nd_len h]; omega), t.nd_len h, show 48 + k * 40 + q * 1 - 48 = k * 40 + q by omega, flatS_set (f := u8s) (sz := 40) t.bl (fun x hx => by rw [u8s_len]; exact h.b40 x hx) k q (u8 x) ((t.b k).set q x) (by rw [h.b8]; exact hk) hq (by rw [TR.b_get h hk]; simp [u8s, List.map_set])]
 rfl
theorem TR.ok_zero : TR.zero.Ok := ⟨rfl, rfl, fun b hb => by rw [List.eq_of_mem_replicate hb]; rfl⟩
theorem TR.ok_new : TR.new.Ok := ⟨rfl, rfl, fun b hb => by rw [List.eq_of_mem_replicate hb]; rfl⟩
end
end Go.Proofs.YtgilmcpdpggikaaGreatDoor
namespace Go.Proofs.YtgilmcpdpggikaaGreatDoor
open Go Go.RowKit Go.Own
def okc (c : UInt8) : Bool := decide (97 ≤ c.toNat ∧ c.toNat ≤ 122 ∨ 48 ≤ c.toNat ∧ c.toNat ≤ 57 ∨ c.toNat = 46 ∨ c.toNat = 95)
def isNameM (s : Str) : Bool := decide (1 ≤ s.length ∧ s.length ≤ 8) && s.all okc
def cutS : Str → Str × Option Str
 | [] => ([], none)
 | c :: r => if c = 47 then ([], some r) else (c :: (cutS r).1, (cutS r).2)
theorem cutS_len : ∀ (s r : Str), (cutS s).2 = some r → r.length < s.length
 | [], r, h => by simp [cutS] at h
 | c :: s, r, h => by
  unfold cutS at h
  split at h
  ·simp at h; subst h; simp
  ·have := cutS_len s r h
   simp; omega
def parts (s : Str) : List Str :=
 match h : (cutS s).2 with
 | none => [(cutS s).1]
 | some r => (cutS s).1 :: parts r
termination_by s.length
decreasing_by exact cutS_len s r h
theorem parts_none {s : Str} (h : (cutS s).2 = none) : parts s = [(cutS s).1] := by
 rw [parts]
 split
 ·rfl
 ·rename_i r h2; rw [h] at h2; cases h2
theorem parts_some {s r : Str} (h : (cutS s).2 = some r) : parts s = (cutS s).1 :: parts r := by
 rw [parts]
 split
 ·rename_i h2; rw [h] at h2; cases h2
 ·rename_i r' h2; rw [h] at h2; cases h2; rfl
def namesM (p : Str) : List Str := if p = [47] then [] else parts (p.drop 1)
def isPathM (p : Str) : Bool := decide (p = [47]) || (decide (p ≠ [] ∧ p.length ≤ 72 ∧ p[0]? = some 47) && (namesM p).all isNameM)
def isInnerM (p : Str) : Bool := decide (p ≠ [47]) && isPathM p
def lastM : Str → Option Nat
 | [] => none
 | c :: r => match lastM r with
  | some i => some (i + 1)
  | none => if c = 47 then some 0 else none
def splitM (p : Str) : Str × Str := match lastM p with
 | some 0 => ([47], p.drop 1)
 | some i => (p.take i, p.drop (i + 1))
 | none => ([], [])
def childFrom (t : TR) (dir : Int) (nm : Str) : Nat → Nat → Int
 | 0, _ => -1
 | f + 1, i => if (t.n i).kind ≠ 0 ∧ (t.n i).parent = dir ∧ (t.n i).name = nm then (i : Int) else childFrom t dir nm f (i + 1)
def childM (t : TR) (dir : Int) (nm : Str) : Int := childFrom t dir nm 7 1
def walkM (t : TR) : List Str → Int → Int × Int
 | [], a => (a, 0)
 | nm :: r, a => if (t.n a.toNat).kind ≠ 1 then (0, 170) else if childM t a nm < 0 then (0, 6) else walkM t r (childM t a nm)
def findM (t : TR) (p : Str) : Int × Int := if isPathM p = true then walkM t (namesM p) 0 else (0, 1)
def kindOfM (t : TR) (p : Str) (k : Int) : Int × Int := if (findM t p).2 ≠ 0 then (0, (findM t p).2) else if (t.n (findM t p).1.toNat).kind ≠ k then (0, 170) else ((findM t p).1, 0)
def rootedFrom (t : TR) : Nat → Int → Bool
 | 0, i => decide (i = 0)
 | f + 1, i => if i = 0 then true else if (t.n i.toNat).parent < 0 ∨ 8 ≤ (t.n i.toNat).parent then false else rootedFrom t f (t.n i.toNat).parent
def rootedM (t : TR) (i : Int) : Bool := rootedFrom t 8 i
abbrev Shaped (n : Nd) : Prop := (n.kind = 1 ∧ n.size = 0 ∧ n.b0 = 0 ∧ n.b1 = 0) ∨ (n.kind = 2 ∧ 0 ≤ n.size ∧ n.size ≤ 80 ∧ (n.size ≤ 0 → n.b0 = 0) ∧ (0 < n.size → 1 ≤ n.b0 ∧ n.b0 ≤ 8) ∧ (n.size ≤ 40 → n.b1 = 0) ∧ (40 < n.size → 1 ≤ n.b1 ∧ n.b1 ≤ 8))
abbrev Fits (t : TR) (i : Nat) : Prop := 0 ≤ (t.n i).parent ∧ (t.n i).parent < 8 ∧ (t.n (t.n i).parent.toNat).kind = 1 ∧ isNameM (t.n i).name = true ∧ rootedM t i = true ∧ Shaped (t.n i)
abbrev Same (x y : Nd) : Prop := x.parent = y.parent ∧ x.name = y.name
def Lone (t : TR) (i : Nat) : Prop := ∀ j : Nat, j < i → 1 ≤ j → t.n j ≠ Nd.zero → ¬ Same (t.n j) (t.n i)
instance {t : TR} {i : Nat} : Decidable (Lone t i) := by unfold Lone; infer_instance
def OkAt (t : TR) (i : Nat) : Prop := t.n i = Nd.zero ∨ (Fits t i ∧ Lone t i)
instance {t : TR} {i : Nat} : Decidable (OkAt t i) := by unfold OkAt; infer_instance
def least (a b : Int) : Int := if b < a then b else a
def mark (m : List (Option Int)) (b len : Int) : Option (List (Option Int)) := if b = 0 then some m else if (m[(b - 1).toNat]?.getD none).isSome = true then none else some (m.set (b - 1).toNat (some len))
def marks (x : Nd) (m : List (Option Int)) : Option (List (Option Int)) := (mark m x.b0 (least x.size 40)).bind fun m => mark m x.b1 (least (x.size - 40) 40)
def markFrom (t : TR) : Nat → Nat → List (Option Int) → Option (List (Option Int))
 | 0, _, m => some m
 | f + 1, i, m => (marks (t.n i) m).bind (markFrom t f (i + 1))
def markAll (t : TR) : Option (List (Option Int)) := markFrom t 8 0 (List.replicate 8 none)
def lenOf (m : List (Option Int)) (k : Nat) : Int := (m[k]?.getD none).getD 0
def Clean (t : TR) (m : List (Option Int)) (k : Nat) : Prop := ∀ q : Nat, q < 40 → lenOf m k ≤ (q : Int) → (t.b k)[q]? = some 0
instance {t : TR} {m : List (Option Int)} {k : Nat} : Decidable (Clean t m k) := by unfold Clean; infer_instance
def blocksFitM (t : TR) : Bool := match markAll t with
 | none => false
 | some m => decide (∀ k : Nat, k < 8 → Clean t m k)
def checkM (t : TR) : Bool := decide (t.n 0 = Nd.root) && decide (∀ i : Nat, i < 8 → 1 ≤ i → OkAt t i) && blocksFitM t
def Nd.nblk (n : Nd) : Nat := (if n.b0 ≠ 0 then 1 else 0) + (if n.b1 ≠ 0 then 1 else 0)
def usedN (t : TR) : Nat := (t.nd.map Nd.nblk).sum
def hasB (t : TR) (b : Int) : Bool := t.nd.any fun n => decide (n.b0 = b ∨ n.b1 = b)
def unusedFrom (t : TR) : Nat → Nat → Nat
 | 0, _ => 0
 | f + 1, b => if hasB t b = true then unusedFrom t f (b + 1) else b
def unusedM (t : TR) : Nat := unusedFrom t 8 1
def growJ (t : TR) (f : Nat) (size quota : Int) (j : Nat) : Option TR :=
 if size ≤ j * 40 ∨ (t.n f).blk j ≠ 0 then some t else if unusedM t = 0 ∨ quota ≤ usedN t then none else some (t.set f ((t.n f).setBlk j (unusedM t)))
def growM (t : TR) (f : Nat) (size quota : Int) : Option TR := (growJ t f size quota 0).bind fun t => (growJ t f size quota 1).map fun t => t.set f { t.n f with size := size }
def pokeM (t : TR) (f p : Nat) (c : UInt8) : TR := t.setB ((t.n f).blk (p / 40) - 1).toNat ((t.b ((t.n f).blk (p / 40) - 1).toNat).set (p % 40) c)
def pokesM (t : TR) (f : Nat) : Nat → Str → TR
 | _, [] => t
 | p, c :: r => pokesM (pokeM t f p c) f (p + 1) r
def peekM (t : TR) (f p : Nat) : UInt8 := (t.b ((t.n f).blk (p / 40) - 1).toNat)[p % 40]?.getD 0
def most (a b : Int) : Int := if b > a then b else a
def readM (t : TR) (path : Str) (at_ n : Int) : Str × Int :=
 if checkM t = false then ([], 3) else if (kindOfM t path 2).2 ≠ 0 then ([], (kindOfM t path 2).2) else if at_ < 0 ∨ n < 0 then ([], 4) else
 if (t.n (kindOfM t path 2).1.toNat).size ≤ at_ then ([], 0) else
 ((List.range (least n ((t.n (kindOfM t path 2).1.toNat).size - at_)).toNat).map fun i => peekM t (kindOfM t path 2).1.toNat (at_.toNat + i), 0)
def writeM (t : TR) (path : Str) (at_ : Int) (b : Str) (quota : Int) : TR × Int :=
 if checkM t = false then (TR.zero, 3) else if (kindOfM t path 2).2 ≠ 0 then (TR.zero, (kindOfM t path 2).2) else if at_ < 0 then (TR.zero, 4) else
 if at_ > 80 - (b.length : Int) then (TR.zero, 5) else if b.length = 0 then (t, 0) else
 match growM t (kindOfM t path 2).1.toNat (most (t.n (kindOfM t path 2).1.toNat).size (at_ + b.length)) quota with
 | none => (TR.zero, 5)
 | some u => (pokesM u (kindOfM t path 2).1.toNat at_.toNat b, 0)
def clrM (t : TR) (b : Int) : TR := if b ≠ 0 then t.setB (b - 1).toNat (List.replicate 40 0) else t
def emptyM (t : TR) (i : Nat) : TR := (clrM (clrM t (t.n i).b0) (t.n i).b1).set i { t.n i with size := 0, b0 := 0, b1 := 0 }
def cutM (t : TR) (path : Str) : TR × Int :=
 if checkM t = false then (TR.zero, 3) else if (kindOfM t path 2).2 ≠ 0 then (TR.zero, (kindOfM t path 2).2) else (emptyM t (kindOfM t path 2).1.toNat, 0)
def freeFrom (t : TR) : Nat → Nat → Option Nat
 | 0, _ => none
 | f + 1, i => if (t.n i).kind = 0 then some i else freeFrom t f (i + 1)
def makeM (t : TR) (path : Str) (kind : Int) : TR × Int :=
 if checkM t = false then (TR.zero, 3) else if (kind ≠ 1 ∧ kind ≠ 2) ∨ isInnerM path = false then (TR.zero, 1) else
 if (kindOfM t (splitM path).1 1).2 ≠ 0 then (TR.zero, (kindOfM t (splitM path).1 1).2) else
 if 0 ≤ childM t (kindOfM t (splitM path).1 1).1 (splitM path).2 then (TR.zero, 171) else
 match freeFrom t 7 1 with
 | none => (TR.zero, 5)
 | some i => (t.set i ⟨kind, (kindOfM t (splitM path).1 1).1, (splitM path).2, 0, 0, 0⟩, 0)
def heldFrom (t : TR) (a : Int) : Nat → Nat → Bool
 | 0, _ => false
 | f + 1, i => if (t.n i).kind ≠ 0 ∧ (t.n i).parent = a then true else heldFrom t a f (i + 1)
def removeM (t : TR) (path : Str) : TR × Int :=
 if checkM t = false then (TR.zero, 3) else if isInnerM path = false then (TR.zero, 1) else if (findM t path).2 ≠ 0 then (TR.zero, (findM t path).2) else
 if heldFrom t (findM t path).1 7 1 = true then (TR.zero, 172) else ((emptyM t (findM t path).1.toNat).set (findM t path).1.toNat Nd.zero, 0)
def underFrom (t : TR) (a : Int) : Nat → Int → Bool
 | 0, _ => false
 | f + 1, i => if i = 0 then false else if i = a then true else underFrom t a f (t.n i.toNat).parent
def moveM (t : TR) (src dst : Str) : TR × Int :=
 if checkM t = false then (TR.zero, 3) else if isInnerM src = false ∨ isInnerM dst = false then (TR.zero, 1) else if (findM t src).2 ≠ 0 then (TR.zero, (findM t src).2) else
 if (kindOfM t (splitM dst).1 1).2 ≠ 0 then (TR.zero, (kindOfM t (splitM dst).1 1).2) else
 if underFrom t (findM t src).1 8 (kindOfM t (splitM dst).1 1).1 = true then (TR.zero, 172) else
 if 0 ≤ childM t (kindOfM t (splitM dst).1 1).1 (splitM dst).2 then (TR.zero, 171) else
 (t.set (findM t src).1.toNat { t.n (findM t src).1.toNat with parent := (kindOfM t (splitM dst).1 1).1, name := (splitM dst).2 }, 0)
def pathFrom (t : TR) : Nat → Int → Str → Str
 | 0, _, s => s
 | f + 1, i, s => if i = 0 then s else pathFrom t f (t.n i.toNat).parent (47 :: (t.n i.toNat).name ++ s)
def pathM (t : TR) (node : Int) : Str × Int :=
 if checkM t = false then ([], 3) else if node < 0 ∨ 8 ≤ node then ([], 4) else if (t.n node.toNat).kind = 0 then ([], 4) else if node = 0 then ([47], 0) else (pathFrom t 8 node [], 0)
def findTM (t : TR) (path : Str) : Int × Int := if checkM t = false then (0, 3) else findM t path
def byteOf (v : Int) : UInt8 := UInt8.ofNat (v % 256).toNat
def padTo (k : Nat) (s : Str) : Str := s.take k ++ List.replicate (k - s.length) 0
def pageM (n : Nd) : Str := padTo 40 (byteOf n.kind :: byteOf n.parent :: byteOf n.name.length :: (padTo 8 n.name ++ [byteOf n.size, byteOf n.b0, byteOf n.b1]))
def pagesM (t : TR) : List Str := if checkM t = false then [] else t.nd.map pageM ++ t.bl
def at8 (b : Str) (i : Nat) : UInt8 := b[i]?.getD 0
def nodeM (b : Str) : Option Nd := if 8 < (at8 b 2).toNat then none else some ⟨(at8 b 0).toNat, (at8 b 1).toNat, ((b.drop 3).take 8).take (at8 b 2).toNat, (at8 b 11).toNat, (at8 b 12).toNat, (at8 b 13).toNat⟩
def nodesM : List Str → Option (List Nd)
 | [] => some []
 | b :: r => (nodeM b).bind fun n => (nodesM r).map (n :: ·)
def parseM (l : List Str) : TR × Int :=
 if l.length ≠ 16 ∨ (∃ b ∈ l, b.length ≠ 40) then (TR.zero, 1) else
 match nodesM (l.take 8) with
 | none => (TR.zero, 3)
 | some nd => if pagesM ⟨nd, l.drop 8⟩ ≠ l ∧ pagesM ⟨nd, l.drop 8⟩ ≠ [] then (TR.zero, 3) else if checkM ⟨nd, l.drop 8⟩ = false then (TR.zero, 3) else (⟨nd, l.drop 8⟩, 0)
end Go.Proofs.YtgilmcpdpggikaaGreatDoor
namespace Go.Own
open Go Go.RowKit
def bitN (op : BinOp) (a b : Nat) : Option Nat := match op with
 | .and => some (a &&& b)
 | .or => some (a ||| b)
 | .xor => some (a ^^^ b)
 | _ => none
class Uns (k : IntKind) (B : outParam Nat) : Prop where
 bits : k.bits = B
 sg : k.signed = false
instance : Uns .u8 8 := ⟨rfl, rfl⟩
instance : Uns .u32 32 := ⟨rfl, rfl⟩
instance : Uns .u64 64 := ⟨rfl, rfl⟩
theorem uwrap {k : IntKind} {B : Nat} [U : Uns k B] (n : Nat) : k.wrap (n : Int) = ((n % 2 ^ B : Nat) : Int) := by
 unfold IntKind.wrap
 rw [U.sg, U.bits]
 simp
theorem uwrap_lt {k : IntKind} {B : Nat} [U : Uns k B] {n : Nat} (h : n < 2 ^ B) : k.wrap (n : Int) = (n : Int) := by rw [uwrap, Nat.mod_eq_of_lt h]
theorem run_bits {P : Program} {w : World} {op : BinOp} {k : IntKind} {B a b r : Nat} [U : Uns k B] (ha : a < 2 ^ B) (hb : b < 2 ^ B) (hr : bitN op a b = some r) : (Op.intBits op k (a : Int) (b : Int)).run P w = .ok (.int k (r : Int)) w := by
 obtain ⟨hB, hs⟩ := U
 subst hB
 unfold Op.intBits
 have ea : (BitVec.ofInt k.bits (a : Int)).toNat = a := by simp [BitVec.toNat_ofInt]; exact Nat.mod_eq_of_lt ha
 have eb : (BitVec.ofInt k.bits (b : Int)).toNat = b := by simp [BitVec.toNat_ofInt]; exact Nat.mod_eq_of_lt hb
 have hU : Uns k k.bits := ⟨rfl, hs⟩
 cases op <;> simp only [bitN, Option.some.injEq, reduceCtorEq] at hr <;> subst hr <;> simp only [Sem.run_pure]
 ·rw [BitVec.toNat_and, ea, eb, uwrap_lt (Nat.and_lt_two_pow _ hb)]
 ·rw [BitVec.toNat_or, ea, eb, uwrap_lt (Nat.or_lt_two_pow ha hb)]
 ·rw [BitVec.toNat_xor, ea, eb, uwrap_lt (Nat.xor_lt_two_pow ha hb)]
section
variable {P : Program} {n : Nat} {ops : Array Oper} {Q : Post} {rest : List Oper} {e : Env} {w w' : World} {s : Ro} {rs : List Asn} {tt : Nat} {pp : String} {af : Array Edge} {g : Option (Nat × Bool)} {d : Nat}
theorem B.bit {op : BinOp} {x y : Operand} {t u : TypeId} {k : IntKind} {B a b r : Nat} [T : IntC P t k] [U : Uns k B] (h : L P n ops Q rest (upd e d (.int k (r : Int))) w) (hw : wg n ops g e = true := by rfl) (hd : Nat.blt d n = true := by rfl) (hx : ev e x = .int k (a : Int) := by rfl) (hy : ev e y = .int k (b : Int) := by rfl) (hr : bitN op a b = some r := by rfl) (ha : a < 2 ^ B := by first | assumption | decide | omega) (hb : b < 2 ^ B := by first | assumption | decide | omega) : L P n ops Q (⟨some d, .binOp op t x y u, tt, pp, af, g⟩ :: rest) e w :=
 L.val (o := ⟨some d, .binOp op t x y u, tt, pp, af, g⟩) _ w hw hd (by
  have := run_bits (P := P) (w := w) (k := k) ha hb hr
  unfold execOp
  cases op <;> simp only [bitN, reduceCtorEq] at hr <;> simp [hx, hy, eqGuard, binOp, Sem.run_bind, this]) h
theorem B.not {x : Operand} {t : TypeId} {k : IntKind} {B a : Nat} [T : IntC P t k] [U : Uns k B] (h : L P n ops Q rest (upd e d (.int k (((2 ^ B - 1) ^^^ a : Nat) : Int))) w) (hw : wg n ops g e = true := by rfl) (hd : Nat.blt d n = true := by rfl) (hx : ev e x = .int k (a : Int) := by rfl) (ha : a < 2 ^ B := by first | assumption | decide | omega) : L P n ops Q (⟨some d, .unOp .xor t x, tt, pp, af, g⟩ :: rest) e w :=
 L.val (o := ⟨some d, .unOp .xor t x, tt, pp, af, g⟩) _ w hw hd (by
  have hp : 0 < 2 ^ B := Nat.two_pow_pos B
  have h1 := run_bits (P := P) (w := w) (op := .xor) (k := k) (a := 2 ^ B - 1) (by omega) ha rfl
  have hm : k.max = ((2 ^ B - 1 : Nat) : Int) := by
   rw [← U.bits]
   unfold IntKind.max
   rw [U.sg]
   have : 1 ≤ 2 ^ k.bits := Nat.two_pow_pos _
   rw [Int.ofNat_sub this]
   push_cast
   simp
  unfold execOp
  simp [hx, Op.unary, U.sg, hm, Sem.run_bind, h1]) h
theorem B.shr {x y : Operand} {t u : TypeId} {k j : IntKind} {B a m : Nat} [T : IntC P t k] [U : Uns k B] (h : L P n ops Q rest (upd e d (.int k ((a >>> m : Nat) : Int))) w) (hw : wg n ops g e = true := by rfl) (hd : Nat.blt d n = true := by rfl) (hx : ev e x = .int k (a : Int) := by rfl) (hy : ev e y = .int j (m : Int) := by rfl) (hm : m ≤ B := by first | decide | omega) : L P n ops Q (⟨some d, .binOp .shr t x y u, tt, pp, af, g⟩ :: rest) e w :=
 L.val (o := ⟨some d, .binOp .shr t x y u, tt, pp, af, g⟩) _ w hw hd (by
  have hB := U.bits
  unfold execOp
  have e1 : min m k.bits = m := by omega
  have e2 : (a : Int).fdiv (2 ^ m) = ((a >>> m : Nat) : Int) := by
   rw [Nat.shiftRight_eq_div_pow]
   rw [Int.fdiv_eq_ediv_of_nonneg _ (by exact_mod_cast (Nat.zero_le _))]
   push_cast
   rfl
  simp [hx, hy, eqGuard, binOp, Op.shift, e1, e2, show ¬ (m : Int) < 0 by omega]) h
theorem B.shl {x y : Operand} {t u : TypeId} {k j : IntKind} {B a m : Nat} [T : IntC P t k] [U : Uns k B] (h : L P n ops Q rest (upd e d (.int k (((a <<< m) % 2 ^ B : Nat) : Int))) w) (hw : wg n ops g e = true := by rfl) (hd : Nat.blt d n = true := by rfl) (hx : ev e x = .int k (a : Int) := by rfl) (hy : ev e y = .int j (m : Int) := by rfl) (hm : m ≤ B := by first | decide | omega) : L P n ops Q (⟨some d, .binOp .shl t x y u, tt, pp, af, g⟩ :: rest) e w :=
 L.val (o := ⟨some d, .binOp .shl t x y u, tt, pp, af, g⟩) _ w hw hd (by
  have hB := U.bits
  unfold execOp
  have e1 : min m k.bits = m := by omega
  have e2 : k.wrap ((a : Int) * 2 ^ m) = (((a <<< m) % 2 ^ B : Nat) : Int) := by
   rw [← uwrap (k := k), Nat.shiftLeft_eq]; push_cast; rfl
  simp [hx, hy, eqGuard, binOp, Op.shift, e1, e2, show ¬ (m : Int) < 0 by omega]) h
theorem B.conv {x : Operand} {t u : TypeId} {k j : IntKind} {B a : Nat} {dd : TypeDesc} [U : Uns k B] [T : IntC P u k] (hs : P.underlying t = some dd) (h : L P n ops Q rest (upd e d (.int k ((a % 2 ^ B : Nat) : Int))) w) (hw : wg n ops g e = true := by rfl) (hd : Nat.blt d n = true := by rfl) (hx : ev e x = .int j (a : Int) := by rfl) : L P n ops Q (⟨some d, .convert t u x, tt, pp, af, g⟩ :: rest) e w :=
 K.convI hs hw hd hx (by rw [uwrap]; exact h)
theorem B.fn {f : Fn} {fs cs : Array Operand} {l m : List Value} (h : L P n ops Q rest (upd e d (.func f l.toArray m.toArray)) w) (hw : wg n ops g e = true := by rfl) (hd : Nat.blt d n = true := by rfl) (h1 : fs.toList.map (ev e) = l := by rfl) (h2 : cs.toList.map (ev e) = m := by rfl) : L P n ops Q (⟨some d, .makeFunc f fs cs, tt, pp, af, g⟩ :: rest) e w :=
 L.val (o := ⟨some d, .makeFunc f fs cs, tt, pp, af, g⟩) _ w hw hd (by
  have e1 : fs.map (ev e) = l.toArray := by apply Array.toList_inj.1; rw [Array.toList_map, h1]
  have e2 : cs.map (ev e) = m.toArray := by apply Array.toList_inj.1; rw [Array.toList_map, h2]
  unfold execOp
  simp [Instr.makeFunc, e1, e2]) h
theorem B.call {f : FuncId} {c : Operand} {xs : Array Operand} {ts : Array TypeId} {l m args all : List Value} {R : Ending → World → Prop} [F : FunC P f] (hc : Calls P f all.toArray w R) (h : ∀ x w', R x w' → ∃ v, x = .returned v ∧ L P n ops Q rest (upd e d v) w') (hw : wg n ops g e = true := by rfl) (hd : Nat.blt d n = true := by rfl) (hf : ev e c = .func (.func f) l.toArray m.toArray := by rfl) (hx : xs.toList.map (ev e) = args := by rfl) (ha : l ++ args ++ m = all := by rfl) : L P n ops Q (⟨some d, .call { callee := .value c, args := xs, argTypes := ts }, tt, pp, af, g⟩ :: rest) e w := by
 obtain ⟨fn, cc, h1, h2, h3⟩ := F.fn
 refine ⟨fun a hfr => wpList_step fun K hK => ?_⟩
 have hw' : wn n ops ⟨some d, .call { callee := .value c, args := xs, argTypes := ts }, tt, pp, af, g⟩ e = true := hw
 rw [hfr.wn, if_pos hw']
 have hargs : xs.map a.eval = args.toArray := by
  apply Array.toList_inj.1
  rw [Array.toList_map, hfr.eval, hx]
 have hcv : a.eval c = .func (.func f) l.toArray m.toArray := by rw [hfr.eval]; exact hf
 have hr : (execOp a.eval ⟨some d, .call { callee := .value c, args := xs, argTypes := ts }, tt, pp, af, g⟩).run P w = .ok (.enter f all.toArray) w := by
  unfold execOp
  simp only [resolve, hcv, Deferred.ofValue, Sem.run_bind, Sem.run_pure, Result.andThen_ok, invoke, callFunc]
  have e1 : l.toArray ++ args.toArray ++ m.toArray = all.toArray := by rw [← ha]; simp
  have : xs.map (fun x => a.eval x) = args.toArray := hargs
  have h2' : ¬ fn.name = "runtime.NumGoroutine" := by simpa using h2
  simp [h1, h2', h3, hargs, ← ha]
 unfold Oper.wp
 rw [hr]
 exact hc.mono fun x w' hR => by
  obtain ⟨v, hx', hl⟩ := h x w' hR
  subst hx'
  exact hK _ _ (hl.go _ (hfr.put (d := some d) hd v))
end
end Go.Own

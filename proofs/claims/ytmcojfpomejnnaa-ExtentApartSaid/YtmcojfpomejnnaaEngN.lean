/- More rules of the quick walk. Over any program. -/
import Derived.Test.YtmcojfpomejnnaaSlF
set_option linter.unusedSimpArgs false
set_option linter.unusedVariables false
namespace Go.Own
open Go Go.RowKit
section
variable {P : Program} {n : Nat} {ops : Array Oper} {Q : Post} {rest : List Oper} {e : Env} {w w' : World} {s : Ro} {rs : List Asn}
theorem Holds.drop1 {A B : Asn} (H : Holds s w (A :: B :: rs)) : Holds s w (A :: rs) := (H.up 1 rfl).tail
/-- a loop that turns the piece at the head alone -/
theorem C.loopR {c : Code} {A : Asn} (H : Holds s w (A :: rs)) (wr sl : List Nat) (hs : sl.all (fun t => wr.any (Nat.beq t)) = true) (I : Nat → List Value → Asn → Prop) (m : Nat) (h0 : I m (sl.map e) A)
    (hr : ∀ m vs h w A, I m vs A → Holds s w (A :: rs) → C P n (thenE (fun e' w' => Agr wr e e' ∧ ∃ k, k < m ∧ ∃ A', I k (sl.map e') A' ∧ Holds s w' (A' :: rs)) Q) c (upds sl vs (hav wr h e)) w) : C P n Q (.loop c) e w := by
  refine C.loopS wr sl hs (fun m vs w => ∃ A, I m vs A ∧ Holds s w (A :: rs)) m ⟨A, h0, H⟩ (fun m vs h w hj => ?_)
  obtain ⟨A, h1, h2⟩ := hj
  exact hr m vs h w A h1 h2
/-- copy(x[off:], y) into a row of our own -/
theorem K.copyR {d : Nat} {tt : Nat} {pp : String} {af : Array Edge} {x y : Operand} {t u el el' : TypeId} {by_ : Nat} {zz : List Value} [E : ElC P t el 1 by_ zz] (i : Nat) {g off dl dc m c k q : Nat} {xs ys : List Value} {yv : Value} (H : Holds s w rs) (hi : rs[i]? = some (row el' 1 (.slice (some ⟨g, 0, none⟩) m c) m xs)) (hsrc : Src s rs yv 1 k ys) (h1 : ∀ v ∈ ys, v.oneCell' = true) (hq : Nat.min k dl = q) (hfit : off + dl ≤ m) (hd : Nat.blt d n = true) (hx : ev e x = .slice (some ⟨g, off, none⟩) dl dc) (hy : ev e y = yv)
    (h : ∀ w', Holds s w' (rs.set i (row el' 1 (.slice (some ⟨g, 0, none⟩) m c) m (xs.take off ++ (ys.take dl ++ xs.drop (off + q))))) → L P n ops Q rest (upd e d (.int .i64 (q : Int))) w') : L P n ops Q (⟨some d, .call { callee := .builtin .copy, args := #[x, y], argTypes := #[t, u] }, tt, pp, af, none⟩ :: rest) e w := by
  obtain ⟨v, E', _⟩ := E.el
  obtain ⟨inf, i1, i2, i3, i4⟩ := E'.info
  have hrow := H.row hi
  obtain ⟨hlen, hrw⟩ := hrow
  have hyl : ys.length = k := by obtain ⟨_, _, _, h', _⟩ := hsrc.sl H; simpa using h'
  rcases hrw with ⟨hv, _⟩ | ⟨g', cap, cur, hv, _, hg, a1, a2, a3, a4⟩
  · cases hv
  · cases hv
    rw [Nat.mul_one] at hlen a3 a4
    have hq' : q ≤ dl := by rw [← hq]; exact Nat.min_le_right _ _
    have hqk : (ys.take dl).length = q := by rw [List.length_take, hyl, ← hq]; exact Nat.min_comm _ _
    refine ⟨fun a ha => copy_sl (d := x) (s := y) E'.slice (by rw [i1]; simp [i3]) rfl rfl (by rw [ha.eval]; exact hx) (by rw [ha.eval]; exact hy) (hsrc.sl H) hg q hq (by omega) h1 ?_⟩
    have H' := H.only_row hi (w' := w.setRow g (cur.toList.take off ++ (ys.take dl ++ cur.toList.drop (off + q))).toArray) (v' := .slice (some ⟨g, 0, none⟩) m c) (n' := m) (xs' := xs.take off ++ (ys.take dl ++ xs.drop (off + q))) ⟨by simp only [List.length_append, List.length_take, List.length_drop, hlen] at hqk ⊢; omega, .inr ⟨g, c, _, rfl, Nat.zero_le _, setRow_heap _ _ _ _ _ _ hg, a1, a2, by
      have hcl : cur.toList.length = c := by simpa using a3
      simp only [List.size_toArray, List.length_append, List.length_take, List.length_drop, hcl] at hqk ⊢; omega, ?_⟩⟩ (only_setRow _ _ _ (by simp [Value.ownBlock])) (fun k hk => .inl hk)
    · have := (h _ H').go _ (ha.put (d := some d) hd (.int .i64 (q : Int)))
      exact this
    · rw [Nat.mul_one, ← a4]
      have e1 : (cur.toList.take m).take off = cur.toList.take off := by rw [List.take_take, Nat.min_eq_left (by omega)]
      have e2 : (cur.toList.take m).drop (off + q) = (cur.toList.drop (off + q)).take (m - (off + q)) := by rw [List.drop_take]
      have hcl : cur.toList.length = c := by simpa using a3
      have l1 : (cur.toList.take off).length = off := by rw [List.length_take]; omega
      rw [e1, e2]
      show (cur.toList.take off ++ (ys.take dl ++ cur.toList.drop (off + q))).take m = _
      have t1 : (cur.toList.take off).take m = cur.toList.take off := List.take_of_length_le (by rw [l1]; omega)
      have t2 : (ys.take dl).take (m - off) = ys.take dl := List.take_of_length_le (by rw [hqk]; omega)
      rw [List.take_append, l1, t1, List.take_append, hqk, t2, show m - off - q = m - (off + q) by omega]
variable {tt : Nat} {pp : String} {af : Array Edge} {g : Option (Nat × Bool)}
theorem K.eqS {d : Nat} {x y : Operand} {t u : TypeId} {a b : ByteArray} (hw : wg n ops g e = true) (hd : Nat.blt d n = true) (hx : ev e x = .string a) (hy : ev e y = .string b) (h1 : a = b → L P n ops Q rest (upd e d (.bool true)) w) (h2 : a ≠ b → L P n ops Q rest (upd e d (.bool false)) w) : L P n ops Q (⟨some d, .binOp .eql t x y u, tt, pp, af, g⟩ :: rest) e w := by
  by_cases hc : a = b
  · exact L.cmpS hw hd rfl hx hy (by simp only [Own.cmpS]; rw [bytes_eq.2 hc]) (h1 hc)
  · exact L.cmpS hw hd rfl hx hy (by simp only [Own.cmpS]; rw [Bool.eq_false_iff.2 (fun h => hc (bytes_eq.1 h))]) (h2 hc)
theorem K.neS {d : Nat} {x y : Operand} {t u : TypeId} {a b : ByteArray} (hw : wg n ops g e = true) (hd : Nat.blt d n = true) (hx : ev e x = .string a) (hy : ev e y = .string b) (h1 : a ≠ b → L P n ops Q rest (upd e d (.bool true)) w) (h2 : a = b → L P n ops Q rest (upd e d (.bool false)) w) : L P n ops Q (⟨some d, .binOp .neq t x y u, tt, pp, af, g⟩ :: rest) e w := by
  by_cases hc : a = b
  · exact L.cmpS hw hd rfl hx hy (by simp only [Own.cmpS]; rw [bytes_eq.2 hc]; rfl) (h2 hc)
  · exact L.cmpS hw hd rfl hx hy (by simp only [Own.cmpS]; rw [Bool.eq_false_iff.2 (fun h => hc (bytes_eq.1 h))]; rfl) (h1 hc)
end
end Go.Own

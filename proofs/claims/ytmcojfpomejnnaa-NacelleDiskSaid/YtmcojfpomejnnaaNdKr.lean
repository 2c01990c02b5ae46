/- Rows that begin anywhere in their block; bundles of pieces. Over any program. -/
import Derived.Test.YtmcojfpomejnnaaNdK3
set_option linter.unusedSimpArgs false
set_option linter.unusedVariables false
namespace Go.Own
open Go Go.RowKit
section
variable {P : Program} (w : World)
theorem run_append_room_off (t ty e : TypeId) (i : TypeInfo) (ht : P.underlying t = some (.slice e)) (hi : P.info? e = some i)
    (g off sLen sCap : Nat) (cur : Array Value) (hg : w.heap[g]? = some (.cells cur e (0, 0)))
    (a : Addr) (m c : Nat) (news : List Value) (hl : news.length = m * i.size) (hnews : ∀ j u, news[j]? = some u → w.cell? (a.add j) = some u) (h1 : ∀ u ∈ news, u.oneCell' = true)
    (hroom : sLen + m ≤ sCap) (hfit : off + sLen * i.size + news.length ≤ cur.size) :
    (Builtin.append_ #[t, t] ty #[.slice (some ⟨g, off, none⟩) sLen sCap, .slice (some a) m c]).run P w =
      .ok (.slice (some ⟨g, off, none⟩) (sLen + m) sCap) (w.setRow g (cur.toList.take (off + sLen * i.size) ++ news ++ cur.toList.drop (off + sLen * i.size + news.length)).toArray) := by
  have hf := run_firstCells_some (P := P) w i.size m a m c news hl hnews
  have hst := run_storeCells_at P g (off + sLen * i.size) e news 0 cur w hg (by simpa using hfit) h1
  simp only [Nat.add_zero] at hst
  have he : (⟨g, off, none⟩ : Addr).add (sLen * i.size) = ⟨g, off + sLen * i.size, none⟩ := by simp [Addr.add]
  simp [Builtin.append_, run_underlying ht, sizeOf, typeInfo, hi, Builtin.lenOf, hroom, hf, he, hst]
end
/-- what a row is that begins anywhere in its block -/
def ownO (w : World) (F : List Nat) (e : TypeId) (sz : Nat) (v : Value) (n : Nat) (xs : List Value) : Prop := xs.length = n * sz ∧ ((v = .slice none 0 0 ∧ n = 0 ∧ F = []) ∨ ∃ g off cap cur, v = .slice (some ⟨g, off, none⟩) n cap ∧ F = [g] ∧ w.heap[g]? = some (.cells cur e (0, 0)) ∧ n ≤ cap ∧ cap ≤ maxLen ∧ off + cap * sz ≤ cur.size ∧ (cur.toList.drop off).take (n * sz) = xs)
def rowO (e : TypeId) (sz : Nat) (v : Value) (n : Nat) (xs : List Value) : Asn :=
  ⟨fun w F => ownO w F e sz v n xs, fun {w w' F} h hk => by
    obtain ⟨h0, h | ⟨g, off, cap, cur, h1, h2, h3, h4⟩⟩ := h
    · exact ⟨h0, .inl h⟩
    · exact ⟨h0, .inr ⟨g, off, cap, cur, h1, h2, (hk g (by rw [h2]; simp)).trans h3, h4⟩⟩, fun {w F} h k hk => by
    obtain ⟨h0, ⟨_, _, h⟩ | ⟨g, off, cap, cur, h1, h2, h3, h4⟩⟩ := h
    · rw [h] at hk; cases hk
    · rw [h2] at hk; simp at hk; subst hk; exact lt_of_heap h3⟩
/-- pieces as one -/
def bun (l : List Asn) : Asn := ⟨fun w F => Sep w l F, fun h hk => h.loc hk, fun h k hk => h.lt k hk⟩
theorem own_toO {w : World} {e : TypeId} {sz n : Nat} {v : Value} {xs : List Value} (h : w.ownsRow 0 e sz v n xs) : ownO w v.ownBlock.toList e sz v n xs := by
  obtain ⟨h0, ⟨rfl, rfl⟩ | ⟨g, cap, cur, rfl, _, h1, h2, h3, h4, h5⟩⟩ := h
  · exact ⟨h0, .inl ⟨rfl, rfl, rfl⟩⟩
  · exact ⟨h0, .inr ⟨g, 0, cap, cur, rfl, rfl, h1, h2, h3, by rw [h4]; omega, by simpa using h5⟩⟩
section
variable {s : Ro} {w : World} {rs : List Asn}
theorem Holds.turn {i : Nat} {A A' : Asn} (H : Holds s w rs) (hi : rs[i]? = some A) (h : ∀ F, A.p w F → A'.p w F) : Holds s w (rs.set i A') := by
  obtain ⟨F, h1, _, _, h3⟩ := H.upd hi
  exact h3 A' w F (h F h1) (Only.refl _ _) (fun k hk => .inl hk)
theorem Holds.toO {e : TypeId} {sz n : Nat} {v : Value} {xs : List Value} {i : Nat} (H : Holds s w rs) (hi : rs[i]? = some (Own.row e sz v n xs)) : Holds s w (rs.set i (rowO e sz v n xs)) :=
  H.turn hi fun F h => by
    obtain ⟨rfl, h⟩ := h
    exact own_toO h
theorem Holds.formO {e : TypeId} {sz n cc : Nat} {a : Option Addr} {xs : List Value} {i : Nat} (H : Holds s w rs) (hi : rs[i]? = some (rowO e sz (.slice a n cc) n xs)) (hn : 0 < n) : ∃ g o, a = some ⟨g, o, none⟩ ∧ n ≤ cc ∧ cc ≤ maxLen := by
  obtain ⟨F, h0, ⟨_, h, _⟩ | ⟨g, off, cap, cur, h1, _, _, h4, h5, _⟩⟩ := H.get hi
  · omega
  · cases h1
    exact ⟨g, off, rfl, h4, h5⟩
/-- the first l elements go -/
theorem Holds.dropO {e : TypeId} {sz n c l : Nat} {a : Option Addr} {xs : List Value} {i : Nat} (H : Holds s w rs) (hi : rs[i]? = some (rowO e sz (.slice a n c) n xs)) (hl : l ≤ n) (hz : 0 < l) : Holds s w (rs.set i (rowO e sz (.slice (subAddr a c l sz) (n - l) (c - l)) (n - l) (xs.drop (l * sz)))) :=
  H.turn hi fun F h => by
    obtain ⟨h0, ⟨_, h, _⟩ | ⟨g, off, cap, cur, h1, h2, h3, h4, h5, h6, h7⟩⟩ := h
    · omega
    · cases h1
      have hmul : l * sz ≤ n * sz := Nat.mul_le_mul_right _ hl
      have hmul2 : n * sz ≤ c * sz := Nat.mul_le_mul_right _ h4
      refine ⟨by rw [List.length_drop, h0, Nat.sub_mul], .inr ?_⟩
      by_cases hc : c = l
      · have hn : n = l := by omega
        refine ⟨g, off, c - l, cur, by unfold subAddr; rw [if_pos hc], h2, h3, by omega, by omega, by rw [hc, Nat.sub_self, Nat.zero_mul]; omega, ?_⟩
        rw [hn, Nat.sub_self, Nat.zero_mul, List.take_zero, List.drop_of_length_le (by rw [h0, hn]; exact Nat.le_refl _)]
      · refine ⟨g, off + l * sz, c - l, cur, by unfold subAddr; rw [if_neg hc]; simp [Addr.add], h2, h3, by omega, by omega, ?_, ?_⟩
        · rw [Nat.sub_mul]; omega
        · rw [← h7, List.drop_take, List.drop_drop, Nat.sub_mul]
theorem Sep.app {a b : List Asn} : ∀ {F : List Nat}, Sep w (a ++ b) F → ∃ F1 F2, F = F1 ++ F2 ∧ Sep w a F1 ∧ Sep w b F2 ∧ ∀ k ∈ F1, k ∉ F2 := by
  induction a with
  | nil => intro F h; exact ⟨[], F, rfl, rfl, h, by simp⟩
  | cons A a ih =>
    rintro F ⟨F1, F2, rfl, h1, h2, h3⟩
    obtain ⟨G1, G2, rfl, g1, g2, g3⟩ := ih h2
    refine ⟨F1 ++ G1, G2, by simp, ⟨F1, G1, rfl, h1, g1, fun k hk hk2 => h3 k hk (by simp [hk2])⟩, g2, fun k hk hk2 => ?_⟩
    rcases List.mem_append.1 hk with hk | hk
    · exact h3 k hk (by simp [hk2])
    · exact g3 k hk hk2
theorem Sep.app' {a b : List Asn} : ∀ {F1 F2 : List Nat}, Sep w a F1 → Sep w b F2 → (∀ k ∈ F1, k ∉ F2) → Sep w (a ++ b) (F1 ++ F2) := by
  induction a with
  | nil => intro F1 F2 h1 h2 _; obtain rfl : F1 = [] := h1; exact h2
  | cons A a ih =>
    rintro F1 F2 ⟨G1, G2, rfl, g1, g2, g3⟩ h2 h3
    refine ⟨G1, G2 ++ F2, by simp, g1, ih g2 h2 (fun k hk => h3 k (by simp [hk])), fun k hk hk2 => ?_⟩
    rcases List.mem_append.1 hk2 with hk2 | hk2
    · exact g3 k hk hk2
    · exact h3 k (by simp [hk]) hk2
theorem Holds.unbun {l : List Asn} (H : Holds s w (bun l :: rs)) : Holds s w (l ++ rs) := by
  obtain ⟨hf, F, ⟨F1, F2, rfl, h1, h2, h3⟩, hn⟩ := H
  exact ⟨hf, F1 ++ F2, Sep.app' h1 h2 h3, hn⟩
theorem Holds.bun {l : List Asn} (H : Holds s w (l ++ rs)) : Holds s w (bun l :: rs) := by
  obtain ⟨hf, F, hF, hn⟩ := H
  obtain ⟨F1, F2, rfl, h1, h2, h3⟩ := Sep.app hF
  exact ⟨hf, F1 ++ F2, ⟨F1, F2, rfl, h1, h2, h3⟩, hn⟩
end
theorem app_off {P : Program} {w : World} {t ty e : TypeId} {size bytes : Nat} {z : Value} (E : ElT P t e size bytes z) {v : Value} {n : Nat} {xs : List Value} {F : List Nat} (hp : ownO w F e size v n xs) {xv : Value} {m : Nat} {news : List Value} (hsl : Sl w xv size m news) (h1 : ∀ u ∈ news, u.oneCell' = true) (h63 : n + m ≤ maxLen) (hbytes : (n + m) * bytes ≤ 140737488355328) (hm : 0 < m) :
    ∃ aa cc w' F', (Builtin.append_ #[t, t] ty #[v, xv]).run P w = .ok (.slice aa (n + m) cc) w' ∧ ownO w' F' e size (.slice aa (n + m) cc) (n + m) (xs ++ news) ∧ Only F w w' ∧ ∀ k ∈ F', k ∈ F ∨ w.heap.size ≤ k := by
  obtain ⟨i, hi, hz, hsz, hby⟩ := E.info
  obtain ⟨xa, xc, rfl, hl, hmc, _, hcells⟩ := hsl
  have hne : news ≠ [] := by
    intro h0; subst h0
    have hp := E.pos
    have : 0 < m * size := Nat.mul_pos hm hp
    simp only [List.length_nil] at hl; omega
  obtain ⟨u, r, hur⟩ := List.exists_cons_of_ne_nil hne
  obtain ⟨ad, rfl, _⟩ := hcells 0 u (by rw [hur]; rfl)
  have hnews : ∀ j u, news[j]? = some u → w.cell? (ad.add j) = some u := fun j u hu => by
    obtain ⟨ad', he, hc⟩ := hcells j u hu; cases he; exact hc
  obtain ⟨h0, ⟨rfl, rfl, rfl⟩ | ⟨g, off, cap, cur, rfl, rfl, hg, hnc, hcm, hcs, htake⟩⟩ := hp
  · have hx : xs = [] := List.eq_nil_of_length_eq_zero (by simpa using h0)
    subst hx
    obtain ⟨v', w', hr, h2, h3, _, h5⟩ := run_append_own_at (P := P) w 0 t ty e i z size bytes E.slice hi hz hsz hby E.zlen E.pos (.slice none 0 0) 0 [] (World.ownsRow_nil _ _ _ _) ad m xc news hl hnews h1 h63 hbytes (Nat.zero_le _)
    obtain ⟨aa, cc, rfl, _⟩ := own_sl h2
    refine ⟨aa, cc, w', _, hr, own_toO h2, Only.of_grown h3, fun k hk => ?_⟩
    rcases h5 with h5 | h5
    · rw [h5] at hk; simp [Value.ownBlock] at hk
    · rw [h5] at hk; simp at hk; omega
  · subst hsz hby
    have hlen : (xs ++ news).length = (n + m) * i.size := by rw [List.length_append, h0, hl, Nat.add_mul]
    have hmulc : n * i.size ≤ cap * i.size := Nat.mul_le_mul_right _ hnc
    by_cases hroom : n + m ≤ cap
    · have hmul : (n + m) * i.size ≤ cap * i.size := Nat.mul_le_mul_right _ hroom
      have hfit : off + n * i.size + news.length ≤ cur.size := by rw [hl]; rw [Nat.add_mul] at hmul; omega
      have hr := run_append_room_off (P := P) w t ty e i E.slice hi g off n cap cur hg ad m xc news hl hnews h1 hroom hfit
      have hcl : (cur.toList.take (off + n * i.size)).length = off + n * i.size := by rw [List.length_take, Array.length_toList]; omega
      refine ⟨_, _, _, [g], hr, ⟨hlen, .inr ⟨g, off, cap, _, rfl, rfl, setRow_heap w g cur _ e _ hg, hroom, hcm, ?_, ?_⟩⟩, only_setRow _ _ _ (by simp), fun k hk => .inl hk⟩
      · simp only [List.size_toArray, List.length_append, List.length_take, List.length_drop, Array.length_toList]
        omega
      · rw [List.append_assoc, List.drop_append_of_le_length (by rw [hcl]; omega), List.drop_take, Nat.add_sub_cancel_left, htake, ← List.append_assoc, ← hlen]
        exact List.take_left
    · have holds : ∀ j u, xs[j]? = some u → w.cell? ((⟨g, off, none⟩ : Addr).add j) = some u := fun j u hu => by
        have hj : j < n * i.size := by rw [← h0]; exact (List.getElem?_eq_some_iff.1 hu).1
        rw [← htake, List.getElem?_take_of_lt hj, List.getElem?_drop] at hu
        rw [show (⟨g, off, none⟩ : Addr).add j = ⟨g, off + j, none⟩ by simp [Addr.add]]
        rw [cell_of_row w g _ cur e _ hg]
        simpa using hu
      have hsmall : n + m ≤ 9223372036854775807 := by simp only [maxLen] at h63; omega
      have hr := run_append_grow (P := P) w t ty e i z E.slice hi hz ⟨g, off, none⟩ n cap xs h0 holds ad m xc news hl hnews (by omega) (by omega) (growslice_fits (by omega) hbytes)
      have hge := grownCap_ge w (n + m) cap e
      have hcm2 : grownCap w (n + m) cap e ≤ maxLen := grownCap_le_maxLen w (n + m) cap e h63
      refine ⟨_, _, _, [w.heap.size], hr, ⟨hlen, .inr ⟨w.heap.size, 0, _, _, rfl, rfl, heap_alloc_new w.drew _, hge, hcm2, ?_, ?_⟩⟩, Only.of_grown (row := some g) ⟨rfl, rfl, rfl, by simp, fun k hk _ => heap_alloc_old w.drew _ (by simpa using hk)⟩, fun k hk => by simp at hk; exact .inr (by omega)⟩
      · simp only [Array.size_append, List.size_toArray, size_zeroCells, E.zlen, h0, hl, ← Nat.add_mul, Nat.zero_add]
        exact Nat.mul_le_mul_right _ (by omega)
      · rw [List.drop_zero]
        simp only [Array.toList_append, List.append_assoc]
        rw [← List.append_assoc, ← hlen]
        exact List.take_left
section
variable {P : Program} {n : Nat} {ops : Array Oper} {Q : Post} {rest : List Oper} {e : Env} {w w' : World} {s : Ro} {rs : List Asn} {tt : Nat} {pp : String} {af : Array Edge} {d : Nat}
/-- append(x, y...) onto a row that begins anywhere -/
theorem K.appO {t el : TypeId} {size bytes : Nat} {z : List Value} [E : ElC P t el size bytes z] {x y : Operand} (i : Nat) {v xv : Value} {k m : Nat} {xs news : List Value} (H : Holds s w rs) (hi : rs[i]? = some (rowO el size v k xs)) (hsrc : Src s rs xv size m news) (h1 : ∀ u ∈ news, u.oneCell' = true) (h63 : k + m ≤ maxLen) (hbytes : (k + m) * bytes ≤ 140737488355328) (hm : 0 < m) (hd : Nat.blt d n = true) (hx : ev e x = v) (hy : ev e y = xv) (h : ∀ aa cc w', Holds s w' (rs.set i (rowO el size (.slice aa (k + m) cc) (k + m) (xs ++ news))) → L P n ops Q rest (upd e d (.slice aa (k + m) cc)) w') : L P n ops Q (⟨some d, .call { callee := .builtin .append, args := #[x, y], argTypes := #[t, t] }, tt, pp, af, none⟩ :: rest) e w := by
  refine ⟨fun a ha => ?_⟩
  obtain ⟨u, E', _⟩ := E.el
  obtain ⟨F, hp, _, _, h3⟩ := H.upd hi
  obtain ⟨aa, cc, w', F', hr, h4, h5, h6⟩ := app_off (P := P) (ty := tt) E' hp (hsrc.sl H) h1 h63 hbytes hm
  have H' := h3 (rowO el size (.slice aa (k + m) cc) (k + m) (xs ++ news)) w' F' h4 h5 h6
  refine wpList_plain rfl fun K hK => ?_
  unfold Oper.wp execOp
  simp only [resolve, invoke, builtin, Sem.run_bind, Sem.run_pure, Result.andThen_ok, List.map_toArray, List.map_cons, List.map_nil, ha.eval, hx, hy, hr]
  exact hK _ _ ((h aa cc w' H').go _ (ha.put (d := some d) hd _))
/-- a struct in a row that begins anywhere -/
theorem K.loadO {ty : TypeId} {x : Operand} {g : Option (Nat × Bool)} {k : Nat} [RowC P ty k] (i : Nat) {gb o q m c sz : Nat} {el : TypeId} {xs : List Value} (ys : List Value) (H : Holds s w rs) (hw : wg n ops g e = true) (hd : Nat.blt d n = true) (hx : ev e x = .pointer (some ⟨gb, o + q, none⟩)) (hi : rs[i]? = some (rowO el sz (.slice (some ⟨gb, o, none⟩) m c) m xs)) (hys : (xs.drop q).take k = ys) (hn : ys.length = k) (h : L P n ops Q rest (upd e d (.agg ys.toArray)) w) : L P n ops Q (⟨some d, .load ty x, tt, pp, af, g⟩ :: rest) e w :=
  ⟨fun a ha => load_many (by rw [ha.wn]; exact hw) rfl (by rw [ha.eval]; exact hx) (fun j v hv => by
    have hj : j < ys.length := (List.getElem?_eq_some_iff.1 hv).1
    rw [← hys, List.getElem?_take_of_lt (by omega), List.getElem?_drop] at hv
    obtain ⟨F, h0, ⟨h, _⟩ | ⟨g', off, cap, cur, h1, _, h3, _, _, _, h7⟩⟩ := H.get hi
    · cases h
    · cases h1
      have hq : q + j < m * sz := by rw [← h0]; exact (List.getElem?_eq_some_iff.1 hv).1
      rw [← h7, List.getElem?_take_of_lt hq, List.getElem?_drop] at hv
      show w.cell? ⟨gb, o + q + j, none⟩ = some v
      rw [cell_of_row w gb _ cur el _ h3, Nat.add_assoc]
      simpa using hv) hn (h.go _ (ha.put (d := some d) hd _))⟩
end
end Go.Own

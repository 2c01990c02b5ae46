/- A region that draws its order, in which one new variable may be made before or behind one call: two orders of the text. -/
import Derived.Test.YtmcojfpomejnnaaRunG
set_option linter.unusedSimpArgs false
set_option linter.unusedVariables false
namespace Go.Reg
open Go

section
variable {P : Program} {ops : Array Oper} {Sim : World → World → Prop}

theorem itm_and {sym : Bool} (L : Likes Sim sym) {x : Nat × Nat} {a : Act} {w : World} {K K' : Act → World → Prop} (hx : x.2 ≤ 1) (h : itm P ops Sim x K a w) (h' : itm P ops Sim x K' a w) : itm P ops Sim x (fun a w => K a w ∧ K' a w) a w := by
  obtain ⟨i, c⟩ := x
  match c, hx with
  | 0, _ =>
    obtain ⟨o, v, h1, h2, h3⟩ := h
    obtain ⟨o', v', h1', h2', h3'⟩ := h'
    rw [h1] at h1'; cases h1'
    have hv : v = v' := by
      rcases h2 with ⟨a1, a2⟩ | ⟨a1, a2⟩ <;> rcases h2' with ⟨b1, b2⟩ | ⟨b1, b2⟩
      · have := a2 w; rw [b2 w] at this; injection this with this; injection this with this; exact this.symm
      · rw [a1] at b1; cases b1
      · rw [a1] at b1; cases b1
      · rw [a2, b2]
    subst hv
    exact ⟨o, v, h1, h2, h3, h3'⟩
  | 1, _ =>
    obtain ⟨o, v, h1, h2, h3⟩ := h
    obtain ⟨o', v', h1', h2', h3'⟩ := h'
    rw [h1] at h1'; cases h1'
    have hv : v = v' := by
      rcases h2 with ⟨a1, a2⟩ | ⟨a1, a2⟩ <;> rcases h2' with ⟨b1, b2⟩ | ⟨b1, b2⟩
      · have := a2 w (L.refl w); rw [b2 w (L.refl w)] at this; injection this with this; injection this with this; exact this.symm
      · rw [a1] at b1; cases b1
      · rw [a1] at b1; cases b1
      · rw [a2, b2]
    subst hv
    exact ⟨o, v, h1, h2, h3, h3'⟩

set_option maxHeartbeats 1000000 in
theorem any_of_sq2 {sym : Bool} (L : Likes Sim sym) (hlow : lowB ops = true) {ms : List Nat} (hms : masksOk ops ms = true) {Q : Exit → Act → World → Prop} (i0 j0 : Nat) (hij : i0 ≠ j0) : ∀ (n : Nat) (l lB : List (Nat × Nat)) (listed : Array Bool) (a : Act) (w : World), l.length = n → lB.length = n → (∀ x, x ∈ l ↔ x ∈ lB) →
    Closed ops listed → listed.size = ops.size → (∀ i, listed.getD i true = false ↔ i ∈ l.map Prod.fst) → (l.map Prod.fst).Nodup → (lB.map Prod.fst).Nodup → i0 ∈ l.map Prod.fst → j0 ∈ l.map Prod.fst →
    (∀ x ∈ l, x.1 = i0 ∨ x.1 = j0 ∨ x.2 ≤ 1 ∨ (ms.getD x.1 0).testBit i0 = true ∨ (ms.getD x.1 0).testBit j0 = true) →
    l.Pairwise (fun p x => pairOk sym ops ms p x = true ∨ (p.1 = i0 ∧ x.1 = j0)) → lB.Pairwise (fun p x => pairOk sym ops ms p x = true ∨ (p.1 = j0 ∧ x.1 = i0)) →
    sq P ops Sim l (Q .normal) a w → sq P ops Sim lB (Q .normal) a w → wpAny P .any ops Q n listed a w := by
  obtain ⟨low, hns⟩ := low_spec hlow
  intro n
  induction n with
  | zero =>
    intro l lB listed a w hl _ _ hc hsz hmem hnd _ hi0 _ _ _ _ h _
    obtain rfl : l = [] := List.eq_nil_of_length_eq_zero hl
    simp at hi0
  | succ n ih =>
    intro l lB listed a w hl hlB hAB hc hsz hmem hnd hndB hi0 hj0 hcl hpw hpwB h hB
    refine ⟨fun hr => ?_, fun i hi => ?_⟩
    · exfalso
      have hex : ∃ m, listed.getD m true = false := ⟨i0, (hmem i0).2 hi0⟩
      obtain ⟨m, hm, hmin⟩ : ∃ m, listed.getD m true = false ∧ ∀ k < m, ¬ listed.getD k true = false := by
        obtain ⟨m0, hm0⟩ := hex
        induction m0 using Nat.strongRecOn with
        | _ m ihm =>
          by_cases hk : ∃ k < m, listed.getD k true = false
          · obtain ⟨k, hk1, hk2⟩ := hk; exact ihm k hk1 hk2
          · exact ⟨m, hm0, fun k hk1 hk2 => hk ⟨k, hk1, hk2⟩⟩
      have hms' : m < ops.size := by
        rcases Nat.lt_or_ge m listed.size with h' | h'
        · omega
        · simp [Array.getElem?_eq_none h'] at hm
      have : m ∈ Region.ready .any ops listed := mem_ready.2 ⟨hm, ops[m], by simp [hms'], fun e he hb => by
        have hlt := low m ops[m] (by simp [hms']) e he hb
        have h1 := hmin e.on hlt
        have h2 : e.on < listed.size := by omega
        simp [h2] at h1 ⊢; exact h1⟩
      rw [hr] at this
      cases this
    · obtain ⟨hun, o, ho, hall⟩ := mem_ready.1 hi
      have hil := (hmem i).1 hun
      obtain ⟨x, hx, rfl⟩ := List.mem_map.1 hil
      -- what waits for something that has not come up is not ready
      have hwait : ∀ p, p ∈ l.map Prod.fst → (ms.getD x.1 0).testBit p = true → False := by
        intro p hp hr
        obtain ⟨f, hrf⟩ := masks_reach hms low x.1 p (Array.getElem?_eq_some_iff.1 ho).1 hr
        have h1 := reach_listed hc _ _ _ hrf (fun o' ho' e he hb => by rw [ho] at ho'; cases ho'; exact hall e he hb)
        have h2 : listed.getD p true = false := (hmem p).2 hp
        rw [getD_both h2] at h1
        cases h1
      have hswap : ∀ p, p ∈ l → pairOk sym ops ms p x = true → ∃ op, ops[p.1]? = some op ∧ op.apart ops o = true ∧ swapOk sym p.2 x.2 = true := by
        intro p hp hpx
        unfold pairOk at hpx
        rw [Bool.or_eq_true] at hpx
        rcases hpx with hr | hr
        · exact (hwait p.1 (List.mem_map.2 ⟨p, hp, rfl⟩) hr).elim
        · rw [ho] at hr
          split at hr
          · rename_i op ox hp' hx'
            cases hx'
            rw [Bool.and_eq_true] at hr
            exact ⟨op, hp', hr.1, hr.2⟩
          · cases hr
      have hxs : x.1 < listed.size := by
        rcases Nat.lt_or_ge x.1 listed.size with h' | h'
        · exact h'
        · simp [Array.getElem?_eq_none h'] at hun
      have hclosed : Closed ops (listed.setIfInBounds x.1 true) := by
        intro j oj hoj hlj e he hbd
        have hset : ∀ k, listed.getD k false = true → (listed.setIfInBounds x.1 true).getD k false = true := by
          intro k hk
          by_cases hkx : x.1 = k
          · subst hkx; simp [hxs]
          · simpa [Array.getElem?_setIfInBounds_ne hkx] using hk
        by_cases hjx : x.1 = j
        · subst hjx
          rw [ho] at hoj; cases hoj
          exact hset _ (hall e he hbd)
        · have : listed.getD j false = true := by simpa [Array.getElem?_setIfInBounds_ne hjx] using hlj
          exact hset _ (hc j oj hoj this e he hbd)
      have hmem' : ∀ (r : List (Nat × Nat)), (∀ k, k ∈ r.map Prod.fst ↔ k ∈ l.map Prod.fst ∧ k ≠ x.1) → ∀ k, (listed.setIfInBounds x.1 true).getD k true = false ↔ k ∈ r.map Prod.fst := by
        intro r hr k
        rw [hr k]
        by_cases hkx : x.1 = k
        · subst hkx
          simp only [Array.getD_eq_getD_getElem?, Array.getElem?_setIfInBounds_self, hxs, if_true, Option.getD_some]
          constructor
          · intro h; cases h
          · intro h; exact absurd rfl h.2
        · have h1 := hmem k
          simp only [Array.getD_eq_getD_getElem?, Array.getElem?_setIfInBounds_ne hkx] at h1 ⊢
          rw [h1]
          exact ⟨fun h => ⟨h, fun e => hkx e.symm⟩, fun h => h.1⟩
      -- a list that is parted at x
      have hpart : ∀ (m : List (Nat × Nat)), (m.map Prod.fst).Nodup → (∀ y, y ∈ l ↔ y ∈ m) → ∀ pre post, m = pre ++ x :: post → ((pre ++ post).map Prod.fst).Nodup ∧ ∀ k, k ∈ (pre ++ post).map Prod.fst ↔ k ∈ l.map Prod.fst ∧ k ≠ x.1 := by
        intro m hm hlm pre post rfl_
        subst rfl_
        simp only [List.map_append, List.map_cons] at hm
        rw [List.nodup_append] at hm
        obtain ⟨n1, n2, n3⟩ := hm
        rw [List.nodup_cons] at n2
        refine ⟨by rw [List.map_append, List.nodup_append]; exact ⟨n1, n2.2, fun a ha b hb => n3 a ha b (by simp [hb])⟩, fun k => ?_⟩
        have e1 : ∀ k, k ∈ l.map Prod.fst ↔ k ∈ (pre ++ x :: post).map Prod.fst := by
          intro k
          simp only [List.mem_map]
          exact ⟨fun ⟨y, hy, e⟩ => ⟨y, (hlm y).1 hy, e⟩, fun ⟨y, hy, e⟩ => ⟨y, (hlm y).2 hy, e⟩⟩
        rw [e1]
        simp only [List.map_append, List.map_cons, List.mem_append, List.mem_cons]
        constructor
        · rintro (h | h)
          · exact ⟨.inl h, fun e => n3 k h x.1 (by simp) e⟩
          · exact ⟨.inr (.inr h), fun e => n2.1 (e ▸ h)⟩
        · rintro ⟨h | h | h, hne⟩
          · exact .inl h
          · exact absurd h hne
          · exact .inr h
      by_cases hxj : x.1 = j0
      · -- the new variable comes up: the second list
        obtain ⟨pre, post, rfl⟩ := List.append_of_mem ((hAB x).1 hx)
        obtain ⟨q1, q2⟩ := hpart _ hndB hAB pre post rfl
        have hpw' := List.pairwise_append.1 hpwB
        have hne : ∀ p ∈ pre ++ post, p.1 ≠ j0 := fun p hp e => ((q2 p.1).1 (List.mem_map.2 ⟨p, hp, rfl⟩)).2 (by rw [e, hxj])
        have hb := bring L hns x post ho pre a w (fun p hp => hswap p ((hAB p).2 (by simp [hp])) (by
          rcases hpw'.2.2 p hp x (by simp) with h' | h'
          · exact h'
          · exact absurd h'.1 (hne p (by simp [hp])))) hB
        refine wpOp_mono (fun a' w' hk => any_of_sq L hlow hms n (pre ++ post) (listed.setIfInBounds x.1 true) a' w' (by simp at hlB ⊢; omega) hclosed (by simp [hsz]) (hmem' _ q2) q1 ?_ hk) (itm_wpOp L hb)
        have : (pre ++ post).Pairwise (fun p x => pairOk sym ops ms p x = true ∨ (p.1 = j0 ∧ x.1 = i0)) := by
          rw [List.pairwise_append]
          exact ⟨hpw'.1, (List.pairwise_cons.1 hpw'.2.1).2, fun a ha b hb => hpw'.2.2 a ha b (by simp [hb])⟩
        exact this.imp_of_mem (fun {p q} hp hq hor => hor.elim id (fun h' => absurd h'.1 (hne p hp)))
      · obtain ⟨pre, post, hlp⟩ := List.append_of_mem hx
        obtain ⟨q1, q2⟩ := hpart _ hnd (fun _ => Iff.rfl) pre post hlp
        have hpw0 := hpw
        rw [hlp] at hpw0
        have hpw' := List.pairwise_append.1 hpw0
        have hb := bring L hns x post ho pre a w (fun p hp => hswap p (by rw [hlp]; simp [hp]) (by
          rcases hpw'.2.2 p hp x (by simp) with h' | h'
          · exact h'
          · exact absurd h'.2 hxj)) (by rw [← hlp]; exact h)
        have hpwA : (pre ++ post).Pairwise (fun p x => pairOk sym ops ms p x = true ∨ (p.1 = i0 ∧ x.1 = j0)) := by
          rw [List.pairwise_append]
          exact ⟨hpw'.1, (List.pairwise_cons.1 hpw'.2.1).2, fun a ha b hb => hpw'.2.2 a ha b (by simp [hb])⟩
        have hlen : (pre ++ post).length = n := by rw [hlp] at hl; simp at hl ⊢; omega
        by_cases hxi : x.1 = i0
        · have hne : ∀ p ∈ pre ++ post, p.1 ≠ i0 := fun p hp e => ((q2 p.1).1 (List.mem_map.2 ⟨p, hp, rfl⟩)).2 (by rw [e, hxi])
          refine wpOp_mono (fun a' w' hk => any_of_sq L hlow hms n (pre ++ post) (listed.setIfInBounds x.1 true) a' w' hlen hclosed (by simp [hsz]) (hmem' _ q2) q1 ?_ hk) (itm_wpOp L hb)
          exact hpwA.imp_of_mem (fun {p q} hp hq hor => hor.elim id (fun h' => absurd h'.1 (hne p hp)))
        · obtain ⟨preB, postB, hlpB⟩ := List.append_of_mem ((hAB x).1 hx)
          obtain ⟨q1B, q2B⟩ := hpart _ hndB hAB preB postB hlpB
          have hpwB0 := hpwB
          rw [hlpB] at hpwB0
          have hpwB' := List.pairwise_append.1 hpwB0
          have hbB := bring L hns x postB ho preB a w (fun p hp => hswap p ((hAB p).2 (by rw [hlpB]; simp [hp])) (by
            rcases hpwB'.2.2 p hp x (by simp) with h' | h'
            · exact h'
            · exact absurd h'.2 hxi)) (by rw [← hlpB]; exact hB)
          have hx1 : x.2 ≤ 1 := by
            rcases hcl x hx with h' | h' | h' | h' | h'
            · exact absurd h' hxi
            · exact absurd h' hxj
            · exact h'
            · exact (hwait i0 hi0 h').elim
            · exact (hwait j0 hj0 h').elim
          refine wpOp_mono (fun a' w' hk => ih (pre ++ post) (preB ++ postB) (listed.setIfInBounds x.1 true) a' w' hlen (by rw [hlpB] at hlB; simp at hlB ⊢; omega) ?_ hclosed (by simp [hsz]) (hmem' _ q2) q1 q1B ((q2 i0).2 ⟨hi0, fun e => hxi e.symm⟩) ((q2 j0).2 ⟨hj0, fun e => hxj e.symm⟩) ?_ hpwA ?_ hk.1 hk.2) (itm_wpOp L (itm_and L hx1 hb hbB))
          · intro y
            have hy1 : y ∈ l ↔ y = x ∨ y ∈ pre ++ post := by rw [hlp]; simp only [List.mem_append, List.mem_cons]; exact ⟨fun h => h.elim (fun a => .inr (.inl a)) (fun b => b.elim .inl (fun c => .inr (.inr c))), fun h => h.elim (fun a => .inr (.inl a)) (fun b => b.elim .inl (fun c => .inr (.inr c)))⟩
            have hy2 : y ∈ lB ↔ y = x ∨ y ∈ preB ++ postB := by rw [hlpB]; simp only [List.mem_append, List.mem_cons]; exact ⟨fun h => h.elim (fun a => .inr (.inl a)) (fun b => b.elim .inl (fun c => .inr (.inr c))), fun h => h.elim (fun a => .inr (.inl a)) (fun b => b.elim .inl (fun c => .inr (.inr c)))⟩
            have hxp : x ∉ pre ++ post := fun hm => ((q2 x.1).1 (List.mem_map.2 ⟨x, hm, rfl⟩)).2 rfl
            have hxpB : x ∉ preB ++ postB := fun hm => ((q2B x.1).1 (List.mem_map.2 ⟨x, hm, rfl⟩)).2 rfl
            constructor
            · intro hy
              rcases hy2.1 ((hAB y).1 (hy1.2 (.inr hy))) with e | h'
              · subst e; exact absurd hy hxp
              · exact h'
            · intro hy
              rcases hy1.1 ((hAB y).2 (hy2.2 (.inr hy))) with e | h'
              · subst e; exact absurd hy hxpB
              · exact h'
          · intro y hy
            exact hcl y (by rw [hlp]; simp at hy ⊢; rcases hy with h | h <;> simp [h])
          · rw [List.pairwise_append]
            exact ⟨hpwB'.1, (List.pairwise_cons.1 hpwB'.2.1).2, fun a ha b hb => hpwB'.2.2 a ha b (by simp [hb])⟩

theorem segW_mono {B : List Nat} {R R' : Act → World → Prop} (hr : ∀ a w, R a w → R' a w) : ∀ (ns cls : List Nat) (l : List Oper) (a : Act) (w : World), segW P ops B R ns cls l a w → segW P ops B R' ns cls l a w
  | [], cls, l, a, w, h => fun Q' hQ' => h Q' fun a' w' hk => hQ' a' w' ⟨hk.1, hr _ _ hk.2⟩
  | n :: ns, cls, l, a, w, h => fun Q' hQ' => h Q' fun a' w' hk => hQ' a' w' ⟨hk.1, hk.2.1, segW_mono hr ns _ _ a' w' hk.2.2⟩
def pairsX (sym : Bool) (ops : Array Oper) (ms : List Nat) (p0 x0 : Nat) : List (Nat × Nat) → Bool
  | [] => true
  | p :: r => r.all (fun x => pairOk sym ops ms p x || (p.1 == p0 && x.1 == x0)) && pairsX sym ops ms p0 x0 r
theorem pairsX_pw {sym : Bool} {ms : List Nat} {p0 x0 : Nat} : ∀ {l : List (Nat × Nat)}, pairsX sym ops ms p0 x0 l = true → l.Pairwise (fun p x => pairOk sym ops ms p x = true ∨ (p.1 = p0 ∧ x.1 = x0))
  | [], _ => .nil
  | p :: r, h => by
    simp only [pairsX, Bool.and_eq_true, List.all_eq_true, Bool.or_eq_true, beq_iff_eq] at h
    exact .cons h.1 (pairsX_pw h.2)
def listA (cls : List Nat) : List (Nat × Nat) := cls.zipIdx.map fun x => (x.2, x.1)
def listB (cls : List Nat) (j0 : Nat) : List (Nat × Nat) := (j0, 2) :: (((cls.take j0).zipIdx.map fun x => (x.2, x.1)) ++ ((cls.drop (j0 + 1)).zipIdx (j0 + 1)).map fun x => (x.2, x.1))
def ok2x (P : Program) (l : List Oper) (cls ns ms ns1 ns2 : List Nat) (i0 j0 : Nat) : Bool :=
  decide (cls.length = l.length) && decide (j0 < cls.length) && decide (i0 < cls.length) && decide (i0 ≠ j0) && cls.getD j0 0 == 2 && lowB l.toArray && masksOk l.toArray ms && pairsX true l.toArray ms i0 j0 (listA cls) && pairsX true l.toArray ms j0 i0 (listB cls j0) &&
  ((listA cls).all fun x => x.1 == i0 || x.1 == j0 || decide (x.2 ≤ 1) || (ms.getD x.1 0).testBit i0 || (ms.getD x.1 0).testBit j0) &&
  sOk P l.toArray ns cls l && sOk P l.toArray [1] [2] ((l.drop j0).take 1) && sOk P l.toArray ns1 (cls.take j0) (l.take j0) && sOk P l.toArray ns2 (cls.drop (j0 + 1)) (l.drop (j0 + 1)) && P.follows .mixedOrders

theorem listA_eq (cls : List Nat) {j0 : Nat} (hj : j0 < cls.length) (h2 : cls.getD j0 0 = 2) : listA cls = ((cls.take j0).zipIdx.map fun x => (x.2, x.1)) ++ (j0, 2) :: ((cls.drop (j0 + 1)).zipIdx (j0 + 1)).map fun x => (x.2, x.1) := by
  have e : cls = cls.take j0 ++ 2 :: cls.drop (j0 + 1) := by
    have : cls[j0] = 2 := by simpa [List.getD_eq_getElem?_getD, hj] using h2
    rw [← this]; simp
  have hl : (cls.take j0).length = j0 := by simp; omega
  have h3 : listA (cls.take j0 ++ 2 :: cls.drop (j0 + 1)) = ((cls.take j0).zipIdx.map fun x => (x.2, x.1)) ++ (j0, 2) :: ((cls.drop (j0 + 1)).zipIdx (j0 + 1)).map fun x => (x.2, x.1) := by
    unfold listA
    rw [List.zipIdx_append, List.map_append, List.zipIdx_cons, List.map_cons, hl, Nat.zero_add]
  rw [← e] at h3
  exact h3

/-- MODE 2X: one new variable (j0) and one call (i0) in either order. -/
theorem region2x {id : Nat} {l : List Oper} {Q : Exit → Act → World → Prop} {a : Act} {w : World} (B cls ns ms ns1 ns2 : List Nat) (i0 j0 : Nat) (hok : ok2x P l cls ns ms ns1 ns2 i0 j0 = true)
    (hA : segW P l.toArray B (Q .normal) ns cls l a w.drew)
    (hB : segW P l.toArray B (fun a w => segW P l.toArray B (fun a w => segW P l.toArray B (Q .normal) ns2 (cls.drop (j0 + 1)) (l.drop (j0 + 1)) a w) ns1 (cls.take j0) (l.take j0) a w) [1] [2] ((l.drop j0).take 1) a w.drew) : (Code.region id l.toArray true).wp P Q a w := by
  simp only [ok2x, Bool.and_eq_true, decide_eq_true_eq, beq_iff_eq] at hok
  obtain ⟨⟨⟨⟨⟨⟨⟨⟨⟨⟨⟨⟨⟨⟨h1, hj⟩, hi⟩, hne⟩, hc2⟩, hlow⟩, hms⟩, hpA⟩, hpB⟩, hcl⟩, hsA⟩, hs0⟩, hs1⟩, hs2⟩, hmx⟩ := hok
  have hfst : (listA cls).map Prod.fst = List.range l.toArray.size := by
    unfold listA
    rw [List.map_map, List.size_toArray, ← h1]
    have : (Prod.fst ∘ fun x : Nat × Nat => (x.2, x.1)) = Prod.snd := rfl
    rw [this, List.range_eq_range', List.zipIdx_map_snd]
  have hlA : (listA cls).length = l.toArray.size := by simp [listA, h1]
  have hAe := listA_eq cls hj hc2
  have hmemAB : ∀ x, x ∈ listA cls ↔ x ∈ listB cls j0 := by
    intro x
    rw [hAe]
    unfold listB
    simp only [List.mem_append, List.mem_cons]
    exact ⟨fun h => h.elim (fun a => .inr (.inl a)) (fun b => b.elim .inl (fun c => .inr (.inr c))), fun h => h.elim (fun a => .inr (.inl a)) (fun b => b.elim .inl (fun c => .inr (.inr c)))⟩
  have hndA : ((listA cls).map Prod.fst).Nodup := by rw [hfst]; exact List.nodup_range
  have hndB : ((listB cls j0).map Prod.fst).Nodup := by
    have := hndA
    rw [hAe] at this
    unfold listB
    simp only [List.map_append, List.map_cons] at this ⊢
    rw [List.nodup_append] at this
    obtain ⟨n1, n2, n3⟩ := this
    rw [List.nodup_cons] at n2 ⊢
    rw [List.nodup_append]
    refine ⟨fun hm => ?_, n1, n2.2, fun a ha b hb => n3 a ha b (List.mem_cons_of_mem _ hb)⟩
    rcases List.mem_append.1 hm with h | h
    · exact n3 j0 h j0 (by simp) rfl
    · exact n2.1 h
  have hlB : (listB cls j0).length = l.toArray.size := by
    have := congrArg List.length hAe
    rw [hlA] at this
    unfold listB
    simp only [List.length_append, List.length_cons] at this ⊢
    omega
  generalize hops : l.toArray = ops at *
  refine wp_region_any hmx ?_
  refine any_of_sq2 (likes_keep B) hlow hms i0 j0 hne ops.size (listA cls) (listB cls j0) _ a _ hlA hlB hmemAB ?_ (by simp) ?_ hndA hndB (by rw [hfst]; simp [← hops]; omega) (by rw [hfst]; simp [← hops]; omega) (fun x hx => ?_) (pairsX_pw hpA) (pairsX_pw hpB) ?_ ?_
  · intro j o _ hj
    exfalso
    rcases Nat.lt_or_ge j ops.size with h' | h'
    · simp [h'] at hj
    · simp [h'] at hj
  · intro i
    rw [hfst, List.mem_range]
    rcases Nat.lt_or_ge i ops.size with h' | h'
    · simp [h']
    · simp [h']
  · have := List.all_eq_true.1 hcl x hx
    simpa [or_assoc] using this
  · subst hops
    show sq P l.toArray (Keep B) (cls.zipIdx.map fun x => (x.2, x.1)) (Q .normal) a w.drew
    rw [← idx_zip l cls 0 h1]
    exact sq_segs B ns cls l 0 a _ h1 (fun j => by simp) hsA hA
  · subst hops
    have hd : (l.drop j0).take 1 = [l[j0]'(by omega)] := by
      rw [List.drop_eq_getElem_cons (by omega)]; rfl
    have hz1 : ((cls.take j0).zipIdx.map fun x => (x.2, x.1)) = idx 0 ((l.take j0).zip (cls.take j0)) := by rw [← idx_zip (l.take j0) (cls.take j0) 0 (by simp [h1])]
    have hz2 : (((cls.drop (j0 + 1)).zipIdx (j0 + 1)).map fun x => (x.2, x.1)) = idx (j0 + 1) ((l.drop (j0 + 1)).zip (cls.drop (j0 + 1))) := by rw [← idx_zip (l.drop (j0 + 1)) (cls.drop (j0 + 1)) (j0 + 1) (by simp [h1])]
    have hz0 : [(j0, 2)] = idx j0 (((l.drop j0).take 1).zip [2]) := by rw [hd]; rfl
    show sq P l.toArray (Keep B) ([(j0, 2)] ++ (((cls.take j0).zipIdx.map fun x => (x.2, x.1)) ++ ((cls.drop (j0 + 1)).zipIdx (j0 + 1)).map fun x => (x.2, x.1))) (Q .normal) a w.drew
    refine sq_append _ _ _ _ ?_
    rw [hz0]
    refine sq_segs B [1] [2] _ j0 a _ (by rw [hd]; rfl) (fun j => ?_) hs0 ?_
    · rw [hd]
      cases j with
      | zero => left; simp
      | succ j => right; simp
    · refine segW_mono (fun a' w' hk => ?_) _ _ _ _ _ hB
      refine sq_append _ _ _ _ ?_
      rw [hz1]
      refine sq_segs B ns1 (cls.take j0) (l.take j0) 0 a' _ (by simp [h1]) (fun j => ?_) hs1 ?_
      · rcases Nat.lt_or_ge j j0 with hj' | hj'
        · left; simp [List.getElem?_take, hj']
        · right; simp; omega
      · refine segW_mono (fun a2 w2 hk2 => ?_) _ _ _ _ _ hk
        rw [hz2]
        refine sq_segs B ns2 (cls.drop (j0 + 1)) (l.drop (j0 + 1)) (j0 + 1) a2 _ (by simp [h1]) (fun j => ?_) hs2 hk2
        left; simp
end
end Go.Reg

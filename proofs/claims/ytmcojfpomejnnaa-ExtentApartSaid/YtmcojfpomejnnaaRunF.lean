/- A drawn region with calls, walked as lists between its calls, in the order of its text; named blocks stay. -/
import Derived.Test.YtmcojfpomejnnaaRunE
set_option linter.unusedSimpArgs false
set_option linter.unusedVariables false
namespace Go.Reg
open Go

section
variable {P : Program} {ops : Array Oper}

theorem wpList_onN_mono {Q Q' : Act → World → Prop} (hq : ∀ a w, Q a w → Q' a w) : ∀ (l : List Oper) (a : Act) (w : World), wpList P ops (onN Q) l a w → wpList P ops (onN Q') l a w := by
  intro l
  induction l with
  | nil => intro a w h; exact hq _ _ h
  | cons o l ih =>
    intro a w h
    unfold wpList at h ⊢
    split
    · rename_i hw
      rw [if_pos hw] at h
      rcases h with h | ⟨_, h⟩
      · left
        unfold Oper.wp at *
        generalize (execOp a.eval o).run P w = rr at *
        cases rr with
        | ok n w' =>
          cases n <;> simp only [Oper.upon] at h ⊢ <;> first
            | exact ih _ _ h
            | exact Calls.mono h (fun e w'' he => by cases e <;> first | exact ih _ _ he | exact he | (obtain ⟨_, _, hf⟩ := he; exact False.elim hf))
            | exact Rows.mono h (fun _ _ he => ih _ _ he)
        | halt xx w' => cases xx <;> simp only [Oper.upon] at h ⊢ <;> exact False.elim h
      · exact absurd h letsOut_onN
    · rename_i hw
      rw [if_neg hw] at h
      exact ih _ _ h

def segOk (P : Program) : List (Oper × Nat) → Bool
  | [] => false
  | x :: r => (x.2 == 2 && r.isEmpty) || ((decide (x.2 ≤ 1) || x.2 == 4) && synC P false x.1.op x.2 && segOk P r)

theorem sq_seg (L : List Nat) {N : Act → World → Prop} : ∀ (l : List (Oper × Nat)) (k : Nat) (a : Act) (w : World),
    (∀ j, (l.map Prod.fst)[j]? = ops[k + j]? ∨ l.length ≤ j) → segOk P l = true → stays ops l = true →
    wpList P ops (onN fun a' w' => (chk ops l a' = true ∧ (∀ b ∈ rb ops l a', b ∈ L)) ∧ Keep L w w' ∧ N a' w') (l.map Prod.fst) a w →
    sq P ops (Keep L) (idx k l) N a w
  | [], k, a, w, _, hs, _, h => by cases hs
  | x :: r, k, a, w, hops, hsy, hst, h => by
    have ho : ops[k]? = some x.1 := by
      rcases hops 0 with h0 | h0
      · simpa using h0.symm
      · simp at h0
    have hops' : ∀ j, (r.map Prod.fst)[j]? = ops[k + 1 + j]? ∨ r.length ≤ j := fun j => by
      rcases hops (j + 1) with h0 | h0
      · left; simpa [Nat.add_assoc, Nat.add_comm 1 j] using h0
      · right; simp at h0; omega
    have hst' : stays ops r = true := by
      simp only [stays, Bool.and_eq_true] at hst; exact hst.2
    simp only [segOk, Bool.or_eq_true, Bool.and_eq_true, beq_iff_eq, decide_eq_true_eq] at hsy
    show itm P ops (Keep L) (k, x.2) (sq P ops (Keep L) (idx (k + 1) r) N) a w
    rcases hsy with ⟨h2, he⟩ | ⟨⟨hc4, hs1⟩, hs2⟩
    · obtain rfl : r = [] := List.isEmpty_iff.1 he
      rw [itm2 (x := (k, x.2)) h2]
      simp only [List.map_cons, List.map_nil, wpList] at h
      refine stp_mono ?_ (wp_to_stp ho h)
      intro a' w' hk
      exact hk.2
    · have hhead := h
      have hck := chk_head (P := P) (L := L) true hc4 hst (R := fun a' w' => Keep L w w' ∧ N a' w') (wpList_onN_mono (fun a w hq => ⟨⟨hq.1.1, fun _ => hq.1.2⟩, hq.2⟩) _ _ _ hhead)
      have rest : ∀ a', wpList P ops (onN fun a' w' => (chk ops (x :: r) a' = true ∧ (∀ b ∈ rb ops (x :: r) a', b ∈ L)) ∧ Keep L w w' ∧ N a' w') (r.map Prod.fst) a' w → sq P ops (Keep L) (idx (k + 1) r) N a' w := by
        intro a' hk
        refine sq_seg L r (k + 1) a' w hops' hs2 hst' (wpList_onN_mono (fun a w hq => ?_) _ _ _ hk)
        obtain ⟨⟨h1, h2⟩, h3⟩ := hq
        refine ⟨⟨?_, fun b hb => h2 b ?_⟩, h3⟩
        · simp only [chk, List.all_cons, Bool.and_eq_true] at h1 ⊢; exact h1.2
        · simp only [rb, List.flatMap_cons, List.mem_append] at hb ⊢; exact .inr hb
      simp only [List.map_cons, wpList] at h
      by_cases hc : x.2 ≤ 1
      rotate_left
      · have h4 : x.2 = 4 := by omega
        rw [h4] at hs1
        obtain ⟨v, hy, hk⟩ := wp_to_yields4 (P := P) (fun ch a w hf => hf) letsOut_onN hs1 (fun hw => by have := (hck hw).1; rw [h4] at this; exact this) h
        rw [h4]
        exact ⟨x.1, v, ho, hy, rest _ hk⟩
      by_cases hw : Region.wanted x.1 (yielded ops a.tmps) = true
      · obtain ⟨v, hy, hk⟩ := wp_to_yields (P := P) (Sim := Keep L) hc (fun ch a w hf => hf) letsOut_onN (by
            obtain ⟨o, c⟩ := x
            simp only at hc hs1 ⊢
            match c, hc with
            | 0, _ => exact hs1
            | 1, _ => exact hs1)
          (fun h1 b hb => rd_load_keep ((hck hw).2 rfl h1 _ hb)) (fun _ => (hck hw).1) h
        exact free_mk (x := (k, x.2)) hc ho hy (rest _ hk)
      · rw [if_neg hw] at h
        exact free_mk (x := (k, x.2)) hc ho (.inr ⟨by simpa using hw, rfl⟩) (rest _ h)

theorem sq_append {Sim : World → World → Prop} {R : Act → World → Prop} : ∀ (l l' : List (Nat × Nat)) (a : Act) (w : World), sq P ops Sim l (sq P ops Sim l' R) a w → sq P ops Sim (l ++ l') R a w
  | [], _, _, _, h => h
  | x :: l, l', a, w, h => itm_mono (fun a w hk => sq_append l l' a w hk) h

theorem idx_append : ∀ (l l' : List (Oper × Nat)) (k : Nat), idx k (l ++ l') = idx k l ++ idx (k + l.length) l'
  | [], _, _ => by simp [idx]
  | x :: l, l', k => by
    simp only [List.cons_append, idx, List.length_cons]
    rw [idx_append l l' (k + 1)]
    congr 3; omega

def segW (P : Program) (ops : Array Oper) (L : List Nat) (R : Act → World → Prop) : List Nat → List Nat → List Oper → Act → World → Prop
  | [], cls, l, a, w => ∀ Q' : Exit → Act → World → Prop, (∀ a' w', (chk ops (l.zip cls) a' = true ∧ (∀ b ∈ rb ops (l.zip cls) a', b ∈ L)) ∧ R a' w' → Q' .normal a' w') → wpList P ops Q' l a w
  | n :: ns, cls, l, a, w => ∀ Q' : Exit → Act → World → Prop, (∀ a' w', (chk ops ((l.take n).zip (cls.take n)) a' = true ∧ (∀ b ∈ rb ops ((l.take n).zip (cls.take n)) a', b ∈ L)) ∧ Keep L w w' ∧ segW P ops L R ns (cls.drop n) (l.drop n) a' w' → Q' .normal a' w') → wpList P ops Q' (l.take n) a w

def sOk (P : Program) (ops : Array Oper) : List Nat → List Nat → List Oper → Bool
  | [], cls, l => ((l.zip cls).all fun x => synC P false x.1.op x.2) && stays ops (l.zip cls)
  | n :: ns, cls, l => segOk P ((l.take n).zip (cls.take n)) && stays ops ((l.take n).zip (cls.take n)) && sOk P ops ns (cls.drop n) (l.drop n)

theorem sq_segs (L : List Nat) {R : Act → World → Prop} : ∀ (ns cls : List Nat) (l : List Oper) (k : Nat) (a : Act) (w : World), cls.length = l.length →
    (∀ j, l[j]? = ops[k + j]? ∨ l.length ≤ j) → sOk P ops ns cls l = true → segW P ops L R ns cls l a w → sq P ops (Keep L) (idx k (l.zip cls)) R a w
  | [], cls, l, k, a, w, hl, hops, hs, h => by
    simp only [sOk, Bool.and_eq_true] at hs
    refine sq_last false true L (fun hf => by cases hf) (fun b hb => rd_load_keep (hb rfl)) (l.zip cls) k a w (fun j => ?_) hs.1 hs.2 ?_
    · rw [zip_fst l cls hl]
      rcases hops j with h0 | h0
      · exact .inl h0
      · right; simp [hl]; exact h0
    · rw [zip_fst l cls hl]
      exact h _ (fun a' w' hk => ⟨⟨hk.1.1, fun _ => hk.1.2⟩, hk.2⟩)
  | n :: ns, cls, l, k, a, w, hl, hops, hs, h => by
    simp only [sOk, Bool.and_eq_true] at hs
    have e : l.zip cls = (l.take n).zip (cls.take n) ++ (l.drop n).zip (cls.drop n) := by
      rw [← List.zip_append (by simp [hl]), List.take_append_drop, List.take_append_drop]
    have hl1 : (cls.take n).length = (l.take n).length := by simp [hl]
    rw [e, idx_append]
    refine sq_append _ _ _ _ ?_
    refine sq_seg L _ k a w (fun j => ?_) hs.1.1 hs.1.2 ?_
    · rw [zip_fst _ _ hl1]
      rcases Nat.lt_or_ge j n with hj | hj
      · rcases hops j with h0 | h0
        · left; rw [List.getElem?_take_of_lt hj]; exact h0
        · right; simp [hl]; omega
      · right; simp; omega
    · rw [zip_fst _ _ hl1]
      refine wpList_onN_mono (fun a' w' hk => ⟨hk.1, hk.2.1, ?_⟩) _ _ _ (h _ (fun a' w' hk => hk))
      refine sq_segs L ns (cls.drop n) (l.drop n) _ a' w' (by simp [hl]) (fun j => ?_) hs.2 hk.2.2
      have hlen : ((l.take n).zip (cls.take n)).length = min n l.length := by simp [hl]
      rw [hlen]
      rcases Nat.le_total n l.length with hn | hn
      · rcases hops (n + j) with h0 | h0
        · left; rw [List.getElem?_drop, h0]; congr 1; omega
        · right; simp; omega
      · right; simp; omega

def ok2 (P : Program) (l : List Oper) (cls ns ms : List Nat) : Bool :=
  decide (cls.length = l.length) && lowB l.toArray && masksOk l.toArray ms && pairsOk true l.toArray ms (cls.zipIdx.map fun x => (x.2, x.1)) && sOk P l.toArray ns cls l && P.follows .mixedOrders

/-- MODE 2: a region that draws its order and holds calls, in the order of its text: lists between the calls; the blocks of L, which its loads read, stay. -/
theorem region2 {id : Nat} {l : List Oper} {Q : Exit → Act → World → Prop} {a : Act} {w : World} (L : List Nat) (cls ns ms : List Nat) (hok : ok2 P l cls ns ms = true)
    (h : segW P l.toArray L (Q .normal) ns cls l a { w with drawn := w.drawn + 1 }) : (Code.region id l.toArray true).wp P Q a w := by
  simp only [ok2, Bool.and_eq_true, decide_eq_true_eq] at hok
  obtain ⟨⟨⟨⟨⟨h1, h2⟩, hms⟩, h3⟩, h4⟩, h6⟩ := hok
  refine wp_region_sq (likes_keep L) cls ms h6 (by simpa using h1) h2 hms h3 ?_
  rw [← idx_zip l cls 0 h1]
  exact sq_segs L ns cls l 0 a _ h1 (fun j => by simp) h4 h

theorem region1d {id : Nat} {l : List Oper} {Q : Exit → Act → World → Prop} {a : Act} {w : World} (cls ms : List Nat) (hok : ok1 P l cls ms = true)
    (h : ∀ Q' : Exit → Act → World → Prop, (∀ a' w', chk l.toArray (l.zip cls) a' = true ∧ Q .normal a' w' → Q' .normal a' w') → wpList P l.toArray Q' l a w.drew) :
    (Code.region id l.toArray true).wp P Q a w := region1 cls ms hok h
theorem region2d {id : Nat} {l : List Oper} {Q : Exit → Act → World → Prop} {a : Act} {w : World} (L : List Nat) (cls ns ms : List Nat) (hok : ok2 P l cls ns ms = true)
    (h : segW P l.toArray L (Q .normal) ns cls l a w.drew) : (Code.region id l.toArray true).wp P Q a w := region2 L cls ns ms hok h
end
end Go.Reg

/- A region that draws its order may be walked in the order of its text: the general law, over any program. -/
import Derived.Orders
import Derived.OrdersHeld
import Derived.Tactics
import Derived.Calls
namespace Go.Reg
open Go

section
variable {P : Program} {ops : Array Oper} {Sim : World → World → Prop}

def nope : Exit → Act → World → Prop := fun _ _ _ => False

def stp (P : Program) (ops : Array Oper) (i : Nat) (K : Act → World → Prop) (a : Act) (w : World) : Prop :=
  match ops[i]? with
  | none => False
  | some o => if Region.wanted o (yielded ops a.tmps) then o.wp P a w K nope else K (a.put o.dst undef) w

/-- class 0: yields its value in every world; 1: in every world like this one; 2: does its step, and the world behind it is like this one; 4: yields its value in this world; else: does its step. -/
def itm (P : Program) (ops : Array Oper) (Sim : World → World → Prop) (x : Nat × Nat) (K : Act → World → Prop) (a : Act) (w : World) : Prop :=
  match x.2 with
  | 0 => ∃ o v, ops[x.1]? = some o ∧ Yields P ops o v a ∧ K (a.put o.dst v) w
  | 1 => ∃ o v, ops[x.1]? = some o ∧ YieldsIf P ops (Sim w) o v a ∧ K (a.put o.dst v) w
  | 2 => stp P ops x.1 (fun a' w' => Sim w w' ∧ K a' w') a w
  | 4 => ∃ o v, ops[x.1]? = some o ∧ YieldsIf P ops (fun w' => w' = w) o v a ∧ K (a.put o.dst v) w
  | _ => stp P ops x.1 K a w

def sq (P : Program) (ops : Array Oper) (Sim : World → World → Prop) : List (Nat × Nat) → (Act → World → Prop) → Act → World → Prop
  | [], R, a, w => R a w
  | x :: r, R, a, w => itm P ops Sim x (sq P ops Sim r R) a w

theorem wp_mono_nope {o : Oper} {a : Act} {w : World} {K K' : Act → World → Prop} {Q : Exit → Act → World → Prop} (h : ∀ a w, K a w → K' a w)
    (hh : o.wp P a w K nope) : o.wp P a w K' Q := by
  unfold Oper.wp at *
  generalize (execOp a.eval o).run P w = r at *
  cases r with
  | ok n w' =>
    cases n <;> simp only [Oper.upon] at hh ⊢ <;>
      first
        | exact h _ _ hh
        | exact Calls.mono hh (fun e w'' he => by cases e <;> first | exact h _ _ he | exact False.elim he | (obtain ⟨_, _, hf⟩ := he; exact False.elim hf))
        | exact Rows.mono hh (fun _ _ he => h _ _ he)
  | halt x w' => cases x <;> simp only [Oper.upon] at hh ⊢ <;> exact False.elim hh

theorem stp_mono {i : Nat} {a : Act} {w : World} {K K' : Act → World → Prop} (h : ∀ a w, K a w → K' a w) (hh : stp P ops i K a w) : stp P ops i K' a w := by
  unfold stp at *
  split
  · rename_i ho; simp [ho] at hh
  · rename_i o ho
    simp only [ho] at hh
    split
    · rename_i hw; rw [if_pos hw] at hh; exact wp_mono_nope h hh
    · rename_i hw; rw [if_neg hw] at hh; exact h _ _ hh

theorem itm_mono {x : Nat × Nat} {a : Act} {w : World} {K K' : Act → World → Prop} (h : ∀ a w, K a w → K' a w) (hh : itm P ops Sim x K a w) : itm P ops Sim x K' a w := by
  unfold itm at *
  split at hh
  · obtain ⟨o, v, h1, h2, h3⟩ := hh; exact ⟨o, v, h1, h2, h _ _ h3⟩
  · obtain ⟨o, v, h1, h2, h3⟩ := hh; exact ⟨o, v, h1, h2, h _ _ h3⟩
  · exact stp_mono (fun a w hk => ⟨hk.1, h _ _ hk.2⟩) hh
  · obtain ⟨o, v, h1, h2, h3⟩ := hh; exact ⟨o, v, h1, h2, h _ _ h3⟩
  · exact stp_mono h hh

def Same (ops : Array Oper) (oi : Oper) (a a' : Act) : Prop :=
  execOp a'.eval oi = execOp a.eval oi ∧ Region.wanted oi (yielded ops a'.tmps) = Region.wanted oi (yielded ops a.tmps)

theorem Same.put {oi oj : Oper} {a a' : Act} (hs : Same ops oi a a') (hsi : ∀ cs b, oi.op ≠ .select cs b) (h3 : ∀ d, oj.dst = some d → d ∉ oi.looksAt ops) (u : Value) : Same ops oi a (a'.put oj.dst u) :=
  ⟨(execOp_put oi hsi a' oj.dst u h3).trans hs.1, (wanted_put oi a' oj.dst u h3).trans hs.2⟩

/-- one operation, apart from 'oi': whether 'oi''s value is there already makes no difference. -/
theorem stp_put {j : Nat} {oi oj : Oper} {v : Value} (hj : ops[j]? = some oj) (hap : oi.apart ops oj = true)
    (hsi : ∀ cs b, oi.op ≠ .select cs b) (hsj : ∀ cs b, oj.op ≠ .select cs b) {K : Act → World → Prop} {a : Act} {w : World}
    (h : stp P ops j K (a.put oi.dst v) w) :
    stp P ops j (fun a' w' => Same ops oi a a' ∧ K (a'.put oi.dst v) w') a w := by
  obtain ⟨h1, h2, h3⟩ := Oper.apart_spec hap
  have keep : ∀ u, Same ops oi a (a.put oj.dst u) := fun u => Same.put ⟨rfl, rfl⟩ hsi h3 u
  have keepD : ∀ d u, Same ops oi a ({ a with defers := d :: a.defers }.put oj.dst u) := fun d u => Same.put (a' := { a with defers := d :: a.defers }) ⟨rfl, rfl⟩ hsi h3 u
  unfold stp at *
  simp only [hj] at *
  rw [wanted_put oj a oi.dst v h1] at h
  split
  · rename_i hw
    simp only [hw, if_true] at h
    unfold Oper.wp at *
    rw [execOp_put oj hsj a oi.dst v h1] at h
    generalize (execOp a.eval oj).run P w = r at *
    cases r with
    | ok n w' =>
      cases n <;> simp only [Oper.upon] at h ⊢
      case value u => exact ⟨keep u, by rw [← Act.put_comm a v u h2]; exact h⟩
      case skip => exact ⟨keep _, by rw [← Act.put_comm a v undef h2]; exact h⟩
      case defer d =>
        refine ⟨keepD d _, ?_⟩
        rw [← Act.put_comm _ v undef h2, ← Act.put_defers]
        exact h
      case enter f args =>
        refine Calls.mono h fun e w'' he => ?_
        cases e with
        | returned u => exact ⟨keep u, by rw [← Act.put_comm a v u h2]; exact he⟩
        | panicked c => exact he
        | outgrown => exact he
      case row row args => exact Rows.mono h fun u w'' he => ⟨keep u, by rw [← Act.put_comm a v u h2]; exact he⟩
    | halt x w' => cases x <;> simp only [Oper.upon] at h ⊢ <;> exact h
  · rename_i hw
    simp only [hw] at h
    exact ⟨keep _, by rw [← Act.put_comm a v undef h2]; exact h⟩

/-- and back. -/
theorem stp_back {j : Nat} {oi oj : Oper} (hj : ops[j]? = some oj) (hap : oi.apart ops oj = true)
    (hsj : ∀ cs b, oj.op ≠ .select cs b) {K : Act → World → Prop} {a : Act} {w : World} {v : Value}
    (h : stp P ops j (fun a' w' => K (a'.put oi.dst v) w') a w) : stp P ops j K (a.put oi.dst v) w := by
  obtain ⟨h1, h2, h3⟩ := Oper.apart_spec hap
  unfold stp at *
  simp only [hj] at *
  rw [wanted_put oj a oi.dst v h1]
  split
  · rename_i hw
    simp only [hw, if_true] at h
    unfold Oper.wp at *
    rw [execOp_put oj hsj a oi.dst v h1]
    generalize (execOp a.eval oj).run P w = r at *
    cases r with
    | ok n w' =>
      cases n <;> simp only [Oper.upon] at h ⊢
      case value u => rw [Act.put_comm a v u h2]; exact h
      case skip => rw [Act.put_comm a v undef h2]; exact h
      case defer d =>
        rw [Act.put_defers, Act.put_comm _ v undef h2]
        exact h
      case enter f args =>
        refine Calls.mono h fun e w'' he => ?_
        cases e with
        | returned u => simp only [] at he ⊢; rw [Act.put_comm a v u h2]; exact he
        | panicked c => exact he
        | outgrown => exact he
      case row row args => exact Rows.mono h fun u w'' he => by rw [Act.put_comm a v u h2]; exact he
    | halt x w' => cases x <;> simp only [Oper.upon] at h ⊢ <;> exact h
  · rename_i hw
    simp only [hw] at h
    rw [Act.put_comm a v undef h2]; exact h

theorem stp_same {j : Nat} {oi oj : Oper} (hj : ops[j]? = some oj) (hap : oi.apart ops oj = true)
    (hsi : ∀ cs b, oi.op ≠ .select cs b) {K : Act → World → Prop} {a : Act} {w : World}
    (h : stp P ops j K a w) : stp P ops j (fun a' w' => Same ops oi a a' ∧ K a' w') a w := by
  obtain ⟨h1, h2, h3⟩ := Oper.apart_spec hap
  have keep : ∀ u, Same ops oi a (a.put oj.dst u) := fun u => Same.put ⟨rfl, rfl⟩ hsi h3 u
  have keepD : ∀ d u, Same ops oi a ({ a with defers := d :: a.defers }.put oj.dst u) := fun d u => Same.put (a' := { a with defers := d :: a.defers }) ⟨rfl, rfl⟩ hsi h3 u
  unfold stp at *
  simp only [hj] at *
  split
  · rename_i hw
    simp only [hw, if_true] at h
    unfold Oper.wp at *
    generalize (execOp a.eval oj).run P w = r at *
    cases r with
    | ok n w' =>
      cases n <;> simp only [Oper.upon] at h ⊢
      case value u => exact ⟨keep u, h⟩
      case skip => exact ⟨keep _, h⟩
      case defer d => exact ⟨keepD d _, h⟩
      case enter f args =>
        refine Calls.mono h fun e w'' he => ?_
        cases e with
        | returned u => exact ⟨keep u, he⟩
        | panicked c => exact he
        | outgrown => exact he
      case row row args => exact Rows.mono h fun u w'' he => ⟨keep u, he⟩
    | halt x w' => cases x <;> simp only [Oper.upon] at h ⊢ <;> exact h
  · rename_i hw
    simp only [hw] at h
    exact ⟨keep _, h⟩

theorem stp_ex {j : Nat} {K : Act → World → Prop} {a : Act} {w : World} (h : stp P ops j K a w) : ∃ a' w', K a' w' := by
  unfold stp at h
  split at h
  · exact h.elim
  · rename_i o _
    split at h
    · unfold Oper.wp at h
      generalize (execOp a.eval o).run P w = r at *
      cases r with
      | ok n w' =>
        cases n <;> simp only [Oper.upon] at h
        case value u => exact ⟨_, _, h⟩
        case skip => exact ⟨_, _, h⟩
        case defer d => exact ⟨_, _, h⟩
        case enter f args =>
          obtain ⟨e, w'', _, hR, _⟩ := h []
          cases e with
          | returned u => exact ⟨_, _, hR⟩
          | panicked c => exact False.elim hR
          | outgrown => obtain ⟨_, _, hf⟩ := hR; exact False.elim hf
        case row row args =>
          obtain ⟨u, w'', hR, _⟩ := h default []
          exact ⟨_, _, hR⟩
      | halt x w' => cases x <;> simp only [Oper.upon] at h <;> exact False.elim h
    · exact ⟨_, _, h⟩

theorem YieldsIf.unique {S S' : World → Prop} {o : Oper} {v v' : Value} {a : Act} {w : World} (h : YieldsIf P ops S o v a) (h' : YieldsIf P ops S' o v' a) (hs : S w) (hs' : S' w) : v = v' := by
  rcases h with ⟨h1, h2⟩ | ⟨h1, rfl⟩ <;> rcases h' with ⟨k1, k2⟩ | ⟨k1, rfl⟩
  · have := (h2 w hs).symm.trans (k2 w hs'); simpa using this
  · rw [h1] at k1; cases k1
  · rw [h1] at k1; cases k1
  · rfl

theorem yi_same {S : World → Prop} {o : Oper} {v : Value} {a a' : Act} (hs : Same ops o a a') (h : YieldsIf P ops S o v a) : YieldsIf P ops S o v a' := h.of_same hs.1 hs.2
theorem yi_same' {S : World → Prop} {o : Oper} {v : Value} {a a' : Act} (hs : Same ops o a a') (h : YieldsIf P ops S o v a') : YieldsIf P ops S o v a := h.of_same hs.1.symm hs.2.symm
theorem ys_same {o : Oper} {v : Value} {a a' : Act} (hs : Same ops o a a') (h : Yields P ops o v a) : Yields P ops o v a' := h.of_same hs.1 hs.2
theorem ys_same' {o : Oper} {v : Value} {a a' : Act} (hs : Same ops o a a') (h : Yields P ops o v a') : Yields P ops o v a := h.of_same hs.1.symm hs.2.symm

/-- May p, which stands before x, come behind it as well? (sym: the likeness of worlds is symmetric.) -/
def swapOk (sym : Bool) (p x : Nat) : Bool :=
  p == 0 || x == 0 || (decide (p ≤ 1) && decide (x ≤ 1)) || (p == 1 && x == 2) || (sym && p == 2 && x == 1) || (p == 4 && (x == 1 || x == 4)) || (x == 4 && p == 1)

/-- what the law asks of the likeness of worlds -/
structure Likes (Sim : World → World → Prop) (sym : Bool) : Prop where
  refl : ∀ w, Sim w w
  trans : ∀ a b c, Sim a b → Sim b c → Sim a c
  sym : sym = true → ∀ a b, Sim a b → Sim b a

theorem apart_symm {x y : Oper} (h : x.apart ops y = true) : y.apart ops x = true := by
  unfold Oper.apart at *
  cases hx : x.dst <;> cases hy : y.dst <;> simp_all
  · exact fun e => h.1.2 e.symm

theorem free_inv {x : Nat × Nat} (hx : x.2 ≤ 1) {K : Act → World → Prop} {a : Act} {w : World} (h : itm P ops Sim x K a w) :
    ∃ o v, ops[x.1]? = some o ∧ YieldsIf P ops (if x.2 = 0 then fun _ => True else Sim w) o v a ∧ K (a.put o.dst v) w := by
  obtain ⟨i, c⟩ := x
  match c, hx with
  | 0, _ => obtain ⟨o, v, h1, h2, h3⟩ := h; exact ⟨o, v, h1, by simpa using h2.yieldsIf, h3⟩
  | 1, _ => obtain ⟨o, v, h1, h2, h3⟩ := h; exact ⟨o, v, h1, by simpa using h2, h3⟩

theorem free_mk {x : Nat × Nat} (hx : x.2 ≤ 1) {K : Act → World → Prop} {a : Act} {w : World} {o : Oper} {v : Value} (ho : ops[x.1]? = some o)
    (hy : YieldsIf P ops (if x.2 = 0 then fun _ => True else Sim w) o v a) (hk : K (a.put o.dst v) w) : itm P ops Sim x K a w := by
  obtain ⟨i, c⟩ := x
  match c, hx with
  | 0, _ => exact ⟨o, v, ho, by simpa [Yields, YieldsIf] using hy, hk⟩
  | 1, _ => exact ⟨o, v, ho, by simpa using hy, hk⟩

theorem itm2 {x : Nat × Nat} (h : x.2 = 2) (K : Act → World → Prop) (a : Act) (w : World) : itm P ops Sim x K a w = stp P ops x.1 (fun a' w' => Sim w w' ∧ K a' w') a w := by
  unfold itm; rw [h]; rfl
theorem itm3 {x : Nat × Nat} (h : x.2 = 3 ∨ 5 ≤ x.2) (K : Act → World → Prop) (a : Act) (w : World) : itm P ops Sim x K a w = stp P ops x.1 K a w := by
  rcases h with h | h
  · unfold itm; rw [h]; rfl
  · obtain ⟨n, hn⟩ : ∃ n, x.2 = n + 5 := ⟨x.2 - 5, by omega⟩
    unfold itm; rw [hn]; rfl
def sset (Sim : World → World → Prop) (c : Nat) (w : World) : World → Prop := fun w' => c = 0 ∨ (c = 1 ∧ Sim w w') ∨ w' = w
theorem fre_inv {sym : Bool} (L : Likes Sim sym) {x : Nat × Nat} (hx : x.2 ≤ 1 ∨ x.2 = 4) {K : Act → World → Prop} {a : Act} {w : World} (h : itm P ops Sim x K a w) :
    ∃ o v, ops[x.1]? = some o ∧ YieldsIf P ops (sset Sim x.2 w) o v a ∧ K (a.put o.dst v) w := by
  obtain ⟨i, c⟩ := x
  have hc : c = 0 ∨ c = 1 ∨ c = 4 := by simp only at hx; omega
  rcases hc with rfl | rfl | rfl
  · obtain ⟨o, v, h1, h2, h3⟩ := h
    exact ⟨o, v, h1, h2.imp (fun ⟨a, b⟩ => ⟨a, fun w' _ => b w'⟩) id, h3⟩
  · obtain ⟨o, v, h1, h2, h3⟩ := h
    refine ⟨o, v, h1, h2.imp (fun ⟨a, b⟩ => ⟨a, fun w' hw' => b w' ?_⟩) id, h3⟩
    rcases hw' with hw' | hw' | hw'
    · simp at hw'
    · exact hw'.2
    · rw [hw']; exact L.refl w
  · obtain ⟨o, v, h1, h2, h3⟩ := h
    refine ⟨o, v, h1, h2.imp (fun ⟨a, b⟩ => ⟨a, fun w' hw' => b w' ?_⟩) id, h3⟩
    rcases hw' with hw' | hw' | hw'
    · simp at hw'
    · simp at hw'
    · exact hw'
theorem fre_mk {x : Nat × Nat} (hx : x.2 ≤ 1 ∨ x.2 = 4) {K : Act → World → Prop} {a : Act} {w : World} {o : Oper} {v : Value} (ho : ops[x.1]? = some o)
    (hy : YieldsIf P ops (sset Sim x.2 w) o v a) (hk : K (a.put o.dst v) w) : itm P ops Sim x K a w := by
  obtain ⟨i, c⟩ := x
  have hc : c = 0 ∨ c = 1 ∨ c = 4 := by simp only at hx; omega
  rcases hc with rfl | rfl | rfl
  · exact ⟨o, v, ho, hy.imp (fun ⟨a, b⟩ => ⟨a, fun w' => b w' (.inl rfl)⟩) id, hk⟩
  · exact ⟨o, v, ho, hy.imp (fun ⟨a, b⟩ => ⟨a, fun w' hw' => b w' (.inr (.inl ⟨rfl, hw'⟩))⟩) id, hk⟩
  · exact ⟨o, v, ho, hy.imp (fun ⟨a, b⟩ => ⟨a, fun w' hw' => b w' (.inr (.inr hw'))⟩) id, hk⟩

def noSel (ops : Array Oper) : Prop := ∀ (j : Nat) (o : Oper) cs b, ops[j]? = some o → o.op ≠ .select cs b

theorem swap {sym : Bool} (L : Likes Sim sym) (hns : noSel ops) {p x : Nat × Nat} {op ox : Oper} (hp : ops[p.1]? = some op) (hx : ops[x.1]? = some ox) (hap : op.apart ops ox = true) (hok : swapOk sym p.2 x.2 = true)
    {K : Act → World → Prop} {a : Act} {w : World} (h : itm P ops Sim p (itm P ops Sim x K) a w) : itm P ops Sim x (itm P ops Sim p K) a w := by
  have hap' := apart_symm hap
  obtain ⟨h1, h2, h3⟩ := Oper.apart_spec hap
  have hsp := fun cs b => hns p.1 op cs b hp
  have hsx := fun cs b => hns x.1 ox cs b hx
  by_cases hpf : p.2 ≤ 1 ∨ p.2 = 4
  · by_cases hxf : x.2 ≤ 1 ∨ x.2 = 4
    · obtain ⟨o, v, ho, hy, hk⟩ := fre_inv L hpf h
      obtain rfl : op = o := by rw [hp] at ho; exact Option.some.inj ho
      obtain ⟨o', u, ho', hy', hk'⟩ := fre_inv L hxf hk
      obtain rfl : ox = o' := by rw [hx] at ho'; exact Option.some.inj ho'
      have s1 : Same ops ox a (a.put op.dst v) := Same.put ⟨rfl, rfl⟩ hsx h1 v
      have s2 : Same ops op a (a.put ox.dst u) := Same.put ⟨rfl, rfl⟩ hsp h3 u
      refine fre_mk hxf hx (yi_same' s1 hy') (fre_mk hpf hp (yi_same s2 hy) ?_)
      rw [← Act.put_comm a v u h2]; exact hk'
    · have hp1 : p.2 ≤ 1 := by
        simp only [swapOk, Bool.or_eq_true, Bool.and_eq_true, beq_iff_eq, decide_eq_true_eq] at hok
        omega
      obtain ⟨o, v, ho, hy, hk⟩ := free_inv hp1 h
      obtain rfl : op = o := by rw [hp] at ho; exact Option.some.inj ho
      have hstp : ∀ (M : World → Prop), stp P ops x.1 (fun a' w' => M w' ∧ K a' w') (a.put op.dst v) w → (∀ w', M w' → p.2 = 0 ∨ Sim w w') →
          stp P ops x.1 (fun a' w' => M w' ∧ itm P ops Sim p K a' w') a w := by
        intro M hM hmm
        refine stp_mono ?_ (stp_put hx hap hsp hsx hM)
        intro a' w' ⟨hs, hm, hk'⟩
        refine ⟨hm, free_mk hp1 hp ?_ hk'⟩
        refine yi_same hs ?_
        by_cases h0 : p.2 = 0
        · simpa [h0] using hy
        · have hsim : Sim w w' := (hmm w' hm).resolve_left h0
          simp only [h0, if_false] at hy ⊢
          rcases hy with ⟨y1, y2⟩ | y
          · exact .inl ⟨y1, fun w'' hw'' => y2 w'' (L.trans _ _ _ hsim hw'')⟩
          · exact .inr y
      rcases (show x.2 = 2 ∨ (x.2 = 3 ∨ 5 ≤ x.2) by omega) with hc | hc
      · rw [itm2 hc] at hk ⊢
        exact hstp (fun w' => Sim w w') hk (fun _ h => .inr h)
      · rw [itm3 hc] at hk ⊢
        have h0 : p.2 = 0 := by
          simp only [swapOk, Bool.or_eq_true, Bool.and_eq_true, beq_iff_eq, decide_eq_true_eq] at hok
          omega
        have := hstp (fun _ => True) (stp_mono (fun _ _ h => ⟨trivial, h⟩) hk) (fun _ _ => .inl h0)
        exact stp_mono (fun _ _ h => h.2) this
  · have hx1 : x.2 ≤ 1 := by
      simp only [swapOk, Bool.or_eq_true, Bool.and_eq_true, beq_iff_eq, decide_eq_true_eq] at hok
      omega
    have main : ∀ (M : World → Prop), stp P ops p.1 (fun a' w' => M w' ∧ itm P ops Sim x K a' w') a w → (∀ w', M w' → x.2 = 0 ∨ (Sim w w' ∧ Sim w' w)) →
        ∃ v, YieldsIf P ops (if x.2 = 0 then fun _ => True else Sim w) ox v a ∧ stp P ops p.1 (fun a' w' => M w' ∧ K a' w') (a.put ox.dst v) w := by
      intro M hM hmm
      have hS := stp_same hp hap' hsx hM
      have conv : ∀ a' w', Same ops ox a a' ∧ M w' ∧ itm P ops Sim x K a' w' → ∃ v, YieldsIf P ops (if x.2 = 0 then fun _ => True else Sim w) ox v a ∧ M w' ∧ K (a'.put ox.dst v) w' := by
        intro a' w' ⟨hs, hm, hi⟩
        obtain ⟨o', u, ho', hy', hk'⟩ := free_inv hx1 hi
        obtain rfl : ox = o' := by rw [hx] at ho'; exact Option.some.inj ho'
        refine ⟨u, ?_, hm, hk'⟩
        refine yi_same' hs ?_
        by_cases h0 : x.2 = 0
        · simpa [h0] using hy'
        · obtain ⟨_, hsim⟩ := (hmm w' hm).resolve_left h0
          simp only [h0, if_false] at hy' ⊢
          rcases hy' with ⟨y1, y2⟩ | y
          · exact .inl ⟨y1, fun w'' hw'' => y2 w'' (L.trans _ _ _ hsim hw'')⟩
          · exact .inr y
      obtain ⟨a0, w0, h0⟩ := stp_ex hS
      obtain ⟨v, hv, _⟩ := conv a0 w0 h0
      refine ⟨v, hv, stp_back hp hap' hsp ?_⟩
      refine stp_mono ?_ hS
      intro a' w' hh
      obtain ⟨v', hv', hm, hk⟩ := conv a' w' hh
      have e : v = v' := YieldsIf.unique (w := w) hv hv' (by split <;> first | trivial | exact L.refl _) (by split <;> first | trivial | exact L.refl _)
      rw [e]; exact ⟨hm, hk⟩
    rcases (show p.2 = 2 ∨ (p.2 = 3 ∨ 5 ≤ p.2) by omega) with hc | hc
    · rw [itm2 hc] at h
      obtain ⟨v, hv, hst⟩ := main (fun w' => Sim w w') h (fun w' hs => by
        by_cases h0 : x.2 = 0
        · exact .inl h0
        · have hsy : sym = true := by
            simp only [swapOk, Bool.or_eq_true, Bool.and_eq_true, beq_iff_eq, decide_eq_true_eq] at hok
            by_cases hq : sym = true
            · exact hq
            · exfalso; simp [hq] at hok; omega
          exact .inr ⟨hs, L.sym hsy _ _ hs⟩)
      exact free_mk hx1 hx hv (by rw [itm2 hc]; exact hst)
    · rw [itm3 hc] at h
      have h0 : x.2 = 0 := by
        simp only [swapOk, Bool.or_eq_true, Bool.and_eq_true, beq_iff_eq, decide_eq_true_eq] at hok
        omega
      obtain ⟨v, hv, hst⟩ := main (fun _ => True) (stp_mono (fun _ _ h => ⟨trivial, h⟩) h) (fun _ _ => .inl h0)
      exact free_mk hx1 hx hv (by rw [itm3 hc]; exact stp_mono (fun _ _ h => h.2) hst)

theorem bring {sym : Bool} (L : Likes Sim sym) (hns : noSel ops) {R : Act → World → Prop} (x : Nat × Nat) (post : List (Nat × Nat)) {ox : Oper} (hx : ops[x.1]? = some ox) : ∀ (pre : List (Nat × Nat)) (a : Act) (w : World),
    (∀ p ∈ pre, ∃ op, ops[p.1]? = some op ∧ op.apart ops ox = true ∧ swapOk sym p.2 x.2 = true) →
    sq P ops Sim (pre ++ x :: post) R a w → sq P ops Sim (x :: (pre ++ post)) R a w
  | [], _, _, _, h => h
  | p :: pre, a, w, hall, h => by
    obtain ⟨op, hp, hap, hok⟩ := hall p (by simp)
    have ih := fun a w => bring L hns (R := R) x post hx pre a w (fun q hq => hall q (by simp [hq]))
    exact swap L hns hp hx hap hok (itm_mono ih h)

/-- does x wait for p? -/
def reach (ops : Array Oper) : Nat → Nat → Nat → Bool
  | 0, _, _ => false
  | f + 1, x, p => match ops[x]? with
    | none => false
    | some o => o.after.any fun e => Region.binds .any e && (e.on == p || reach ops f e.on p)

def Closed (ops : Array Oper) (listed : Array Bool) : Prop :=
  ∀ j o, ops[j]? = some o → listed.getD j false = true → ∀ e ∈ o.after, Region.binds .any e = true → listed.getD e.on false = true

theorem reach_listed {listed : Array Bool} (hc : Closed ops listed) : ∀ (f x p : Nat), reach ops f x p = true →
    (∀ o, ops[x]? = some o → ∀ e ∈ o.after, Region.binds .any e = true → listed.getD e.on false = true) → listed.getD p false = true
  | 0, _, _, h, _ => by simp [reach] at h
  | f + 1, x, p, h, hx => by
    unfold reach at h
    split at h
    · cases h
    · rename_i o ho
      obtain ⟨e, he, hb⟩ := Array.any_eq_true'.1 h
      simp only [Bool.and_eq_true, Bool.or_eq_true, beq_iff_eq] at hb
      have hl := hx o ho e he hb.1
      rcases hb.2 with rfl | hr
      · exact hl
      · exact reach_listed hc f e.on p hr (fun o' ho' e' he' hb' => hc e.on o' ho' hl e' he' hb')

/-- the ancestors of each operation, as bits: given, and looked at -/
def masksOk (ops : Array Oper) (ms : List Nat) : Bool :=
  (List.range ops.size).all fun i => match ops[i]? with
    | none => true
    | some o => ms.getD i 0 == o.after.toList.foldl (fun s e => if Region.binds .any e then s ||| (2 ^ e.on ||| ms.getD e.on 0) else s) 0

theorem fold_or (ms : List Nat) (p : Nat) : ∀ (l : List Edge) (s : Nat), (l.foldl (fun s e => if Region.binds .any e then s ||| (2 ^ e.on ||| ms.getD e.on 0) else s) s).testBit p = true →
    s.testBit p = true ∨ ∃ e ∈ l, Region.binds .any e = true ∧ (e.on = p ∨ (ms.getD e.on 0).testBit p = true)
  | [], s, h => .inl h
  | e :: l, s, h => by
    rw [List.foldl_cons] at h
    rcases fold_or ms p l _ h with h1 | ⟨e', he', hb, hor⟩
    · split at h1
      · rename_i hb
        rw [Nat.testBit_or, Nat.testBit_or, Bool.or_eq_true, Bool.or_eq_true] at h1
        rcases h1 with h1 | h1 | h1
        · exact .inl h1
        · right
          refine ⟨e, by simp, hb, .inl ?_⟩
          rw [Nat.testBit_two_pow] at h1
          simpa using h1
        · exact .inr ⟨e, by simp, hb, .inr h1⟩
      · exact .inl h1
    · exact .inr ⟨e', by simp [he'], hb, hor⟩

theorem masks_reach {ms : List Nat} (hm : masksOk ops ms = true) (low : ∀ (i : Nat) (o : Oper), ops[i]? = some o → ∀ e ∈ o.after, Region.binds .any e = true → e.on < i) :
    ∀ (x p : Nat), x < ops.size → (ms.getD x 0).testBit p = true → ∃ f, reach ops f x p = true := by
  intro x
  induction x using Nat.strongRecOn with
  | _ x ih =>
    intro p hx ht
    have h1 := (List.all_eq_true.1 hm) x (List.mem_range.2 hx)
    have ho : ops[x]? = some ops[x] := by simp [hx]
    simp only [ho, beq_iff_eq] at h1
    rw [h1] at ht
    rcases fold_or ms p _ 0 ht with h0 | ⟨e, he, hb, hor⟩
    · simp at h0
    · have he' : e ∈ ops[x].after := by simpa using he
      have hlt := low x _ ho e he' hb
      rcases hor with rfl | hor
      · refine ⟨1, ?_⟩
        unfold reach
        simp only [ho]
        exact Array.any_eq_true'.2 ⟨e, he', by simp [hb]⟩
      · obtain ⟨f, hf⟩ := ih e.on hlt p (by omega) hor
        refine ⟨f + 1, ?_⟩
        unfold reach
        simp only [ho]
        exact Array.any_eq_true'.2 ⟨e, he', by simp [hb, hf]⟩

def pairOk (sym : Bool) (ops : Array Oper) (ms : List Nat) (p x : Nat × Nat) : Bool :=
  (ms.getD x.1 0).testBit p.1 ||
    match ops[p.1]?, ops[x.1]? with
    | some op, some ox => op.apart ops ox && swapOk sym p.2 x.2
    | _, _ => false

def pairsOk (sym : Bool) (ops : Array Oper) (ms : List Nat) : List (Nat × Nat) → Bool
  | [] => true
  | p :: r => r.all (pairOk sym ops ms p) && pairsOk sym ops ms r

theorem pairs_pw {sym : Bool} {ms : List Nat} : ∀ {l : List (Nat × Nat)}, pairsOk sym ops ms l = true → l.Pairwise (fun p x => pairOk sym ops ms p x = true)
  | [], _ => .nil
  | p :: r, h => by
    simp only [pairsOk, Bool.and_eq_true, List.all_eq_true] at h
    exact .cons h.1 (pairs_pw h.2)

def lowB (ops : Array Oper) : Bool :=
  (List.range ops.size).all fun i => match ops[i]? with
    | none => true
    | some o => o.after.all (fun e => decide (e.on < i) || !Region.binds .any e) && (match o.op with | .select _ _ => false | _ => true)

theorem low_spec (h : lowB ops = true) : (∀ (i : Nat) (o : Oper), ops[i]? = some o → ∀ e ∈ o.after, Region.binds .any e = true → e.on < i) ∧ noSel ops := by
  unfold lowB at h
  rw [List.all_eq_true] at h
  constructor
  · intro i o ho e he hb
    have hi : i < ops.size := (Array.getElem?_eq_some_iff.1 ho).1
    have := h i (List.mem_range.2 hi)
    simp only [ho, Bool.and_eq_true, Array.all_eq_true_iff_forall_mem] at this
    have := this.1 e he
    simpa [hb] using this
  · intro i o cs b ho heq
    have hi : i < ops.size := (Array.getElem?_eq_some_iff.1 ho).1
    have := h i (List.mem_range.2 hi)
    simp [ho, heq] at this

theorem itm_wpOp {sym : Bool} (L : Likes Sim sym) {Q : Exit → Act → World → Prop} {x : Nat × Nat} {K : Act → World → Prop} {a : Act} {w : World} (h : itm P ops Sim x K a w) : wpOp P ops Q x.1 K a w := by
  have hst : ∀ K', stp P ops x.1 K' a w → (∀ a w, K' a w → K a w) → wpOp P ops Q x.1 K a w := by
    intro K' h hk
    unfold stp at h
    unfold wpOp
    split
    · rename_i ho; simp [ho] at h
    · rename_i o ho
      simp only [ho] at h
      split
      · rename_i hw; rw [if_pos hw] at h; exact .inl (wp_mono_nope hk h)
      · rename_i hw; rw [if_neg hw] at h; exact hk _ _ h
  unfold itm at h
  split at h
  · obtain ⟨o, v, h1, h2, h3⟩ := h; exact h2.wpOp h1 h3
  · obtain ⟨o, v, h1, h2, h3⟩ := h; exact h2.wpOp h1 (L.refl w) h3
  · exact hst _ h (fun _ _ h => h.2)
  · obtain ⟨o, v, h1, h2, h3⟩ := h; exact h2.wpOp h1 rfl h3
  · exact hst _ h (fun _ _ h => h)

theorem getD_both {listed : Array Bool} {i : Nat} (h : listed.getD i true = false) : listed.getD i false = false := by
  rcases Nat.lt_or_ge i listed.size with h' | h'
  · simp [h'] at h ⊢; exact h
  · simp [Array.getElem?_eq_none h'] at h

theorem any_of_sq {sym : Bool} (L : Likes Sim sym) (hlow : lowB ops = true) {ms : List Nat} (hms : masksOk ops ms = true) {Q : Exit → Act → World → Prop} : ∀ (n : Nat) (l : List (Nat × Nat)) (listed : Array Bool) (a : Act) (w : World), l.length = n →
    Closed ops listed → listed.size = ops.size → (∀ i, listed.getD i true = false ↔ i ∈ l.map Prod.fst) → (l.map Prod.fst).Nodup → l.Pairwise (fun p x => pairOk sym ops ms p x = true) →
    sq P ops Sim l (Q .normal) a w → wpAny P .any ops Q n listed a w := by
  obtain ⟨low, hns⟩ := low_spec hlow
  intro n
  induction n with
  | zero =>
    intro l listed a w hl hc hsz hmem hnd hpw h
    obtain rfl : l = [] := List.eq_nil_of_length_eq_zero hl
    refine ⟨?_, h⟩
    rw [List.eq_nil_iff_forall_not_mem]
    intro i hi
    have := (hmem i).1 (mem_ready.1 hi).1
    simp at this
  | succ n ih =>
    intro l listed a w hl hc hsz hmem hnd hpw h
    refine ⟨fun hr => ?_, fun i hi => ?_⟩
    · -- the least one that has not come up is ready
      exfalso
      have hex : ∃ m, listed.getD m true = false := by
        match l, hl with
        | x :: r, _ => exact ⟨x.1, (hmem x.1).2 (by simp)⟩
      obtain ⟨m, hm, hmin⟩ : ∃ m, listed.getD m true = false ∧ ∀ k < m, ¬ listed.getD k true = false := by
        obtain ⟨m0, hm0⟩ := hex
        induction m0 using Nat.strongRecOn with
        | _ m ihm =>
          by_cases hk : ∃ k < m, listed.getD k true = false
          · obtain ⟨k, hk1, hk2⟩ := hk; exact ihm k hk1 hk2
          · exact ⟨m, hm0, fun k hk1 hk2 => hk ⟨k, hk1, hk2⟩⟩
      have hms : m < ops.size := by
        rcases Nat.lt_or_ge m listed.size with h' | h'
        · omega
        · simp [Array.getElem?_eq_none h'] at hm
      have : m ∈ Region.ready .any ops listed := mem_ready.2 ⟨hm, ops[m], by simp [hms], fun e he hb => by
        have hlt := low m ops[m] (by simp [hms]) e he hb
        have h1 := hmin e.on hlt
        have h2 : e.on < listed.size := by omega
        simp [h2] at h1 ⊢; exact h1⟩
      rw [hr] at this
      cases this
    · obtain ⟨hun, o, ho, hall⟩ := mem_ready.1 hi
      have hil := (hmem i).1 hun
      obtain ⟨x, hx, rfl⟩ := List.mem_map.1 hil
      obtain ⟨pre, post, rfl⟩ := List.append_of_mem hx
      have hpw' := List.pairwise_append.1 hpw
      have hsw : ∀ p ∈ pre, ∃ op, ops[p.1]? = some op ∧ op.apart ops o = true ∧ swapOk sym p.2 x.2 = true := by
        intro p hp
        have hpx := hpw'.2.2 p hp x (by simp)
        unfold pairOk at hpx
        rw [Bool.or_eq_true] at hpx
        rcases hpx with hr | hr
        · exfalso
          obtain ⟨f, hrf⟩ := masks_reach hms low x.1 p.1 (Array.getElem?_eq_some_iff.1 ho).1 hr
          have h1 := reach_listed hc _ _ _ hrf (fun o' ho' e he hb => by rw [ho] at ho'; cases ho'; exact hall e he hb)
          have h2 : listed.getD p.1 true = false := (hmem p.1).2 (by simp; exact .inl ⟨_, hp⟩)
          rw [getD_both h2] at h1
          cases h1
        · rw [ho] at hr
          split at hr
          · rename_i op ox hp' hx'
            cases hx'
            rw [Bool.and_eq_true] at hr
            exact ⟨op, hp', hr.1, hr.2⟩
          · cases hr
      have hb := bring L hns x post ho pre a w hsw h
      refine wpOp_mono (fun a' w' hk => ih (pre ++ post) (listed.setIfInBounds x.1 true) a' w' ?_ ?_ ?_ ?_ ?_ ?_ hk) (itm_wpOp L hb)
      · simp at hl ⊢; omega
      · intro j oj hoj hlj e he hbd
        have hset : ∀ k, listed.getD k false = true → (listed.setIfInBounds x.1 true).getD k false = true := by
          intro k hk
          by_cases hkx : x.1 = k
          · subst hkx
            have : x.1 < listed.size := by
              rcases Nat.lt_or_ge x.1 listed.size with h' | h'
              · exact h'
              · simp [Array.getElem?_eq_none h'] at hk
            simp [this]
          · simpa [Array.getElem?_setIfInBounds_ne hkx] using hk
        by_cases hjx : x.1 = j
        · subst hjx
          rw [ho] at hoj; cases hoj
          exact hset _ (hall e he hbd)
        · have : listed.getD j false = true := by simpa [Array.getElem?_setIfInBounds_ne hjx] using hlj
          exact hset _ (hc j oj hoj this e he hbd)
      · simp [hsz]
      · intro k
        have hxs : x.1 < listed.size := by
          rcases Nat.lt_or_ge x.1 listed.size with h' | h'
          · exact h'
          · simp [Array.getElem?_eq_none h'] at hun
        have hnd' : x.1 ∉ (pre ++ post).map Prod.fst := by
          simp only [List.map_append, List.map_cons] at hnd ⊢
          rw [List.nodup_append] at hnd
          obtain ⟨_, n2, n3⟩ := hnd
          rw [List.nodup_cons] at n2
          intro hm
          rcases List.mem_append.1 hm with hm | hm
          · exact n3 _ hm _ (by simp) rfl
          · exact n2.1 hm
        by_cases hkx : x.1 = k
        · subst hkx
          simp only [Array.getD_eq_getD_getElem?, Array.getElem?_setIfInBounds_self, hxs, if_true, Option.getD_some]
          constructor
          · intro h; cases h
          · intro h; exact absurd h hnd'
        · have h1 := hmem k
          simp only [Array.getD_eq_getD_getElem?, Array.getElem?_setIfInBounds_ne hkx] at h1 ⊢
          rw [h1]
          simp only [List.map_append, List.map_cons, List.mem_append, List.mem_cons]
          constructor
          · rintro (h | h | h)
            · exact .inl h
            · exact absurd h.symm hkx
            · exact .inr h
          · rintro (h | h)
            · exact .inl h
            · exact .inr (.inr h)
      · simp only [List.map_append, List.map_cons] at hnd ⊢
        rw [List.nodup_append] at hnd ⊢
        obtain ⟨n1, n2, n3⟩ := hnd
        rw [List.nodup_cons] at n2
        exact ⟨n1, n2.2, fun a ha b hb => n3 a ha b (by simp [hb])⟩
      · rw [List.pairwise_append]
        exact ⟨hpw'.1, (List.pairwise_cons.1 hpw'.2.1).2, fun a ha b hb => hpw'.2.2 a ha b (by simp [hb])⟩

/-- THE LAW: a region that draws its order, out of its run in the order of the text. -/
theorem wp_region_sq {sym : Bool} (L : Likes Sim sym) {id : Nat} {Q : Exit → Act → World → Prop} {a : Act} {w : World} (cls ms : List Nat)
    (hm : P.follows .mixedOrders = true) (hlen : cls.length = ops.size) (hlow : lowB ops = true) (hms : masksOk ops ms = true) (hpairs : pairsOk sym ops ms (cls.zipIdx.map fun x => (x.2, x.1)) = true)
    (h : sq P ops Sim (cls.zipIdx.map fun x => (x.2, x.1)) (Q .normal) a { w with drawn := w.drawn + 1 }) : (Code.region id ops true).wp P Q a w := by
  have hfst : (cls.zipIdx.map fun x => (x.2, x.1)).map Prod.fst = List.range ops.size := by
    rw [List.map_map, ← hlen]
    have : (Prod.fst ∘ fun x : Nat × Nat => (x.2, x.1)) = Prod.snd := rfl
    rw [this, List.range_eq_range', List.zipIdx_map_snd]
  refine wp_region_any hm ?_
  have hl : (cls.zipIdx.map fun x => (x.2, x.1)).length = ops.size := by simp [hlen]
  refine any_of_sq L hlow hms ops.size _ _ a _ hl ?_ (by simp) ?_ ?_ (pairs_pw hpairs) h
  · intro j o _ hj
    exfalso
    rcases Nat.lt_or_ge j ops.size with h' | h'
    · simp [h'] at hj
    · simp [h'] at hj
  · intro i
    rw [hfst, List.mem_range]
    rcases Nat.lt_or_ge i ops.size with h' | h'
    · simp [h']
    · simp [h']
  · rw [hfst]; exact List.nodup_range
end
end Go.Reg

/- Squeezed copy of the texts K1. -/
import Derived.Orders
import Derived.OrdersHeld
import Derived.Tactics
import Derived.Calls
import Derived.Laws.Sem
import Derived.Laws.Cells
set_option maxRecDepth 100000
set_option maxHeartbeats 1000000
namespace Go.Reg
open Go
section
variable {P : Program} {ops : Array Oper} {Sim : World → World → Prop}
def nope : Exit → Act → World → Prop := fun _ _ _ => False
def stp (P : Program) (ops : Array Oper) (i : Nat) (K : Act → World → Prop) (a : Act) (w : World) : Prop :=
 match ops[i]? with
 | none => False
 | some o => if Region.wanted o (yielded ops a.tmps) then o.wp P a w K nope else K (a.put o.dst undef) w
def itm (P : Program) (ops : Array Oper) (Sim : World → World → Prop) (x : Nat × Nat) (K : Act → World → Prop) (a : Act) (w : World) : Prop :=
 match x.2 with
 | 0 => ∃ o v, ops[x.1]? = some o ∧ Yields P ops o v a ∧ K (a.put o.dst v) w
 | 1 => ∃ o v, ops[x.1]? = some o ∧ YieldsIf P ops (Sim w) o v a ∧ K (a.put o.dst v) w
 | 2 => stp P ops x.1 (fun a' w' => Sim w w' ∧ K a' w') a w
 | 4 => ∃ o v, ops[x.1]? = some o ∧ YieldsIf P ops (fun w' => w' = w) o v a ∧ K (a.put o.dst v) w
 | _ => stp P ops x.1 K a w
def sq (P : Program) (ops : Array Oper) (Sim : World → World → Prop) : List (Nat × Nat) → (Act → World → Prop) → Act → World → Prop
 | [], R, a, w => R a w
 | x :: r, R, a, w => itm P ops Sim x (sq P ops Sim r R) a w
theorem wp_mono_nope {o : Oper} {a : Act} {w : World} {K K' : Act → World → Prop} {Q : Exit → Act → World → Prop} (h : ∀ a w, K a w → K' a w)
  (hh : o.wp P a w K nope) : o.wp P a w K' Q := by
 unfold Oper.wp at *
 generalize (execOp a.eval o).run P w = r at *
 cases r with
 | ok n w' =>
  cases n <;> simp only [Oper.upon] at hh ⊢ <;>
   first
    | exact h _ _ hh
    | exact Calls.mono hh (fun e w'' he => by cases e <;> first | exact h _ _ he | exact False.elim he | (obtain ⟨_, _, hf⟩ := he; exact False.elim hf))
    | exact Rows.mono hh (fun _ _ he => h _ _ he)
 | halt x w' => cases x <;> simp only [Oper.upon] at hh ⊢ <;> exact False.elim hh
theorem stp_mono {i : Nat} {a : Act} {w : World} {K K' : Act → World → Prop} (h : ∀ a w, K a w → K' a w) (hh : stp P ops i K a w) : stp P ops i K' a w := by
 unfold stp at *
 split
 ·rename_i ho; simp [ho] at hh
 ·rename_i o ho
  simp only [ho] at hh
  split
  ·rename_i hw; rw [if_pos hw] at hh; exact wp_mono_nope h hh
  ·rename_i hw; rw [if_neg hw] at hh; exact h _ _ hh
theorem itm_mono {x : Nat × Nat} {a : Act} {w : World} {K K' : Act → World → Prop} (h : ∀ a w, K a w → K' a w) (hh : itm P ops Sim x K a w) : itm P ops Sim x K' a w := by
 unfold itm at *
 split at hh
 ·obtain ⟨o, v, h1, h2, h3⟩ := hh; exact ⟨o, v, h1, h2, h _ _ h3⟩
 ·obtain ⟨o, v, h1, h2, h3⟩ := hh; exact ⟨o, v, h1, h2, h _ _ h3⟩
 ·exact stp_mono (fun a w hk => ⟨hk.1, h _ _ hk.2⟩) hh
 ·obtain ⟨o, v, h1, h2, h3⟩ := hh; exact ⟨o, v, h1, h2, h _ _ h3⟩
 ·exact stp_mono h hh
def Same (ops : Array Oper) (oi : Oper) (a a' : Act) : Prop :=
 execOp a'.eval oi = execOp a.eval oi ∧ Region.wanted oi (yielded ops a'.tmps) = Region.wanted oi (yielded ops a.tmps)
theorem Same.put {oi oj : Oper} {a a' : Act} (hs : Same ops oi a a') (hsi : ∀ cs b, oi.op ≠ .select cs b) (h3 : ∀ d, oj.dst = some d → d ∉ oi.looksAt ops) (u : Value) : Same ops oi a (a'.put oj.dst u) :=
 ⟨(execOp_put oi hsi a' oj.dst u h3).trans hs.1, (wanted_put oi a' oj.dst u h3).trans hs.2⟩
theorem stp_put {j : Nat} {oi oj : Oper} {v : Value} (hj : ops[j]? = some oj) (hap : oi.apart ops oj = true)
  (hsi : ∀ cs b, oi.op ≠ .select cs b) (hsj : ∀ cs b, oj.op ≠ .select cs b) {K : Act → World → Prop} {a : Act} {w : World}
  (h : stp P ops j K (a.put oi.dst v) w) :
  stp P ops j (fun a' w' => Same ops oi a a' ∧ K (a'.put oi.dst v) w') a w := by
 obtain ⟨h1, h2, h3⟩ := Oper.apart_spec hap
 have keep : ∀ u, Same ops oi a (a.put oj.dst u) := fun u => Same.put ⟨rfl, rfl⟩ hsi h3 u
 have keepD : ∀ d u, Same ops oi a ({ a with defers := d :: a.defers }.put oj.dst u) := fun d u => Same.put (a' := { a with defers := d :: a.defers }) ⟨rfl, rfl⟩ hsi h3 u
 unfold stp at *
 simp only [hj] at *
 rw [wanted_put oj a oi.dst v h1] at h
 split
 ·rename_i hw
  simp only [hw, if_true] at h
  unfold Oper.wp at *
  rw [execOp_put oj hsj a oi.dst v h1] at h
  generalize (execOp a.eval oj).run P w = r at *
  cases r with
  | ok n w' =>
   cases n <;> simp only [Oper.upon] at h ⊢
   case value u => exact ⟨keep u, by rw [← Act.put_comm a v u h2]; exact h⟩
   case skip => exact ⟨keep _, by rw [← Act.put_comm a v undef h2]; exact h⟩
   case defer d =>
    refine ⟨keepD d _, ?_⟩
    rw [← Act.put_comm _ v undef h2, ← Act.put_defers]
    exact h
   case enter f args =>
    refine Calls.mono h fun e w'' he => ?_
    cases e with
    | returned u => exact ⟨keep u, by rw [← Act.put_comm a v u h2]; exact he⟩
    | panicked c => exact he
    | outgrown => exact he
   case row row args => exact Rows.mono h fun u w'' he => ⟨keep u, by rw [← Act.put_comm a v u h2]; exact he⟩
  | halt x w' => cases x <;> simp only [Oper.upon] at h ⊢ <;> exact h
 ·rename_i hw
  simp only [hw] at h
  exact ⟨keep _, by rw [← Act.put_comm a v undef h2]; exact h⟩
theorem stp_back {j : Nat} {oi oj : Oper} (hj : ops[j]? = some oj) (hap : oi.apart ops oj = true)
  (hsj : ∀ cs b, oj.op ≠ .select cs b) {K : Act → World → Prop} {a : Act} {w : World} {v : Value}
  (h : stp P ops j (fun a' w' => K (a'.put oi.dst v) w') a w) : stp P ops j K (a.put oi.dst v) w := by
 obtain ⟨h1, h2, h3⟩ := Oper.apart_spec hap
 unfold stp at *
 simp only [hj] at *
 rw [wanted_put oj a oi.dst v h1]
 split
 ·rename_i hw
  simp only [hw, if_true] at h
  unfold Oper.wp at *
  rw [execOp_put oj hsj a oi.dst v h1]
  generalize (execOp a.eval oj).run P w = r at *
  cases r with
  | ok n w' =>
   cases n <;> simp only [Oper.upon] at h ⊢
   case value u => rw [Act.put_comm a v u h2]; exact h
   case skip => rw [Act.put_comm a v undef h2]; exact h
   case defer d =>
    rw [Act.put_defers, Act.put_comm _ v undef h2]
    exact h
   case enter f args =>
    refine Calls.mono h fun e w'' he => ?_
    cases e with
    | returned u => simp only [] at he ⊢; rw [Act.put_comm a v u h2]; exact he
    | panicked c => exact he
    | outgrown => exact he
   case row row args => exact Rows.mono h fun u w'' he => by rw [Act.put_comm a v u h2]; exact he
  | halt x w' => cases x <;> simp only [Oper.upon] at h ⊢ <;> exact h
 ·rename_i hw
  simp only [hw] at h
  rw [Act.put_comm a v undef h2]; exact h
theorem stp_same {j : Nat} {oi oj : Oper} (hj : ops[j]? = some oj) (hap : oi.apart ops oj = true)
  (hsi : ∀ cs b, oi.op ≠ .select cs b) {K : Act → World → Prop} {a : Act} {w : World}
  (h : stp P ops j K a w) : stp P ops j (fun a' w' => Same ops oi a a' ∧ K a' w') a w := by
 obtain ⟨h1, h2, h3⟩ := Oper.apart_spec hap
 have keep : ∀ u, Same ops oi a (a.put oj.dst u) := fun u => Same.put ⟨rfl, rfl⟩ hsi h3 u
 have keepD : ∀ d u, Same ops oi a ({ a with defers := d :: a.defers }.put oj.dst u) := fun d u => Same.put (a' := { a with defers := d :: a.defers }) ⟨rfl, rfl⟩ hsi h3 u
 unfold stp at *
 simp only [hj] at *
 split
 ·rename_i hw
  simp only [hw, if_true] at h
  unfold Oper.wp at *
  generalize (execOp a.eval oj).run P w = r at *
  cases r with
  | ok n w' =>
   cases n <;> simp only [Oper.upon] at h ⊢
   case value u => exact ⟨keep u, h⟩
   case skip => exact ⟨keep _, h⟩
   case defer d => exact ⟨keepD d _, h⟩
   case enter f args =>
    refine Calls.mono h fun e w'' he => ?_
    cases e with
    | returned u => exact ⟨keep u, he⟩
    | panicked c => exact he
    | outgrown => exact he
   case row row args => exact Rows.mono h fun u w'' he => ⟨keep u, he⟩
  | halt x w' => cases x <;> simp only [Oper.upon] at h ⊢ <;> exact h
 ·rename_i hw
  simp only [hw] at h
  exact ⟨keep _, h⟩
theorem stp_ex {j : Nat} {K : Act → World → Prop} {a : Act} {w : World} (h : stp P ops j K a w) : ∃ a' w', K a' w' := by
 unfold stp at h
 split at h
 ·exact h.elim
 ·rename_i o _
  split at h
  ·unfold Oper.wp at h
   generalize (execOp a.eval o).run P w = r at *
   cases r with
   | ok n w' =>
    cases n <;> simp only [Oper.upon] at h
    case value u => exact ⟨_, _, h⟩
    case skip => exact ⟨_, _, h⟩
    case defer d => exact ⟨_, _, h⟩
    case enter f args =>
     obtain ⟨e, w'', _, hR, _⟩ := h []
     cases e with
     | returned u => exact ⟨_, _, hR⟩
     | panicked c => exact False.elim hR
     | outgrown => obtain ⟨_, _, hf⟩ := hR; exact False.elim hf
    case row row args =>
     obtain ⟨u, w'', hR, _⟩ := h default []
     exact ⟨_, _, hR⟩
   | halt x w' => cases x <;> simp only [Oper.upon] at h <;> exact False.elim h
  ·exact ⟨_, _, h⟩
theorem YieldsIf.unique {S S' : World → Prop} {o : Oper} {v v' : Value} {a : Act} {w : World} (h : YieldsIf P ops S o v a) (h' : YieldsIf P ops S' o v' a) (hs : S w) (hs' : S' w) : v = v' := by
 rcases h with ⟨h1, h2⟩ | ⟨h1, rfl⟩ <;> rcases h' with ⟨k1, k2⟩ | ⟨k1, rfl⟩
 ·have := (h2 w hs).symm.trans (k2 w hs'); simpa using this
 ·rw [h1] at k1; cases k1
 ·rw [h1] at k1; cases k1
 ·rfl
theorem yi_same {S : World → Prop} {o : Oper} {v : Value} {a a' : Act} (hs : Same ops o a a') (h : YieldsIf P ops S o v a) : YieldsIf P ops S o v a' := h.of_same hs.1 hs.2
theorem yi_same' {S : World → Prop} {o : Oper} {v : Value} {a a' : Act} (hs : Same ops o a a') (h : YieldsIf P ops S o v a') : YieldsIf P ops S o v a := h.of_same hs.1.symm hs.2.symm
def swapOk (sym : Bool) (p x : Nat) : Bool :=
 p == 0 || x == 0 || (decide (p ≤ 1) && decide (x ≤ 1)) || (p == 1 && x == 2) || (sym && p == 2 && x == 1) || (p == 4 && (x == 1 || x == 4)) || (x == 4 && p == 1)
structure Likes (Sim : World → World → Prop) (sym : Bool) : Prop where
 refl : ∀ w, Sim w w
 trans : ∀ a b c, Sim a b → Sim b c → Sim a c
 sym : sym = true → ∀ a b, Sim a b → Sim b a
theorem apart_symm {x y : Oper} (h : x.apart ops y = true) : y.apart ops x = true := by
 unfold Oper.apart at *
 cases hx : x.dst <;> cases hy : y.dst <;> simp_all
 ·exact fun e => h.1.2 e.symm
theorem free_inv {x : Nat × Nat} (hx : x.2 ≤ 1) {K : Act → World → Prop} {a : Act} {w : World} (h : itm P ops Sim x K a w) :
  ∃ o v, ops[x.1]? = some o ∧ YieldsIf P ops (if x.2 = 0 then fun _ => True else Sim w) o v a ∧ K (a.put o.dst v) w := by
 obtain ⟨i, c⟩ := x
 match c, hx with
 | 0, _ => obtain ⟨o, v, h1, h2, h3⟩ := h; exact ⟨o, v, h1, by simpa using h2.yieldsIf, h3⟩
 | 1, _ => obtain ⟨o, v, h1, h2, h3⟩ := h; exact ⟨o, v, h1, by simpa using h2, h3⟩
theorem free_mk {x : Nat × Nat} (hx : x.2 ≤ 1) {K : Act → World → Prop} {a : Act} {w : World} {o : Oper} {v : Value} (ho : ops[x.1]? = some o)
  (hy : YieldsIf P ops (if x.2 = 0 then fun _ => True else Sim w) o v a) (hk : K (a.put o.dst v) w) : itm P ops Sim x K a w := by
 obtain ⟨i, c⟩ := x
 match c, hx with
 | 0, _ => exact ⟨o, v, ho, by simpa [Yields, YieldsIf] using hy, hk⟩
 | 1, _ => exact ⟨o, v, ho, by simpa using hy, hk⟩
theorem itm2 {x : Nat × Nat} (h : x.2 = 2) (K : Act → World → Prop) (a : Act) (w : World) : itm P ops Sim x K a w = stp P ops x.1 (fun a' w' => Sim w w' ∧ K a' w') a w := by
 unfold itm; rw [h]; rfl
theorem itm3 {x : Nat × Nat} (h : x.2 = 3 ∨ 5 ≤ x.2) (K : Act → World → Prop) (a : Act) (w : World) : itm P ops Sim x K a w = stp P ops x.1 K a w := by
 rcases h with h | h
 ·unfold itm; rw [h]; rfl
 ·obtain ⟨n, hn⟩ : ∃ n, x.2 = n + 5 := ⟨x.2 - 5, by omega⟩
  unfold itm; rw [hn]; rfl
def sset (Sim : World → World → Prop) (c : Nat) (w : World) : World → Prop := fun w' => c = 0 ∨ (c = 1 ∧ Sim w w') ∨ w' = w
theorem fre_inv {sym : Bool} (L : Likes Sim sym) {x : Nat × Nat} (hx : x.2 ≤ 1 ∨ x.2 = 4) {K : Act → World → Prop} {a : Act} {w : World} (h : itm P ops Sim x K a w) :
  ∃ o v, ops[x.1]? = some o ∧ YieldsIf P ops (sset Sim x.2 w) o v a ∧ K (a.put o.dst v) w := by
 obtain ⟨i, c⟩ := x
 have hc : c = 0 ∨ c = 1 ∨ c = 4 := by simp only at hx; omega
 rcases hc with rfl | rfl | rfl
 ·obtain ⟨o, v, h1, h2, h3⟩ := h
  exact ⟨o, v, h1, h2.imp (fun ⟨a, b⟩ => ⟨a, fun w' _ => b w'⟩) id, h3⟩
 ·obtain ⟨o, v, h1, h2, h3⟩ := h
  refine ⟨o, v, h1, h2.imp (fun ⟨a, b⟩ => ⟨a, fun w' hw' => b w' ?_⟩) id, h3⟩
  rcases hw' with hw' | hw' | hw'
  ·simp at hw'
  ·exact hw'.2
  ·rw [hw']; exact L.refl w
 ·obtain ⟨o, v, h1, h2, h3⟩ := h
  refine ⟨o, v, h1, h2.imp (fun ⟨a, b⟩ => ⟨a, fun w' hw' => b w' ?_⟩) id, h3⟩
  rcases hw' with hw' | hw' | hw'
  ·simp at hw'
  ·simp at hw'
  ·exact hw'
theorem fre_mk {x : Nat × Nat} (hx : x.2 ≤ 1 ∨ x.2 = 4) {K : Act → World → Prop} {a : Act} {w : World} {o : Oper} {v : Value} (ho : ops[x.1]? = some o)
  (hy : YieldsIf P ops (sset Sim x.2 w) o v a) (hk : K (a.put o.dst v) w) : itm P ops Sim x K a w := by
 obtain ⟨i, c⟩ := x
 have hc : c = 0 ∨ c = 1 ∨ c = 4 := by simp only at hx; omega
 rcases hc with rfl | rfl | rfl
 ·exact ⟨o, v, ho, hy.imp (fun ⟨a, b⟩ => ⟨a, fun w' => b w' (.inl rfl)⟩) id, hk⟩
 ·exact ⟨o, v, ho, hy.imp (fun ⟨a, b⟩ => ⟨a, fun w' hw' => b w' (.inr (.inl ⟨rfl, hw'⟩))⟩) id, hk⟩
 ·exact ⟨o, v, ho, hy.imp (fun ⟨a, b⟩ => ⟨a, fun w' hw' => b w' (.inr (.inr hw'))⟩) id, hk⟩
def noSel (ops : Array Oper) : Prop := ∀ (j : Nat) (o : Oper) cs b, ops[j]? = some o → o.op ≠ .select cs b
theorem swap {sym : Bool} (L : Likes Sim sym) (hns : noSel ops) {p x : Nat × Nat} {op ox : Oper} (hp : ops[p.1]? = some op) (hx : ops[x.1]? = some ox) (hap : op.apart ops ox = true) (hok : swapOk sym p.2 x.2 = true)
  {K : Act → World → Prop} {a : Act} {w : World} (h : itm P ops Sim p (itm P ops Sim x K) a w) : itm P ops Sim x (itm P ops Sim p K) a w := by
 have hap' := apart_symm hap
 obtain ⟨h1, h2, h3⟩ := Oper.apart_spec hap
 have hsp := fun cs b => hns p.1 op cs b hp
 have hsx := fun cs b => hns x.1 ox cs b hx
 by_cases hpf : p.2 ≤ 1 ∨ p.2 = 4
 ·by_cases hxf : x.2 ≤ 1 ∨ x.2 = 4
  ·obtain ⟨o, v, ho, hy, hk⟩ := fre_inv L hpf h
   obtain rfl : op = o := by rw [hp] at ho; exact Option.some.inj ho
   obtain ⟨o', u, ho', hy', hk'⟩ := fre_inv L hxf hk
   obtain rfl : ox = o' := by rw [hx] at ho'; exact Option.some.inj ho'
   have s1 : Same ops ox a (a.put op.dst v) := Same.put ⟨rfl, rfl⟩ hsx h1 v
   have s2 : Same ops op a (a.put ox.dst u) := Same.put ⟨rfl, rfl⟩ hsp h3 u
   refine fre_mk hxf hx (yi_same' s1 hy') (fre_mk hpf hp (yi_same s2 hy) ?_)
   rw [← Act.put_comm a v u h2]; exact hk'
  ·have hp1 : p.2 ≤ 1 := by
    simp only [swapOk, Bool.or_eq_true, Bool.and_eq_true, beq_iff_eq, decide_eq_true_eq] at hok
    omega
   obtain ⟨o, v, ho, hy, hk⟩ := free_inv hp1 h
   obtain rfl : op = o := by rw [hp] at ho; exact Option.some.inj ho
   have hstp : ∀ (M : World → Prop), stp P ops x.1 (fun a' w' => M w' ∧ K a' w') (a.put op.dst v) w → (∀ w', M w' → p.2 = 0 ∨ Sim w w') →
     stp P ops x.1 (fun a' w' => M w' ∧ itm P ops Sim p K a' w') a w := by
    intro M hM hmm
    refine stp_mono ?_ (stp_put hx hap hsp hsx hM)
    intro a' w' ⟨hs, hm, hk'⟩
    refine ⟨hm, free_mk hp1 hp ?_ hk'⟩
    refine yi_same hs ?_
    by_cases h0 : p.2 = 0
    ·simpa [h0] using hy
    ·have hsim : Sim w w' := (hmm w' hm).resolve_left h0
     simp only [h0, if_false] at hy ⊢
     rcases hy with ⟨y1, y2⟩ | y
     ·exact .inl ⟨y1, fun w'' hw'' => y2 w'' (L.trans _ _ _ hsim hw'')⟩
     ·exact .inr y
   rcases (show x.2 = 2 ∨ (x.2 = 3 ∨ 5 ≤ x.2) by omega) with hc | hc
   ·rw [itm2 hc] at hk ⊢
    exact hstp (fun w' => Sim w w') hk (fun _ h => .inr h)
   ·rw [itm3 hc] at hk ⊢
    have h0 : p.2 = 0 := by
     simp only [swapOk, Bool.or_eq_true, Bool.and_eq_true, beq_iff_eq, decide_eq_true_eq] at hok
     omega
    have := hstp (fun _ => True) (stp_mono (fun _ _ h => ⟨trivial, h⟩) hk) (fun _ _ => .inl h0)
    exact stp_mono (fun _ _ h => h.2) this
 ·have hx1 : x.2 ≤ 1 := by
   simp only [swapOk, Bool.or_eq_true, Bool.and_eq_true, beq_iff_eq, decide_eq_true_eq] at hok
   omega
  have main : ∀ (M : World → Prop), stp P ops p.1 (fun a' w' => M w' ∧ itm P ops Sim x K a' w') a w → (∀ w', M w' → x.2 = 0 ∨ (Sim w w' ∧ Sim w' w)) →
    ∃ v, YieldsIf P ops (if x.2 = 0 then fun _ => True else Sim w) ox v a ∧ stp P ops p.1 (fun a' w' => M w' ∧ K a' w') (a.put ox.dst v) w := by
   intro M hM hmm
   have hS := stp_same hp hap' hsx hM
   have conv : ∀ a' w', Same ops ox a a' ∧ M w' ∧ itm P ops Sim x K a' w' → ∃ v, YieldsIf P ops (if x.2 = 0 then fun _ => True else Sim w) ox v a ∧ M w' ∧ K (a'.put ox.dst v) w' := by
    intro a' w' ⟨hs, hm, hi⟩
    obtain ⟨o', u, ho', hy', hk'⟩ := free_inv hx1 hi
    obtain rfl : ox = o' := by rw [hx] at ho'; exact Option.some.inj ho'
    refine ⟨u, ?_, hm, hk'⟩
    refine yi_same' hs ?_
    by_cases h0 : x.2 = 0
    ·simpa [h0] using hy'
    ·obtain ⟨_, hsim⟩ := (hmm w' hm).resolve_left h0
     simp only [h0, if_false] at hy' ⊢
     rcases hy' with ⟨y1, y2⟩ | y
     ·exact .inl ⟨y1, fun w'' hw'' => y2 w'' (L.trans _ _ _ hsim hw'')⟩
     ·exact .inr y
   obtain ⟨a0, w0, h0⟩ := stp_ex hS
   obtain ⟨v, hv, _⟩ := conv a0 w0 h0
   refine ⟨v, hv, stp_back hp hap' hsp ?_⟩
   refine stp_mono ?_ hS
   intro a' w' hh
   obtain ⟨v', hv', hm, hk⟩ := conv a' w' hh
   have e : v = v' := YieldsIf.unique (w := w) hv hv' (by split <;> first | trivial | exact L.refl _) (by split <;> first | trivial | exact L.refl _)
   rw [e]; exact ⟨hm, hk⟩
  rcases (show p.2 = 2 ∨ (p.2 = 3 ∨ 5 ≤ p.2) by omega) with hc | hc
  ·rw [itm2 hc] at h
   obtain ⟨v, hv, hst⟩ := main (fun w' => Sim w w') h (fun w' hs => by
    by_cases h0 : x.2 = 0
    ·exact .inl h0
    ·have hsy : sym = true := by
      simp only [swapOk, Bool.or_eq_true, Bool.and_eq_true, beq_iff_eq, decide_eq_true_eq] at hok
      by_cases hq : sym = true
      ·exact hq
      ·exfalso; simp [hq] at hok; omega
     exact .inr ⟨hs, L.sym hsy _ _ hs⟩)
   exact free_mk hx1 hx hv (by rw [itm2 hc]; exact hst)
  ·rw [itm3 hc] at h
   have h0 : x.2 = 0 := by
    simp only [swapOk, Bool.or_eq_true, Bool.and_eq_true, beq_iff_eq, decide_eq_true_eq] at hok
    omega
   obtain ⟨v, hv, hst⟩ := main (fun _ => True) (stp_mono (fun _ _ h => ⟨trivial, h⟩) h) (fun _ _ => .inl h0)
   exact free_mk hx1 hx hv (by rw [itm3 hc]; exact stp_mono (fun _ _ h => h.2) hst)
theorem bring {sym : Bool} (L : Likes Sim sym) (hns : noSel ops) {R : Act → World → Prop} (x : Nat × Nat) (post : List (Nat × Nat)) {ox : Oper} (hx : ops[x.1]? = some ox) : ∀ (pre : List (Nat × Nat)) (a : Act) (w : World),
  (∀ p ∈ pre, ∃ op, ops[p.1]? = some op ∧ op.apart ops ox = true ∧ swapOk sym p.2 x.2 = true) →
  sq P ops Sim (pre ++ x :: post) R a w → sq P ops Sim (x :: (pre ++ post)) R a w
 | [], _, _, _, h => h
 | p :: pre, a, w, hall, h => by
  obtain ⟨op, hp, hap, hok⟩ := hall p (by simp)
  have ih := fun a w => bring L hns (R := R) x post hx pre a w (fun q hq => hall q (by simp [hq]))
  exact swap L hns hp hx hap hok (itm_mono ih h)
def reach (ops : Array Oper) : Nat → Nat → Nat → Bool
 | 0, _, _ => false
 | f + 1, x, p => match ops[x]? with
  | none => false
  | some o => o.after.any fun e => Region.binds .any e && (e.on == p || reach ops f e.on p)
def Closed (ops : Array Oper) (listed : Array Bool) : Prop :=
 ∀ j o, ops[j]? = some o → listed.getD j false = true → ∀ e ∈ o.after, Region.binds .any e = true → listed.getD e.on false = true
theorem reach_listed {listed : Array Bool} (hc : Closed ops listed) : ∀ (f x p : Nat), reach ops f x p = true →
  (∀ o, ops[x]? = some o → ∀ e ∈ o.after, Region.binds .any e = true → listed.getD e.on false = true) → listed.getD p false = true
 | 0, _, _, h, _ => by simp [reach] at h
 | f + 1, x, p, h, hx => by
  unfold reach at h
  split at h
  ·cases h
  ·rename_i o ho
   obtain ⟨e, he, hb⟩ := Array.any_eq_true'.1 h
   simp only [Bool.and_eq_true, Bool.or_eq_true, beq_iff_eq] at hb
   have hl := hx o ho e he hb.1
   rcases hb.2 with rfl | hr
   ·exact hl
   ·exact reach_listed hc f e.on p hr (fun o' ho' e' he' hb' => hc e.on o' ho' hl e' he' hb')
def masksOk (ops : Array Oper) (ms : List Nat) : Bool :=
 (List.range ops.size).all fun i => match ops[i]? with
  | none => true
  | some o => ms.getD i 0 == o.after.toList.foldl (fun s e => if Region.binds .any e then s ||| (2 ^ e.on ||| ms.getD e.on 0) else s) 0
theorem fold_or (ms : List Nat) (p : Nat) : ∀ (l : List Edge) (s : Nat), (l.foldl (fun s e => if Region.binds .any e then s ||| (2 ^ e.on ||| ms.getD e.on 0) else s) s).testBit p = true →
  s.testBit p = true ∨ ∃ e ∈ l, Region.binds .any e = true ∧ (e.on = p ∨ (ms.getD e.on 0).testBit p = true)
 | [], s, h => .inl h
 | e :: l, s, h => by
  rw [List.foldl_cons] at h
  rcases fold_or ms p l _ h with h1 | ⟨e', he', hb, hor⟩
  ·split at h1
   ·rename_i hb
    rw [Nat.testBit_or, Nat.testBit_or, Bool.or_eq_true, Bool.or_eq_true] at h1
    rcases h1 with h1 | h1 | h1
    ·exact .inl h1
    ·right
     refine ⟨e, by simp, hb, .inl ?_⟩
     rw [Nat.testBit_two_pow] at h1
     simpa using h1
    ·exact .inr ⟨e, by simp, hb, .inr h1⟩
   ·exact .inl h1
  ·exact .inr ⟨e', by simp [he'], hb, hor⟩
theorem masks_reach {ms : List Nat} (hm : masksOk ops ms = true) (low : ∀ (i : Nat) (o : Oper), ops[i]? = some o → ∀ e ∈ o.after, Region.binds .any e = true → e.on < i) :
  ∀ (x p : Nat), x < ops.size → (ms.getD x 0).testBit p = true → ∃ f, reach ops f x p = true := by
 intro x
 induction x using Nat.strongRecOn with
 | _ x ih =>
  intro p hx ht
  have h1 := (List.all_eq_true.1 hm) x (List.mem_range.2 hx)
  have ho : ops[x]? = some ops[x] := by simp [hx]
  simp only [ho, beq_iff_eq] at h1
  rw [h1] at ht
  rcases fold_or ms p _ 0 ht with h0 | ⟨e, he, hb, hor⟩
  ·simp at h0
  ·have he' : e ∈ ops[x].after := by simpa using he
   have hlt := low x _ ho e he' hb
   rcases hor with rfl | hor
   ·refine ⟨1, ?_⟩
    unfold reach
    simp only [ho]
    exact Array.any_eq_true'.2 ⟨e, he', by simp [hb]⟩
   ·obtain ⟨f, hf⟩ := ih e.on hlt p (by omega) hor
    refine ⟨f + 1, ?_⟩
    unfold reach
    simp only [ho]
    exact Array.any_eq_true'.2 ⟨e, he', by simp [hb, hf]⟩
def pairOk (sym : Bool) (ops : Array Oper) (ms : List Nat) (p x : Nat × Nat) : Bool :=
 (ms.getD x.1 0).testBit p.1 ||
  match ops[p.1]?, ops[x.1]? with
  | some op, some ox => op.apart ops ox && swapOk sym p.2 x.2
  | _, _ => false
def pairsOk (sym : Bool) (ops : Array Oper) (ms : List Nat) : List (Nat × Nat) → Bool
 | [] => true
 | p :: r => r.all (pairOk sym ops ms p) && pairsOk sym ops ms r
theorem pairs_pw {sym : Bool} {ms : List Nat} : ∀ {l : List (Nat × Nat)}, pairsOk sym ops ms l = true → l.Pairwise (fun p x => pairOk sym ops ms p x = true)
 | [], _ => .nil
 | p :: r, h => by
  simp only [pairsOk, Bool.and_eq_true, List.all_eq_true] at h
  exact .cons h.1 (pairs_pw h.2)
def lowB (ops : Array Oper) : Bool :=
 (List.range ops.size).all fun i => match ops[i]? with
  | none => true
  | some o => o.after.all (fun e => decide (e.on < i) || !Region.binds .any e) && (match o.op with | .select _ _ => false | _ => true)
theorem low_spec (h : lowB ops = true) : (∀ (i : Nat) (o : Oper), ops[i]? = some o → ∀ e ∈ o.after, Region.binds .any e = true → e.on < i) ∧ noSel ops := by
 unfold lowB at h
 rw [List.all_eq_true] at h
 constructor
 ·intro i o ho e he hb
  have hi : i < ops.size := (Array.getElem?_eq_some_iff.1 ho).1
  have := h i (List.mem_range.2 hi)
  simp only [ho, Bool.and_eq_true, Array.all_eq_true_iff_forall_mem] at this
  have := this.1 e he
  simpa [hb] using this
 ·intro i o cs b ho heq
  have hi : i < ops.size := (Array.getElem?_eq_some_iff.1 ho).1
  have := h i (List.mem_range.2 hi)
  simp [ho, heq] at this
theorem itm_wpOp {sym : Bool} (L : Likes Sim sym) {Q : Exit → Act → World → Prop} {x : Nat × Nat} {K : Act → World → Prop} {a : Act} {w : World} (h : itm P ops Sim x K a w) : wpOp P ops Q x.1 K a w := by
 have hst : ∀ K', stp P ops x.1 K' a w → (∀ a w, K' a w → K a w) → wpOp P ops Q x.1 K a w := by
  intro K' h hk
  unfold stp at h
  unfold wpOp
  split
  ·rename_i ho; simp [ho] at h
  ·rename_i o ho
   simp only [ho] at h
   split
   ·rename_i hw; rw [if_pos hw] at h; exact .inl (wp_mono_nope hk h)
   ·rename_i hw; rw [if_neg hw] at h; exact hk _ _ h
 unfold itm at h
 split at h
 ·obtain ⟨o, v, h1, h2, h3⟩ := h; exact h2.wpOp h1 h3
 ·obtain ⟨o, v, h1, h2, h3⟩ := h; exact h2.wpOp h1 (L.refl w) h3
 ·exact hst _ h (fun _ _ h => h.2)
 ·obtain ⟨o, v, h1, h2, h3⟩ := h; exact h2.wpOp h1 rfl h3
 ·exact hst _ h (fun _ _ h => h)
theorem getD_both {listed : Array Bool} {i : Nat} (h : listed.getD i true = false) : listed.getD i false = false := by
 rcases Nat.lt_or_ge i listed.size with h' | h'
 ·simp [h'] at h ⊢; exact h
 ·simp [Array.getElem?_eq_none h'] at h
theorem any_of_sq {sym : Bool} (L : Likes Sim sym) (hlow : lowB ops = true) {ms : List Nat} (hms : masksOk ops ms = true) {Q : Exit → Act → World → Prop} : ∀ (n : Nat) (l : List (Nat × Nat)) (listed : Array Bool) (a : Act) (w : World), l.length = n →
  Closed ops listed → listed.size = ops.size → (∀ i, listed.getD i true = false ↔ i ∈ l.map Prod.fst) → (l.map Prod.fst).Nodup → l.Pairwise (fun p x => pairOk sym ops ms p x = true) →
  sq P ops Sim l (Q .normal) a w → wpAny P .any ops Q n listed a w := by
 obtain ⟨low, hns⟩ := low_spec hlow
 intro n
 induction n with
 | zero =>
  intro l listed a w hl hc hsz hmem hnd hpw h
  obtain rfl : l = [] := List.eq_nil_of_length_eq_zero hl
  refine ⟨?_, h⟩
  rw [List.eq_nil_iff_forall_not_mem]
  intro i hi
  have := (hmem i).1 (mem_ready.1 hi).1
  simp at this
 | succ n ih =>
  intro l listed a w hl hc hsz hmem hnd hpw h
  refine ⟨fun hr => ?_, fun i hi => ?_⟩
  ·-- the least one that has not come up is ready
   exfalso
   have hex : ∃ m, listed.getD m true = false := by
    match l, hl with
    | x :: r, _ => exact ⟨x.1, (hmem x.1).2 (by simp)⟩
   obtain ⟨m, hm, hmin⟩ : ∃ m, listed.getD m true = false ∧ ∀ k < m, ¬ listed.getD k true = false := by
    obtain ⟨m0, hm0⟩ := hex
    induction m0 using Nat.strongRecOn with
    | _ m ihm =>
     by_cases hk : ∃ k < m, listed.getD k true = false
     ·obtain ⟨k, hk1, hk2⟩ := hk; exact ihm k hk1 hk2
     ·exact ⟨m, hm0, fun k hk1 hk2 => hk ⟨k, hk1, hk2⟩⟩
   have hms : m < ops.size := by
    rcases Nat.lt_or_ge m listed.size with h' | h'
    ·omega
    ·simp [Array.getElem?_eq_none h'] at hm
   have : m ∈ Region.ready .any ops listed := mem_ready.2 ⟨hm, ops[m], by simp [hms], fun e he hb => by
    have hlt := low m ops[m] (by simp [hms]) e he hb
    have h1 := hmin e.on hlt
    have h2 : e.on < listed.size := by omega
    simp [h2] at h1 ⊢; exact h1⟩
   rw [hr] at this
   cases this
  ·obtain ⟨hun, o, ho, hall⟩ := mem_ready.1 hi
   have hil := (hmem i).1 hun
   obtain ⟨x, hx, rfl⟩ := List.mem_map.1 hil
   obtain ⟨pre, post, rfl⟩ := List.append_of_mem hx
   have hpw' := List.pairwise_append.1 hpw
   have hsw : ∀ p ∈ pre, ∃ op, ops[p.1]? = some op ∧ op.apart ops o = true ∧ swapOk sym p.2 x.2 = true := by
    intro p hp
    have hpx := hpw'.2.2 p hp x (by simp)
    unfold pairOk at hpx
    rw [Bool.or_eq_true] at hpx
    rcases hpx with hr | hr
    ·exfalso
     obtain ⟨f, hrf⟩ := masks_reach hms low x.1 p.1 (Array.getElem?_eq_some_iff.1 ho).1 hr
     have h1 := reach_listed hc _ _ _ hrf (fun o' ho' e he hb => by rw [ho] at ho'; cases ho'; exact hall e he hb)
     have h2 : listed.getD p.1 true = false := (hmem p.1).2 (by simp; exact .inl ⟨_, hp⟩)
     rw [getD_both h2] at h1
     cases h1
    ·rw [ho] at hr
     split at hr
     ·rename_i op ox hp' hx'
      cases hx'
      rw [Bool.and_eq_true] at hr
      exact ⟨op, hp', hr.1, hr.2⟩
     ·cases hr
   have hb := bring L hns x post ho pre a w hsw h
   refine wpOp_mono (fun a' w' hk => ih (pre ++ post) (listed.setIfInBounds x.1 true) a' w' ?_ ?_ ?_ ?_ ?_ ?_ hk) (itm_wpOp L hb)
   ·simp at hl ⊢; omega
   ·intro j oj hoj hlj e he hbd
    have hset : ∀ k, listed.getD k false = true → (listed.setIfInBounds x.1 true).getD k false = true := by
     intro k hk
     by_cases hkx : x.1 = k
     ·subst hkx
      have : x.1 < listed.size := by
       rcases Nat.lt_or_ge x.1 listed.size with h' | h'
       ·exact h'
       ·simp [Array.getElem?_eq_none h'] at hk
      simp [this]
     ·simpa [Array.getElem?_setIfInBounds_ne hkx] using hk
    by_cases hjx : x.1 = j
    ·subst hjx
     rw [ho] at hoj; cases hoj
     exact hset _ (hall e he hbd)
    ·have : listed.getD j false = true := by simpa [Array.getElem?_setIfInBounds_ne hjx] using hlj
     exact hset _ (hc j oj hoj this e he hbd)
   ·simp [hsz]
   ·intro k
    have hxs : x.1 < listed.size := by
     rcases Nat.lt_or_ge x.1 listed.size with h' | h'
     ·exact h'
     ·simp [Array.getElem?_eq_none h'] at hun
    have hnd' : x.1 ∉ (pre ++ post).map Prod.fst := by
     simp only [List.map_append, List.map_cons] at hnd ⊢
     rw [List.nodup_append] at hnd
     obtain ⟨_, n2, n3⟩ := hnd
     rw [List.nodup_cons] at n2
     intro hm
     rcases List.mem_append.1 hm with hm | hm
     ·exact n3 _ hm _ (by simp) rfl
     ·exact n2.1 hm
    by_cases hkx : x.1 = k
    ·subst hkx
     simp only [Array.getD_eq_getD_getElem?, Array.getElem?_setIfInBounds_self, hxs, if_true, Option.getD_some]
     constructor
     ·intro h; cases h
     ·intro h; exact absurd h hnd'
    ·have h1 := hmem k
     simp only [Array.getD_eq_getD_getElem?, Array.getElem?_setIfInBounds_ne hkx] at h1 ⊢
     rw [h1]
     simp only [List.map_append, List.map_cons, List.mem_append, List.mem_cons]
     constructor
     ·rintro (h | h | h)
      ·exact .inl h
      ·exact absurd h.symm hkx
      ·exact .inr h
     ·rintro (h | h)
      ·exact .inl h
      ·exact .inr (.inr h)
   ·simp only [List.map_append, List.map_cons] at hnd ⊢
    rw [List.nodup_append] at hnd ⊢
    obtain ⟨n1, n2, n3⟩ := hnd
    rw [List.nodup_cons] at n2
    exact ⟨n1, n2.2, fun a ha b hb => n3 a ha b (by simp [hb])⟩
   ·rw [List.pairwise_append]
    exact ⟨hpw'.1, (List.pairwise_cons.1 hpw'.2.1).2, fun a ha b hb => hpw'.2.2 a ha b (by simp [hb])⟩
theorem wp_region_sq {sym : Bool} (L : Likes Sim sym) {id : Nat} {Q : Exit → Act → World → Prop} {a : Act} {w : World} (cls ms : List Nat)
  (hm : P.follows .mixedOrders = true) (hlen : cls.length = ops.size) (hlow : lowB ops = true) (hms : masksOk ops ms = true) (hpairs : pairsOk sym ops ms (cls.zipIdx.map fun x => (x.2, x.1)) = true)
  (h : sq P ops Sim (cls.zipIdx.map fun x => (x.2, x.1)) (Q .normal) a { w with drawn := w.drawn + 1 }) : (Code.region id ops true).wp P Q a w := by
 have hfst : (cls.zipIdx.map fun x => (x.2, x.1)).map Prod.fst = List.range ops.size := by
  rw [List.map_map, ← hlen]
  have : (Prod.fst ∘ fun x : Nat × Nat => (x.2, x.1)) = Prod.snd := rfl
  rw [this, List.range_eq_range', List.zipIdx_map_snd]
 refine wp_region_any hm ?_
 have hl : (cls.zipIdx.map fun x => (x.2, x.1)).length = ops.size := by simp [hlen]
 refine any_of_sq L hlow hms ops.size _ _ a _ hl ?_ (by simp) ?_ ?_ (pairs_pw hpairs) h
 ·intro j o _ hj
  exfalso
  rcases Nat.lt_or_ge j ops.size with h' | h'
  ·simp [h'] at hj
  ·simp [h'] at hj
 ·intro i
  rw [hfst, List.mem_range]
  rcases Nat.lt_or_ge i ops.size with h' | h'
  ·simp [h']
  ·simp [h']
 ·rw [hfst]; exact List.nodup_range
end
end Go.Reg
set_option linter.unusedSimpArgs false
set_option linter.unusedVariables false
namespace Go.Reg
open Go
section
variable {P : Program} {Sim : World → World → Prop} {α β : Type}
theorem andThen_ok_inv {r : Result α} {f : α → World → Result β} {b : β} {w' : World} (h : r.andThen f = .ok b w') : ∃ a w1, r = .ok a w1 ∧ f a w1 = .ok b w' := by
 cases r with
 | ok a w1 => exact ⟨a, w1, rfl, h⟩
 | halt x w1 => simp at h
def Rd (P : Program) (Sim : World → World → Prop) (s : Sem α) : Prop :=
 ∀ w a w', s.run P w = .ok a w' → w' = w ∧ ∀ w2, Sim w w2 → s.run P w2 = .ok a w2
def All : World → World → Prop := fun _ _ => True
theorem Rd.pure (a : α) : Rd P Sim (Pure.pure a : Sem α) := fun w b w' h => by
 simp at h; obtain ⟨rfl, rfl⟩ := h; exact ⟨rfl, fun _ _ => by simp⟩
theorem Rd.bind {s : Sem α} {f : α → Sem β} (hs : Rd P Sim s) (hf : ∀ a, Rd P Sim (f a)) : Rd P Sim (s >>= f) := fun w b w' h => by
 rw [Sem.run_bind] at h
 obtain ⟨a, w1, h1, h2⟩ := andThen_ok_inv h
 obtain ⟨rfl, h3⟩ := hs w a w1 h1
 obtain ⟨rfl, h4⟩ := hf a w1 b w' h2
 exact ⟨rfl, fun w2 hw => by rw [Sem.run_bind, h3 w2 hw]; exact h4 w2 hw⟩
def Dead (P : Program) (s : Sem α) : Prop := ∀ w a w', s.run P w ≠ .ok a w'
theorem Dead.rd {s : Sem α} (h : Dead P s) : Rd P Sim s := fun w a w' hr => absurd hr (h w a w')
theorem Dead.bind {s : Sem α} (f : α → Sem β) (h : Dead P s) : Dead P (s >>= f) := fun w b w' hr => by
 rw [Sem.run_bind] at hr
 obtain ⟨a, w1, h1, _⟩ := andThen_ok_inv hr
 exact h w a w1 h1
theorem Dead.after {s : Sem α} {f : α → Sem β} (h : ∀ a, Dead P (f a)) : Dead P (s >>= f) := fun w b w' hr => by
 rw [Sem.run_bind] at hr
 obtain ⟨a, w1, _, h2⟩ := andThen_ok_inv hr
 exact h a w1 b w' h2
theorem dead_halt (h : Halt) : Dead P (Sem.halt h : Sem α) := fun w a w' hr => by simp [Sem.run] at hr
theorem dead_stuck (s : String) : Dead P (stuck s : Sem α) := dead_halt _
theorem dead_unsup (u : Unsupported) : Dead P (unsupported u : Sem α) := dead_halt _
theorem dead_goPanic (v : Value) : Dead P (goPanic v : Sem α) := dead_halt _
theorem dead_rtp (e : RuntimeError) : Dead P (runtimePanic e : Sem α) := by
 unfold runtimePanic
 refine Dead.after fun p => ?_
 cases e <;> simp only [] <;> first
  | exact dead_goPanic _
  | exact Dead.after fun _ => Dead.after fun _ => dead_goPanic _
theorem dead_bounds (k : IntKind) (x y : Int) (c : BoundsCode) : Dead P (boundsPanic k x y c : Sem α) := by
 unfold boundsPanic
 dsimp only
 split
 ·exact Dead.after fun _ => dead_rtp _
 ·exact Dead.after fun _ => dead_rtp _
theorem Rd.ite {c : Prop} [Decidable c] {s t : Sem α} (h1 : c → Rd P Sim s) (h2 : ¬ c → Rd P Sim t) : Rd P Sim (if c then s else t) := by
 split
 ·exact h1 ‹_›
 ·exact h2 ‹_›
theorem rd_program : Rd P Sim (program) := fun w a w' h => by
 simp [program, Sem.run] at h
 obtain ⟨rfl, rfl⟩ := h
 exact ⟨rfl, fun _ _ => by simp [program, Sem.run]⟩
theorem rd_typeInfo (t : TypeId) : Rd P Sim (typeInfo t) := by
 unfold typeInfo
 refine rd_program.bind fun p => ?_
 split
 ·exact .pure _
 ·exact (dead_stuck _).rd
theorem rd_underlying (t : TypeId) : Rd P Sim (underlying t) := by
 unfold underlying
 refine rd_program.bind fun p => ?_
 split
 ·exact .pure _
 ·exact (dead_stuck _).rd
theorem rd_sizeOf (t : TypeId) : Rd P Sim (sizeOf t) := (rd_typeInfo t).bind fun _ => .pure _
theorem rd_zeroValue (t : TypeId) : Rd P Sim (zeroValue t) := by
 unfold zeroValue
 refine (rd_typeInfo t).bind fun i => ?_
 split
 ·exact .pure _
 ·exact (dead_unsup _).rd
theorem rd_isAgg (t : TypeId) : Rd P Sim (isAgg t) := by
 unfold isAgg
 refine (rd_underlying t).bind fun d => ?_
 split <;> exact .pure _
theorem rd_asIntOf (v : Value) : Rd P Sim (asIntOf v) := by
 unfold asIntOf
 split
 ·exact .pure _
 ·exact (dead_unsup _).rd
 ·exact (dead_stuck _).rd
theorem rd_asInt (v : Value) : Rd P Sim (asInt v) := (rd_asIntOf v).bind fun _ => .pure _
theorem rd_sureAddr (v : Value) : Rd P Sim (Instr.sureAddr v) := by
 unfold Instr.sureAddr
 split
 ·exact .pure _
 ·exact (dead_stuck _).rd
theorem rd_part (t : TypeId) (cs : Array Value) (off : Nat) : Rd P Sim (part t cs off) := by
 unfold part
 refine (rd_isAgg t).bind fun b => ?_
 split
 ·exact (rd_sizeOf t).bind fun _ => .pure _
 ·split
  ·exact .pure _
  ·exact (dead_stuck _).rd
theorem rd_indexAt (t : TypeId) (x i : Value) : Rd P Sim (Instr.indexAt t x i) := by
 unfold Instr.indexAt
 repeat' first
  | exact Rd.pure _
  | exact (dead_stuck _).rd
  | exact (dead_unsup _).rd
  | exact (dead_bounds _ _ _ _).rd
  | exact (dead_rtp _).rd
  | exact rd_underlying _
  | exact rd_sizeOf _
  | exact rd_asIntOf _
  | exact rd_sureAddr _
  | exact rd_part _ _ _
  | (refine Rd.bind ?_ (fun _ => ?_))
  | split
  | dsimp only
theorem rd_sliceBound (x : Value) (y : Nat) (c : BoundsCode) : Rd P Sim (Instr.sliceBound x y c) := by
 unfold Instr.sliceBound
 repeat' first
  | exact Rd.pure _
  | exact (dead_stuck _).rd
  | exact (dead_unsup _).rd
  | exact (dead_bounds _ _ _ _).rd
  | exact (dead_rtp _).rd
  | exact rd_underlying _
  | exact rd_sizeOf _
  | exact rd_asIntOf _
  | exact rd_sureAddr _
  | exact rd_part _ _ _
  | (refine Rd.bind ?_ (fun _ => ?_))
  | split
  | dsimp only
theorem rd_sliceBounds (b : Bool) (len cap : Nat) (lo hi mx : Option Value) : Rd P Sim (Instr.sliceBounds b len cap lo hi mx) := by
 unfold Instr.sliceBounds
 repeat' first
  | exact Rd.pure _
  | exact (dead_stuck _).rd
  | exact (dead_unsup _).rd
  | exact (dead_bounds _ _ _ _).rd
  | exact (dead_rtp _).rd
  | exact rd_underlying _
  | exact rd_sizeOf _
  | exact rd_asIntOf _
  | exact rd_sureAddr _
  | exact rd_part _ _ _
  | exact rd_sliceBound _ _ _
  | (refine Rd.bind ?_ (fun _ => ?_))
  | split
  | dsimp only
theorem rd_asAddr (v : Value) : Rd P Sim (asAddr v) := by
 unfold asAddr
 split
 ·exact .pure _
 ·exact (dead_rtp _).rd
 ·exact (dead_stuck _).rd
theorem rd_slice (t : TypeId) (x : Value) (lo hi mx : Option Value) : Rd P Sim (Instr.slice t x lo hi mx) := by
 unfold Instr.slice
 repeat' first
  | exact Rd.pure _
  | exact (dead_stuck _).rd
  | exact (dead_unsup _).rd
  | exact (dead_bounds _ _ _ _).rd
  | exact (dead_rtp _).rd
  | exact rd_underlying _
  | exact rd_sizeOf _
  | exact rd_asIntOf _
  | exact rd_sureAddr _
  | exact rd_part _ _ _
  | exact rd_sliceBounds _ _ _ _ _ _
  | exact rd_asAddr _
  | (refine Rd.bind ?_ (fun _ => ?_))
  | split
  | dsimp only
theorem rd_sliceAt (t : TypeId) (x : Value) (lo hi mx : Option Value) : Rd P Sim (Instr.sliceAt t x lo hi mx) := by
 unfold Instr.sliceAt
 repeat' first
  | exact Rd.pure _
  | exact (dead_stuck _).rd
  | exact (dead_unsup _).rd
  | exact (dead_bounds _ _ _ _).rd
  | exact (dead_rtp _).rd
  | exact rd_underlying _
  | exact rd_sizeOf _
  | exact rd_asIntOf _
  | exact rd_sureAddr _
  | exact rd_part _ _ _
  | exact rd_sliceBounds _ _ _ _ _ _
  | exact rd_slice _ _ _ _ _
  | (refine Rd.bind ?_ (fun _ => ?_))
  | split
  | dsimp only
theorem rd_index (t : TypeId) (x i : Value) : Rd P Sim (Instr.index t x i) := by
 unfold Instr.index
 repeat' first
  | exact Rd.pure _
  | exact (dead_stuck _).rd
  | exact (dead_unsup _).rd
  | exact (dead_bounds _ _ _ _).rd
  | exact (dead_rtp _).rd
  | exact rd_underlying _
  | exact rd_sizeOf _
  | exact rd_asIntOf _
  | exact rd_sureAddr _
  | exact rd_part _ _ _
  | (refine Rd.bind ?_ (fun _ => ?_))
  | split
  | dsimp only
theorem rd_field (t : TypeId) (x : Value) (f : Nat) : Rd P Sim (Instr.field t x f) := by
 unfold Instr.field asAgg
 repeat' first
  | exact Rd.pure _
  | exact (dead_stuck _).rd
  | exact (dead_unsup _).rd
  | exact (dead_bounds _ _ _ _).rd
  | exact (dead_rtp _).rd
  | exact rd_underlying _
  | exact rd_sizeOf _
  | exact rd_asIntOf _
  | exact rd_sureAddr _
  | exact rd_part _ _ _
  | (refine Rd.bind ?_ (fun _ => ?_))
  | split
  | dsimp only
theorem rd_extract (t : Value) (i : Nat) : Rd P Sim (Instr.extract t i) := by
 unfold Instr.extract
 split
 ·split
  ·exact .pure _
  ·exact (dead_stuck _).rd
 ·exact (dead_stuck _).rd
theorem rd_unary (op : UnOp) (x : Value) : Rd P Sim (Op.unary op x) := by
 unfold Op.unary
 split <;> first
  | exact .pure _
  | exact (dead_unsup _).rd
  | exact (dead_stuck _).rd
  | (unfold Op.intArith; split <;> first | exact .pure _ | exact (dead_stuck _).rd)
  | (unfold Op.intBits; split <;> first | exact .pure _ | exact (dead_stuck _).rd)
theorem rd_asBool (v : Value) : Rd P Sim (asBool v) := by
 unfold asBool
 split
 ·exact .pure _
 ·exact (dead_stuck _).rd
def fieldFits (P : Program) (s : TypeId) (f : Nat) : Bool :=
 match P.underlying s with
 | some (.struct fields) => match fields[f]? with
  | some x => match P.info? x.type with
   | some i => i.size != 0
   | none => false
  | none => false
 | _ => false
theorem rd_fieldAt (s : TypeId) (x : Value) (f : Nat) (hf : fieldFits P s f = true) : Rd P Sim (Instr.fieldAt s x f) := by
 intro w a w' h
 unfold fieldFits at hf
 unfold Instr.fieldAt at h ⊢
 cases hu : P.underlying s with
 | none => simp [hu] at hf
 | some d =>
  cases d with
  | struct fields =>
   simp only [hu] at hf
   cases hx : fields[f]? with
   | none => simp [hx] at hf
   | some fl =>
    simp only [hx] at hf
    cases hi : P.info? fl.type with
    | none => simp [hi] at hf
    | some i =>
     simp only [hi] at hf
     have hz : i.size ≠ 0 := by simpa using hf
     have hrun : ∀ w, (underlying s).run P w = .ok (.struct fields) w := fun w => by simp [underlying, program, Sem.run, hu]
     have hsz : ∀ w, (sizeOf fl.type).run P w = .ok i.size w := fun w => by simp [sizeOf, typeInfo, program, Sem.run, hi]
     cases x <;> simp [hrun, hx, Instr.sureAddr, fieldPlace, hsz, hz, stuck, Sem.run] at h ⊢
     rename_i ao
     cases ao <;> simp [hrun, hx, Instr.sureAddr, fieldPlace, hsz, hz, stuck, Sem.run] at h ⊢
     obtain ⟨rfl, rfl⟩ := h
     simp
  | _ => simp [hu] at hf
end
section
variable {P : Program} {Sim : World → World → Prop} {α β : Type}
def binV (op : BinOp) (x y : Value) : Bool :=
 match x, y with
 | .int _ _, .int _ _ => true
 | .string _, .string _ => true
 | .bool _, .bool _ => op == .eql || op == .neq
 | .pointer none, .pointer _ => op == .eql || op == .neq
 | .pointer _, .pointer none => op == .eql || op == .neq
 | .slice none _ _, .slice _ _ _ => op == .eql || op == .neq
 | .slice _ _ _, .slice none _ _ => op == .eql || op == .neq
 | _, _ => false
theorem rd_intArith (op : BinOp) (k : IntKind) (x y : Int) : Rd P Sim (Op.intArith op k x y) := by
 unfold Op.intArith
 repeat' first
  | exact Rd.pure _
  | exact (dead_stuck _).rd
  | exact (dead_unsup _).rd
  | exact (dead_bounds _ _ _ _).rd
  | exact (dead_rtp _).rd
  | exact rd_underlying _
  | exact rd_sizeOf _
  | exact rd_typeInfo _
  | exact rd_program
  | (refine Rd.bind ?_ (fun _ => ?_))
  | split
  | dsimp only
theorem rd_intDiv (op : BinOp) (k : IntKind) (x y : Int) : Rd P Sim (Op.intDiv op k x y) := by
 unfold Op.intDiv
 repeat' first
  | exact Rd.pure _
  | exact (dead_stuck _).rd
  | exact (dead_unsup _).rd
  | exact (dead_bounds _ _ _ _).rd
  | exact (dead_rtp _).rd
  | exact rd_underlying _
  | exact rd_sizeOf _
  | exact rd_typeInfo _
  | exact rd_program
  | (refine Rd.bind ?_ (fun _ => ?_))
  | split
  | dsimp only
theorem rd_intBits (op : BinOp) (k : IntKind) (x y : Int) : Rd P Sim (Op.intBits op k x y) := by
 unfold Op.intBits
 repeat' first
  | exact Rd.pure _
  | exact (dead_stuck _).rd
  | exact (dead_unsup _).rd
  | exact (dead_bounds _ _ _ _).rd
  | exact (dead_rtp _).rd
  | exact rd_underlying _
  | exact rd_sizeOf _
  | exact rd_typeInfo _
  | exact rd_program
  | (refine Rd.bind ?_ (fun _ => ?_))
  | split
  | dsimp only
theorem rd_shift (op : BinOp) (k : IntKind) (x : Int) (k' : IntKind) (y : Int) : Rd P Sim (Op.shift op k x k' y) := by
 unfold Op.shift
 repeat' first
  | exact Rd.pure _
  | exact (dead_stuck _).rd
  | exact (dead_unsup _).rd
  | exact (dead_bounds _ _ _ _).rd
  | exact (dead_rtp _).rd
  | exact rd_underlying _
  | exact rd_sizeOf _
  | exact rd_typeInfo _
  | exact rd_program
  | (refine Rd.bind ?_ (fun _ => ?_))
  | split
  | dsimp only
theorem rd_intCmp (op : BinOp) (x y : Int) : Rd P Sim (Op.intCmp op x y) := by
 unfold Op.intCmp
 repeat' first
  | exact Rd.pure _
  | exact (dead_stuck _).rd
  | exact (dead_unsup _).rd
  | exact (dead_bounds _ _ _ _).rd
  | exact (dead_rtp _).rd
  | exact rd_underlying _
  | exact rd_sizeOf _
  | exact rd_typeInfo _
  | exact rd_program
  | (refine Rd.bind ?_ (fun _ => ?_))
  | split
  | dsimp only
theorem rd_stringOp (op : BinOp) (x y : ByteArray) : Rd P Sim (Op.stringOp op x y) := by
 unfold Op.stringOp
 repeat' first
  | exact Rd.pure _
  | exact (dead_stuck _).rd
  | exact (dead_unsup _).rd
  | exact (dead_bounds _ _ _ _).rd
  | exact (dead_rtp _).rd
  | exact rd_underlying _
  | exact rd_sizeOf _
  | exact rd_typeInfo _
  | exact rd_program
  | (refine Rd.bind ?_ (fun _ => ?_))
  | split
  | dsimp only
theorem rd_equal_bool (t : TypeId) (x y : Bool) : Rd P Sim (Op.equal t (.bool x) (.bool y)) := by
 show Rd P Sim (Op.equalIn (9999 + 1) t _ _)
 unfold Op.equalIn
 refine (rd_underlying t).bind fun d => ?_
 cases d <;> simp only [] <;> first | exact .pure _ | exact (dead_stuck _).rd
theorem rd_equal_ptr_l (t : TypeId) (y : Option Addr) : Rd P Sim (Op.equal t (.pointer none) (.pointer y)) := by
 show Rd P Sim (Op.equalIn (9999 + 1) t _ _)
 unfold Op.equalIn
 refine (rd_underlying t).bind fun d => ?_
 cases y <;> cases d <;> simp only [samePointer] <;> first | exact .pure _ | exact (dead_stuck _).rd | exact (dead_unsup _).rd
theorem rd_equal_ptr_r (t : TypeId) (x : Option Addr) : Rd P Sim (Op.equal t (.pointer x) (.pointer none)) := by
 show Rd P Sim (Op.equalIn (9999 + 1) t _ _)
 unfold Op.equalIn
 refine (rd_underlying t).bind fun d => ?_
 cases x <;> cases d <;> simp only [samePointer] <;> first | exact .pure _ | exact (dead_stuck _).rd | exact (dead_unsup _).rd
theorem rd_equal_slice_l (t : TypeId) (n c : Nat) (y : Option Addr) (m e : Nat) : Rd P Sim (Op.equal t (.slice none n c) (.slice y m e)) := by
 show Rd P Sim (Op.equalIn (9999 + 1) t _ _)
 unfold Op.equalIn
 refine (rd_underlying t).bind fun d => ?_
 cases d <;> simp only [] <;> first | exact .pure _ | exact (dead_stuck _).rd
theorem rd_equal_slice_r (t : TypeId) (y : Option Addr) (n c m e : Nat) : Rd P Sim (Op.equal t (.slice y n c) (.slice none m e)) := by
 show Rd P Sim (Op.equalIn (9999 + 1) t _ _)
 unfold Op.equalIn
 refine (rd_underlying t).bind fun d => ?_
 cases y <;> cases d <;> simp only [] <;> first | exact .pure _ | exact (dead_stuck _).rd
theorem rd_eqGuard (op : BinOp) (t : TypeId) (x y : Operand) (a b : Value) (h : binV op a b = true) : Rd P Sim (eqGuard op t x y a b) := by
 unfold eqGuard
 unfold binV at h
 split at h <;> first | (cases h; done) | (dsimp only; split <;> first | exact .pure _ | (refine Rd.bind ?_ (fun _ => ?_) <;> exact .pure _))
theorem rd_binOp (op : BinOp) (t : TypeId) (a b : Value) (h : binV op a b = true) : Rd P Sim (binOp op t a b) := by
 unfold binV at h
 split at h
 ·rename_i k a k' b
  cases op <;> first
   | (unfold binOp; exact rd_shift _ _ _ _ _)
   | (simp only [binOp]; exact rd_shift _ _ _ _ _)
   | (show Rd P Sim (if k ≠ k' then _ else _); refine Rd.ite (fun _ => (dead_stuck _).rd) (fun _ => ?_); first | exact rd_intArith _ _ _ _ | exact rd_intDiv _ _ _ _ | exact rd_intBits _ _ _ _ | exact rd_intCmp _ _ _)
 ·cases op <;> (simp only [binOp]; exact rd_stringOp _ _ _)
 ·simp only [Bool.or_eq_true, beq_iff_eq] at h
  rcases h with rfl | rfl <;> exact (rd_equal_bool t _ _).bind fun _ => .pure _
 ·simp only [Bool.or_eq_true, beq_iff_eq] at h
  rcases h with rfl | rfl <;> exact (rd_equal_ptr_l t _).bind fun _ => .pure _
 ·simp only [Bool.or_eq_true, beq_iff_eq] at h
  rcases h with rfl | rfl <;> exact (rd_equal_ptr_r t _).bind fun _ => .pure _
 ·simp only [Bool.or_eq_true, beq_iff_eq] at h
  rcases h with rfl | rfl <;> exact (rd_equal_slice_l t _ _ _ _ _).bind fun _ => .pure _
 ·simp only [Bool.or_eq_true, beq_iff_eq] at h
  rcases h with rfl | rfl <;> exact (rd_equal_slice_r t _ _ _ _ _).bind fun _ => .pure _
 ·cases h
end
def seen (w : World) (k : Nat) : Option Obj × Option Obj :=
 (w.heap[k]?, match w.heap[k]? with | some (.view at_ _) => w.heap[at_.block]? | _ => none)
def Keep (L : List Nat) (w w' : World) : Prop := ∀ k ∈ L, seen w' k = seen w k
def Ext (w w' : World) : Prop := w.heap.size ≤ w'.heap.size ∧ ∀ k, k < w.heap.size → w'.heap[k]? = w.heap[k]?
theorem likes_keep (L : List Nat) : Likes (Keep L) true :=
 ⟨fun w k _ => rfl, fun a b c h1 h2 k hk => (h2 k hk).trans (h1 k hk), fun _ a b h k hk => (h k hk).symm⟩
theorem likes_ext : Likes Ext false :=
 ⟨fun w => ⟨Nat.le_refl _, fun _ _ => rfl⟩, fun a b c h1 h2 => ⟨Nat.le_trans h1.1 h2.1, fun k hk => (h2.2 k (Nat.lt_of_lt_of_le hk h1.1)).trans (h1.2 k hk)⟩, fun h => by cases h⟩
theorem seen_cells {w w' : World} {k : Nat} {c : Array Value} {t : TypeId} {f : Nat × Nat} (h : w.heap[k]? = some (.cells c t f)) (h' : w'.heap[k]? = w.heap[k]?) : seen w' k = seen w k := by
 unfold seen; rw [h', h]
section
variable {P : Program} {Sim : World → World → Prop} {α β : Type}
theorem seenW_congr {w w2 : World} {at_ : Addr} (h : w2.heap[at_.block]? = w.heap[at_.block]?) (u : TypeId) (k : Addr) (b : Bool) : w2.seen P at_ u k b = w.seen P at_ u k b := by
 unfold World.seen; simp only [h]
theorem viewLoad_congr {w w2 : World} {at_ : Addr} (h : w2.heap[at_.block]? = w.heap[at_.block]?) (u : TypeId) (k : Addr) (b : Bool) : w2.viewLoad P at_ u k b = w.viewLoad P at_ u k b := by
 unfold World.viewLoad; simp only [seenW_congr h]
theorem seen_none {w : World} {at_ : Addr} (hn : w.heap[at_.block]? = none) (u : TypeId) (k : Addr) (b : Bool) : ∀ r, w.seen P at_ u k b ≠ .ok r := by
 intro r
 unfold World.seen
 rw [hn]
 dsimp only [bind, Except.bind, MonadExcept.throw, throwThe, MonadExceptOf.throw, Except.pure, Pure.pure]
 repeat' first | (intro h; cases h; done) | split
theorem viewLoad_none {w : World} {at_ : Addr} (hn : w.heap[at_.block]? = none) (u : TypeId) (k : Addr) (b : Bool) : ∀ r, w.viewLoad P at_ u k b ≠ .ok r := by
 intro r
 unfold World.viewLoad
 cases hs : w.seen P at_ u k b with
 | ok r' => exact absurd hs (seen_none hn u k b r')
 | error e => simp [bind, Except.bind]
theorem cell_congr {w w2 : World} {a : Addr} (h : w2.heap[a.block]? = w.heap[a.block]?) : w2.cell? a = w.cell? a := by unfold World.cell?; rw [h]
theorem rd_load_keep {L : List Nat} {a : Addr} (ha : a.block ∈ L) : Rd P (Keep L) (load a) := by
 intro w v w' h
 have hw : w' = w := by
  rw [run_load] at h
  split at h
  ·cases h; rfl
  ·split at h
   ·cases h; rfl
   ·cases h
 refine ⟨hw, fun w2 hs => ?_⟩
 subst hw
 have h1 := hs a.block ha
 have hb : w2.heap[a.block]? = w'.heap[a.block]? := congrArg Prod.fst h1
 have hv := congrArg Prod.snd h1
 rw [run_load] at h ⊢
 rw [cell_congr hb]
 cases hc : w'.cell? a with
 | some x => rw [hc] at h; simp only [] at h ⊢; cases h; rfl
 | none =>
  rw [hc] at h
  simp only [] at h ⊢
  unfold World.farLoad at h ⊢
  simp only [seen] at hv
  rw [hb]
  rw [hb] at hv
  cases ho : w'.heap[a.block]? with
  | none => rw [ho] at h; simp [World.noCell, ho] at h
  | some o =>
   rw [ho] at h hv
   cases o <;> simp only [] at h hv ⊢ <;> first
    | (rw [viewLoad_congr hv]; split at h <;> rename_i q <;> (split at q <;> simp_all))
    | (simp at h)
theorem rd_load_ext {a : Addr} : Rd P Ext (load a) := by
  intro w v w' h
  have hw : w' = w := by
    rw [run_load] at h
    split at h
    · cases h; rfl
    · split at h
      · cases h; rfl
      · cases h
  refine ⟨hw, fun w2 hs => ?_⟩
  subst hw
  have hlt : a.block < w'.heap.size := by
    rcases Nat.lt_or_ge a.block w'.heap.size with h' | h'
    · exact h'
    · rw [run_load] at h
      have hn : w'.heap[a.block]? = none := by simp; omega
      simp [World.cell?, World.farLoad, World.noCell, hn] at h
  have hb := hs.2 _ hlt
  rw [run_load] at h ⊢
  rw [cell_congr hb]
  cases hc : w'.cell? a with
  | some x => rw [hc] at h; simp only [] at h ⊢; cases h; rfl
  | none =>
    rw [hc] at h
    simp only [] at h ⊢
    unfold World.farLoad at h ⊢
    rw [hb]
    cases ho : w'.heap[a.block]? with
    | none => rw [ho] at h; simp [World.noCell, ho] at h
    | some o =>
      rw [ho] at h
      cases o <;> simp only [] at h ⊢ <;> first
        | (rename_i at_ u
           have hlt2 : at_.block < w'.heap.size := by
             rcases Nat.lt_or_ge at_.block w'.heap.size with h' | h'
             · exact h'
             · exfalso
               have hn : w'.heap[at_.block]? = none := by simp; omega
               cases hq : w'.viewLoad P at_ u a (Mode.plain == .atomic) with
               | ok r => exact viewLoad_none hn u a _ r hq
               | error e => rw [hq] at h; simp at h
           rw [viewLoad_congr (hs.2 _ hlt2)]; split at h <;> rename_i q <;> (split at q <;> simp_all))
        | (simp at h)
theorem add_block (a : Addr) (n : Nat) : (a.add n).block = a.block := by unfold Addr.add; split <;> rfl
theorem rd_loadCellsFrom {a : Addr} (hl : ∀ b : Addr, b.block = a.block → Rd P Sim (load b)) : ∀ (n i : Nat) (acc : Array Value), Rd P Sim (loadCellsFrom a i n acc)
 | 0, i, acc => .pure _
 | n + 1, i, acc => by
  unfold loadCellsFrom
  exact (hl _ (add_block a i)).bind fun v => rd_loadCellsFrom hl n (i + 1) _
theorem rd_loadCells {a : Addr} (hl : ∀ b : Addr, b.block = a.block → Rd P Sim (load b)) (n : Nat) : Rd P Sim (loadCells a n) := rd_loadCellsFrom hl n 0 _
theorem rd_loadVar {a : Addr} (hl : ∀ b : Addr, b.block = a.block → Rd P Sim (load b)) (t : TypeId) : Rd P Sim (loadVar t a) := by
 unfold loadVar
 refine (rd_isAgg t).bind fun b => ?_
 split
 ·exact (rd_sizeOf t).bind fun _ => (rd_loadCells hl _).bind fun _ => .pure _
 ·exact hl a rfl
theorem rd_forIn_list {γ : Type} {l : List α} {f : α → γ → Sem (ForInStep γ)} (h : ∀ x s, Rd P Sim (f x s)) : ∀ (s : γ), Rd P Sim (forIn l s f) := by
 induction l with
 | nil => intro s; simp only [List.forIn_nil]; exact .pure _
 | cons x l ih =>
  intro s
  rw [List.forIn_cons]
  refine (h x s).bind fun r => ?_
  cases r with
  | done b => exact .pure _
  | yield b => exact ih b
theorem rd_bytesToString {x : Value} (hx : ∀ a n c, x = .slice (some a) n c → ∀ b : Addr, b.block = a.block → Rd P Sim (load b)) : Rd P Sim (Conv.bytesToString x) := by
 unfold Conv.bytesToString
 split
 ·exact .pure _
 ·rename_i a n c
  dsimp only
  refine (rd_loadCells (hx _ _ _ rfl) _).bind fun cs => ?_
  refine Rd.bind ?_ fun _ => .pure _
  rw [← Array.forIn_toList]
  refine rd_forIn_list (fun y s => ?_) _
  split
  ·exact .pure _
  ·exact ((dead_stuck _).bind _).rd
 ·exact (dead_stuck _).rd
theorem rd_len (t : Array TypeId) (ty : TypeId) (x : Value) (h : (match x with | .slice _ _ _ | .string _ => true | _ => false) = true) : Rd P Sim (Builtin.len_ t ty #[x]) := by
 unfold Builtin.len_
 cases h0 : t[0]? with
 | none => simp only [h0]; exact (dead_stuck _).rd
 | some t0 =>
  simp only [h0, List.getElem?_toArray, List.getElem?_cons_zero]
  refine (rd_underlying _).bind fun d => ?_
  cases x <;> simp at h <;> cases d <;> dsimp only <;> first
   | exact .pure _
   | exact (dead_stuck _).rd
   | (refine (rd_underlying _).bind fun d' => ?_; split <;> first | exact .pure _ | exact (dead_stuck _).rd)
theorem rd_mapM_list {γ : Type} {f : α → Sem γ} (h : ∀ x, Rd P Sim (f x)) : ∀ (l : List α), Rd P Sim (l.mapM f)
 | [] => by rw [List.mapM_nil]; exact .pure _
 | x :: l => by rw [List.mapM_cons]; exact (h x).bind fun _ => (rd_mapM_list h l).bind fun _ => .pure _
theorem Rd.map {s : Sem α} (f : α → β) (h : Rd P Sim s) : Rd P Sim (f <$> s) := by
 rw [map_eq_pure_bind]; exact h.bind fun _ => .pure _
theorem rd_build (t : TypeId) (ps : Array (Nat × Value)) : Rd P Sim (Instr.build t ps) := by
 unfold Instr.build
 refine (rd_zeroValue t).bind fun z => ?_
 dsimp only
 refine (rd_underlying t).bind fun d => ?_
 split
 ·refine Rd.bind ?_ fun pl => ?_
  ·rw [Array.mapM_eq_mapM_toList]
   exact (rd_mapM_list (fun f => (rd_sizeOf _).bind fun _ => .pure _) _).map _
  ·split
   ·exact .pure _
   ·exact (dead_stuck _).rd
 ·refine (rd_sizeOf _).bind fun s => ?_
  split
  ·exact .pure _
  ·exact (dead_stuck _).rd
 ·exact (dead_stuck _).rd
end
section
variable {P : Program} {Sim : World → World → Prop} {α β : Type}
def syn0 (P : Program) : Op → Bool
 | .move _ | .assign _ | .pick _ _ _ | .field _ _ _ | .indexAddr _ _ _ | .index _ _ _ | .slice _ _ _ _ _ | .extract _ _ | .unOp _ _ _ | .build _ _ | .nilCheck _ | .binOp _ _ _ _ _ => true
 | .fieldAddr s _ f => fieldFits P s f
 | .convert _ dst _ => match P.underlying dst with | some (.int _) => true | _ => false
 | .call c => match c.callee with | .builtin .len => c.args.size == 1 | _ => false
 | _ => false
def val0 (op : Op) (ρ : Operand → Value) : Bool :=
 match op with
 | .nilCheck x => match ρ x with | .pointer _ => true | _ => false
 | .binOp o _ x y _ => binV o (ρ x) (ρ y)
 | .convert _ _ x => match ρ x with | .int _ _ => true | _ => false
 | .call c => match c.args[0]? with | some x => (match ρ x with | .slice _ _ _ | .string _ => true | _ => false) | none => false
 | _ => true
def syn1 (P : Program) : Op → Bool
 | .load _ _ => true
 | .convert src dst _ => match P.underlying dst, P.underlying src with
  | some .string, some (.slice e) => (match P.underlying e with | some (.int .u8) => true | _ => false)
  | _, _ => false
 | _ => false
def val1 (op : Op) (ρ : Operand → Value) : Bool :=
 match op with
 | .load _ x => match ρ x with | .pointer _ => true | _ => false
 | .convert _ _ x => match ρ x with | .slice _ _ _ => true | _ => false
 | _ => true
def rdBlock (op : Op) (ρ : Operand → Value) : List Nat :=
 match op with
 | .load _ x => match ρ x with | .pointer (some a) => [a.block] | _ => []
 | .convert _ _ x => match ρ x with | .slice (some a) _ _ => [a.block] | _ => []
 | _ => []
def syn2 : Op → Bool
 | .alloc _ | .box _ _ | .buildSlice _ _ _ | .makeSlice _ _ _ => true
 | _ => false
theorem rd_value {s : Sem Value} (h : Rd P Sim s) (w : World) (n : Next) (w' : World) (hr : (do pure (Next.value (← s)) : Sem Next).run P w = .ok n w') :
  ∃ v, n = .value v ∧ w' = w ∧ ∀ w2, Sim w w2 → (do pure (Next.value (← s)) : Sem Next).run P w2 = .ok (.value v) w2 := by
 rw [Sem.run_bind] at hr
 obtain ⟨v, w1, h1, h2⟩ := andThen_ok_inv hr
 obtain ⟨rfl, h3⟩ := h w v w1 h1
 simp at h2
 obtain ⟨rfl, rfl⟩ := h2
 exact ⟨v, rfl, rfl, fun w2 hw => by rw [Sem.run_bind, h3 w2 hw]; simp⟩
theorem free0 (o : Oper) (ρ : Operand → Value) (hs : syn0 P o.op = true) (hv : val0 o.op ρ = true) (w : World) (n : Next) (w' : World) (hr : (execOp ρ o).run P w = .ok n w') :
  ∃ v, n = .value v ∧ w' = w ∧ ∀ w2, (execOp ρ o).run P w2 = .ok (.value v) w2 := by
 suffices H : ∃ v, n = .value v ∧ w' = w ∧ ∀ w2, All w w2 → (execOp ρ o).run P w2 = .ok (.value v) w2 by
  obtain ⟨v, h1, h2, h3⟩ := H; exact ⟨v, h1, h2, fun w2 => h3 w2 trivial⟩
 obtain ⟨dst, op, type, pos, after, guard⟩ := o
 simp only at hs hv
 cases op <;> simp only [syn0, Bool.false_eq_true] at hs <;> simp only [execOp] at hr ⊢
 case move x => simp at hr; obtain ⟨rfl, rfl⟩ := hr; exact ⟨_, rfl, rfl, fun _ _ => by simp⟩
 case assign x => simp at hr; obtain ⟨rfl, rfl⟩ := hr; exact ⟨_, rfl, rfl, fun _ _ => by simp⟩
 case pick c a b =>
  rw [Sem.run_bind] at hr
  obtain ⟨t, w1, h1, h2⟩ := andThen_ok_inv hr
  obtain ⟨rfl, h3⟩ := rd_asBool (P := P) (Sim := All) (ρ c) w t w1 h1
  simp at h2
  obtain ⟨rfl, rfl⟩ := h2
  exact ⟨_, rfl, rfl, fun w2 hw => by rw [Sem.run_bind, h3 w2 hw]; simp⟩
 case build t ps => exact rd_value (rd_build _ _) w n w' hr
 case nilCheck x =>
  simp only [val0] at hv
  cases hx : ρ x <;> rw [hx] at hv <;> simp only [Bool.false_eq_true] at hv
  rename_i a
  rw [hx] at hr
  cases a with
  | none => exact absurd hr (dead_rtp _ w n w')
  | some a => simp only [] at hr ⊢; simp at hr; obtain ⟨rfl, rfl⟩ := hr; exact ⟨_, rfl, rfl, fun _ _ => by simp⟩
 case binOp op t x y ty => exact rd_value ((rd_eqGuard _ _ _ _ _ _ hv).bind fun _ => rd_binOp _ _ _ _ hv) w n w' hr
 case unOp op t x => exact rd_value (rd_unary _ _) w n w' hr
 case convert src dst' x =>
  simp only [val0] at hv
  cases hx : ρ x <;> rw [hx] at hv <;> simp only [Bool.false_eq_true] at hv
  rename_i k m
  rw [hx] at hr
  have : Rd P All (convert src dst' (.int k m)) := by
   cases hu : P.underlying dst' with
   | none => simp [hu] at hs
   | some d =>
    cases d <;> simp only [hu, Bool.false_eq_true] at hs
    rename_i k'
    intro w a w' h
    unfold convert at h ⊢
    rw [Sem.run_bind] at h
    obtain ⟨ds, w1, h1, h2⟩ := andThen_ok_inv h
    obtain ⟨rfl, h3⟩ := rd_underlying (P := P) (Sim := All) src w ds w1 h1
    have hu2 : ∀ w, (underlying dst').run P w = .ok (.int k') w := fun w => by simp [underlying, program, Sem.run, hu]
    rw [Sem.run_bind, hu2] at h2
    simp only [Result.andThen_ok] at h2
    have hc : ∀ w, (Conv.intToInt k' m).run P w = .ok (.int k' (k'.wrap m)) w := fun w => by simp [Conv.intToInt]
    cases ds <;> simp only [hc] at h2 <;> (cases h2; exact ⟨rfl, fun w2 hw => by rw [Sem.run_bind, h3 w2 hw]; simp [hu2, hc]⟩)
  exact rd_value this w n w' hr
 case slice t x lo hi mx => exact rd_value (rd_sliceAt _ _ _ _ _) w n w' hr
 case fieldAddr s x f => exact rd_value (rd_fieldAt _ _ _ hs) w n w' hr
 case field t x f => exact rd_value (rd_field _ _ _) w n w' hr
 case indexAddr t x i => exact rd_value (rd_indexAt _ _ _) w n w' hr
 case index t x i => exact rd_value (rd_index _ _ _) w n w' hr
 case extract t i => exact rd_value (rd_extract _ _) w n w' hr
 case call c =>
  obtain ⟨callee, args, tys⟩ := c
  cases callee <;> simp only [Bool.false_eq_true] at hs
  rename_i b
  cases b <;> simp only [Bool.false_eq_true, beq_iff_eq] at hs
  obtain ⟨l⟩ := args
  match l, hs with
  | [x], _ =>
   simp only [val0, List.getElem?_toArray, List.getElem?_cons_zero] at hv
   simp only [resolve, invoke, builtin, List.map_toArray, List.map_cons, List.map_nil] at hr ⊢
   obtain ⟨v, h1, h2, h3⟩ := rd_value (P := P) (Sim := All) (rd_len tys type (ρ x) hv) w n w' (by simpa using hr)
   exact ⟨v, h1, h2, fun w2 hw => by simpa using h3 w2 hw⟩
theorem free1 (o : Oper) (ρ : Operand → Value) (hl : ∀ a : Addr, a.block ∈ rdBlock o.op ρ → Rd P Sim (load a)) (hs : syn1 P o.op = true) (hv : val1 o.op ρ = true) (w : World) (n : Next) (w' : World) (hr : (execOp ρ o).run P w = .ok n w') :
  ∃ v, n = .value v ∧ w' = w ∧ ∀ w2, Sim w w2 → (execOp ρ o).run P w2 = .ok (.value v) w2 := by
 obtain ⟨dst, op, type, pos, after, guard⟩ := o
 simp only at hs hv hl
 cases op <;> simp only [syn1, Bool.false_eq_true] at hs <;> simp only [execOp] at hr ⊢
 case load t x =>
  refine rd_value ?_ w n w' hr
  unfold Instr.loadAt
  cases hx : ρ x <;> simp only [val1, hx, Bool.false_eq_true] at hv
  rename_i a
  cases a with
  | none => exact ((dead_stuck _).bind _).rd
  | some a =>
   show Rd P Sim (loadVar t a)
   exact rd_loadVar (fun c hc => hl c (by simp [rdBlock, hx, hc])) t
 case convert src dst' x =>
  refine rd_value ?_ w n w' hr
  cases hx : ρ x <;> simp only [val1, hx, Bool.false_eq_true] at hv
  rename_i a m c
  split at hs
  ·rename_i e hu1 hu2
   split at hs
   ·rename_i hu3
    have r1 : ∀ w, (underlying src).run P w = .ok (.slice e) w := fun w => by simp [underlying, program, Sem.run, hu2]
    have r2 : ∀ w, (underlying dst').run P w = .ok .string w := fun w => by simp [underlying, program, Sem.run, hu1]
    have r3 : ∀ w, (underlying e).run P w = .ok (.int .u8) w := fun w => by simp [underlying, program, Sem.run, hu3]
    have heq : ∀ w, (convert src dst' (.slice a m c)).run P w = (Conv.bytesToString (.slice a m c)).run P w := fun w => by
     unfold convert
     rw [Sem.run_bind, r1]
     simp only [Result.andThen_ok]
     rw [Sem.run_bind, r2]
     simp only [Result.andThen_ok]
     rw [Sem.run_bind, r3]
     simp only [Result.andThen_ok]
    have hb : Rd P Sim (Conv.bytesToString (.slice a m c)) := rd_bytesToString fun a' n' c' he b hbk => hl b (by cases he; simp [rdBlock, hx, hbk])
    intro w v w' h
    rw [heq] at h
    obtain ⟨h1, h2⟩ := hb w v w' h
    exact ⟨h1, fun w2 hw => by rw [heq]; exact h2 w2 hw⟩
   ·cases hs
  ·cases hs
def ExtS (P : Program) (s : Sem α) : Prop := ∀ w a w', s.run P w = .ok a w' → Ext w w'
theorem Rd.ext {s : Sem α} (h : Rd P All s) : ExtS P s := fun w a w' hr => by rw [(h w a w' hr).1]; exact likes_ext.refl w
theorem ExtS.bind {s : Sem α} {f : α → Sem β} (hs : ExtS P s) (hf : ∀ a, ExtS P (f a)) : ExtS P (s >>= f) := fun w b w' h => by
 rw [Sem.run_bind] at h
 obtain ⟨a, w1, h1, h2⟩ := andThen_ok_inv h
 exact likes_ext.trans _ _ _ (hs w a w1 h1) (hf a w1 b w' h2)
theorem ext_newObj (o : Obj) : ExtS P (newObj o) := fun w a w' h => by
 have h' : (Result.ok w.heap.size { w with heap := w.heap.push o } : Result Nat) = .ok a w' := h
 cases h'
 refine ⟨by simp, fun k hk => ?_⟩
 simp only [Array.getElem?_push]
 rw [if_neg (by omega)]
theorem ext_newRow (t : TypeId) (c : Array Value) : ExtS P (newRow t c) := (ext_newObj _).bind fun _ => (Rd.pure _).ext
theorem ext_askRoom (n : Nat) : ExtS P (askRoom n) := fun w a w' h => by
 unfold askRoom at h
 split at h
 ·simp [mark, Sem.run] at h; obtain ⟨rfl, rfl⟩ := h; exact likes_ext.refl _
 ·simp at h; obtain ⟨rfl, rfl⟩ := h; exact likes_ext.refl _
theorem ext_value {s : Sem Value} (h : ExtS P s) (w : World) (n : Next) (w' : World) (hr : (do pure (Next.value (← s)) : Sem Next).run P w = .ok n w') : (∃ v, n = .value v) ∧ Ext w w' := by
 rw [Sem.run_bind] at hr
 obtain ⟨v, w1, h1, h2⟩ := andThen_ok_inv hr
 simp at h2
 obtain ⟨rfl, rfl⟩ := h2
 exact ⟨⟨v, rfl⟩, h w v w1 h1⟩
theorem ext2 (o : Oper) (ρ : Operand → Value) (hs : syn2 o.op = true) (w : World) (n : Next) (w' : World) (hr : (execOp ρ o).run P w = .ok n w') : (∃ v, n = .value v) ∧ Ext w w' := by
 obtain ⟨dst, op, type, pos, after, guard⟩ := o
 simp only at hs
 cases op <;> simp only [syn2, Bool.false_eq_true] at hs <;> simp only [execOp] at hr
 case alloc e =>
  refine ext_value ?_ w n w' hr
  unfold Instr.alloc
  exact (rd_zeroValue _).ext.bind fun z => (ext_newRow _ _).bind fun _ => (Rd.pure _).ext
 case box e x =>
  refine ext_value ?_ w n w' hr
  exact (ext_newRow _ _).bind fun _ => (Rd.pure _).ext
 case buildSlice t len ps =>
  refine ext_value ?_ w n w' hr
  unfold Instr.buildSlice
  refine (rd_underlying _).ext.bind fun d => ?_
  split
  ·refine (rd_sizeOf _).ext.bind fun s => ?_
   dsimp only
   split
   ·exact ((dead_unsup _).bind _).rd.ext
   ·split <;> (repeat' first | exact (dead_stuck _).rd.ext | exact (Rd.pure _).ext | exact (rd_zeroValue _).ext | exact ext_newRow _ _ | refine ExtS.bind ?_ (fun _ => ?_) | split)
  ·exact (dead_stuck _).rd.ext
 case makeSlice t len cap =>
  refine ext_value ?_ w n w' hr
  unfold Instr.makeSlice
  refine (rd_underlying _).ext.bind fun d => ?_
  split
  ·refine (rd_asInt _).ext.bind fun l => (rd_asInt _).ext.bind fun c => (rd_typeInfo _).ext.bind fun i => ?_
   dsimp only
   split
   ·repeat' first | exact ((dead_rtp _).bind _).rd.ext | exact (dead_rtp _).rd.ext | exact (Dead.after fun _ => (dead_rtp _).bind _).rd.ext | exact (Dead.after fun _ => (dead_rtp _)).rd.ext | split
   ·refine (ext_askRoom _).bind fun _ => (rd_sizeOf _).ext.bind fun s => ?_
    repeat' first | exact (dead_stuck _).rd.ext | exact (Rd.pure _).ext | exact (rd_zeroValue _).ext | exact ext_newRow _ _ | refine ExtS.bind ?_ (fun _ => ?_) | split
  ·exact (dead_stuck _).rd.ext
end
section
variable {P : Program} {ops : Array Oper} {Sim : World → World → Prop}
def onN (R : Act → World → Prop) : Exit → Act → World → Prop
 | .normal, a, w => R a w
 | _, _, _ => False
def synC (P : Program) (m : Bool) (o : Op) (c : Nat) : Bool :=
 match c with
 | 0 => syn0 P o
 | 1 => syn1 P o
 | 2 => m && syn2 o
 | 4 => syn1 P o
 | _ => true
def valC (o : Op) (c : Nat) (ρ : Operand → Value) : Bool :=
 match c with
 | 0 => val0 o ρ
 | 1 => val1 o ρ
 | 4 => val1 o ρ
 | _ => true
def chk (ops : Array Oper) (l : List (Oper × Nat)) (a : Act) : Bool :=
 l.all fun x => !Region.wanted x.1 (yielded ops a.tmps) || valC x.1.op x.2 a.eval
def rb (ops : Array Oper) (l : List (Oper × Nat)) (a : Act) : List Nat :=
 l.flatMap fun x => if x.2 == 1 && Region.wanted x.1 (yielded ops a.tmps) then rdBlock x.1.op a.eval else []
def needs : Op → Bool
 | .nilCheck _ | .binOp _ _ _ _ _ | .convert _ _ _ | .call _ | .load _ _ => true
 | _ => false
def stays (ops : Array Oper) : List (Oper × Nat) → Bool
 | [] => true
 | x :: r => ((decide (2 ≤ x.2) && x.2 != 4) || !needs x.1.op || ((x :: r).all fun y => match y.1.dst with | some d => !(x.1.looksAt ops).contains d | none => true)) && stays ops r
theorem end_act {R : Act → World → Prop} : ∀ (l : List Oper) (a : Act) (w : World), wpList P ops (onN R) l a w →
  ∃ a' w', R a' w' ∧ ∀ t : Nat, (∀ o ∈ l, o.dst ≠ some t) → a'.tmps[t]? = a.tmps[t]?
 | [], a, w, h => ⟨a, w, h, fun _ _ => rfl⟩
 | o :: l, a, w, h => by
  have put : ∀ (b : Act) (v : Value), (∀ t : Nat, b.tmps[t]? = a.tmps[t]?) → ∀ t : Nat, (∀ q ∈ o :: l, q.dst ≠ some t) → (b.put o.dst v).tmps[t]? = a.tmps[t]? := by
   intro b v hb t ht
   have := ht o (by simp)
   cases hd : o.dst with
   | none => simpa [Act.put] using hb t
   | some d =>
    have hne : d ≠ t := fun e => this (by rw [hd, e])
    simpa [Act.put, Array.getElem?_setIfInBounds_ne hne] using hb t
  have go : ∀ (b : Act) (v : Value) (w1 : World), (∀ t : Nat, b.tmps[t]? = a.tmps[t]?) → wpList P ops (onN R) l (b.put o.dst v) w1 → ∃ a' w', R a' w' ∧ ∀ t : Nat, (∀ q ∈ o :: l, q.dst ≠ some t) → a'.tmps[t]? = a.tmps[t]? := by
   intro b v w1 hb hk
   obtain ⟨a', w', h1, h2⟩ := end_act l _ _ hk
   exact ⟨a', w', h1, fun t ht => (h2 t fun q hq => ht q (by simp [hq])).trans (put b v hb t ht)⟩
  unfold wpList at h
  split at h
  ·rcases h with h | ⟨_, _, _, hf⟩
   ·unfold Oper.wp at h
    generalize (execOp a.eval o).run P w = r at *
    cases r with
    | ok n w1 =>
     cases n <;> simp only [Oper.upon] at h
     case value u => exact go a u w1 (fun _ => rfl) h
     case skip => exact go a _ w1 (fun _ => rfl) h
     case defer d => exact go { a with defers := d :: a.defers } _ w1 (fun _ => rfl) h
     case enter f args =>
      obtain ⟨e, w'', _, hR, _⟩ := h []
      cases e with
      | returned u => exact go a u w'' (fun _ => rfl) hR
      | panicked c => exact False.elim hR
      | outgrown => obtain ⟨_, _, hf⟩ := hR; exact False.elim hf
     case row row args =>
      obtain ⟨u, w'', hR, _⟩ := h default []
      exact go a u w'' (fun _ => rfl) hR
    | halt x w' => cases x <;> simp only [Oper.upon] at h <;> exact False.elim h
   ·exact hf.elim
  ·exact go a _ w (fun _ => rfl) h
theorem eval_agree {a a' : Act} {o : Oper} (h : ∀ t ∈ o.looksAt ops, a'.tmps[t]? = a.tmps[t]?) : (∀ x ∈ o.op.operands, a'.eval x = a.eval x) ∧ Region.wanted o (yielded ops a'.tmps) = Region.wanted o (yielded ops a.tmps) := by
 constructor
 ·intro x hx
  cases x with
  | tmp t =>
   have := h t (List.mem_append_left _ (List.mem_filterMap.2 ⟨.tmp t, by simpa using hx, rfl⟩))
   simp [Act.eval, this]
  | _ => rfl
 ·unfold Region.wanted
  cases hg : o.guard with
  | none => rfl
  | some gw =>
   obtain ⟨g, want⟩ := gw
   have hy : yielded ops a'.tmps g = yielded ops a.tmps g := by
    unfold yielded
    cases ht : (ops[g]?).bind (·.dst) with
    | none => rfl
    | some t =>
     have := h t (by simp [Oper.looksAt, hg, ht])
     simp [this]
   simp only [hy]
theorem val0_congr {op : Op} {ρ ρ' : Operand → Value} (h : ∀ x ∈ op.operands, ρ x = ρ' x) : val0 op ρ = val0 op ρ' := by
 cases op <;> simp only [val0]
 case nilCheck x => rw [h x (by simp [Op.operands])]
 case binOp o t x y ty => rw [h x (by simp [Op.operands]), h y (by simp [Op.operands])]
 case convert s d x => rw [h x (by simp [Op.operands])]
 case call c =>
  cases hc : c.args[0]? with
  | none => rfl
  | some x =>
   have : x ∈ c.args := by
    obtain ⟨hlt, he⟩ := Array.getElem?_eq_some_iff.1 hc
    rw [← he]; exact Array.getElem_mem hlt
   simp only []
   rw [h x (by simp [Op.operands, Call.operands, this])]
theorem val1_congr {op : Op} {ρ ρ' : Operand → Value} (h : ∀ x ∈ op.operands, ρ x = ρ' x) : val1 op ρ = val1 op ρ' := by
 cases op <;> simp only [val1]
 case load t x => rw [h x (by simp [Op.operands])]
 case convert s d x => rw [h x (by simp [Op.operands])]
theorem rdBlock_congr {op : Op} {ρ ρ' : Operand → Value} (h : ∀ x ∈ op.operands, ρ x = ρ' x) : rdBlock op ρ = rdBlock op ρ' := by
 cases op <;> simp only [rdBlock]
 case load t x => rw [h x (by simp [Op.operands])]
 case convert s d x => rw [h x (by simp [Op.operands])]
theorem chk_head {R : Act → World → Prop} {x : Oper × Nat} {r : List (Oper × Nat)} {L : List Nat} (hL : Bool) {a : Act} {w : World} (hx : x.2 ≤ 1 ∨ x.2 = 4)
  (hst : stays ops (x :: r) = true) (h : wpList P ops (onN fun a' w' => (chk ops (x :: r) a' = true ∧ (hL = true → ∀ b ∈ rb ops (x :: r) a', b ∈ L)) ∧ R a' w') (x.1 :: r.map Prod.fst) a w) :
  Region.wanted x.1 (yielded ops a.tmps) = true → valC x.1.op x.2 a.eval = true ∧ (hL = true → x.2 = 1 → ∀ b ∈ rdBlock x.1.op a.eval, b ∈ L) := by
 intro hw
 by_cases hnd : needs x.1.op = false
 ·have n0 : ∀ ρ, val0 x.1.op ρ = true := fun ρ => by
   cases ho : x.1.op <;> rw [ho] at hnd <;> simp only [needs, reduceCtorEq] at hnd <;> rfl
  have n1 : ∀ ρ, val1 x.1.op ρ = true := fun ρ => by
   cases ho : x.1.op <;> rw [ho] at hnd <;> simp only [needs, reduceCtorEq] at hnd <;> rfl
  have n2 : ∀ ρ, rdBlock x.1.op ρ = [] := fun ρ => by
   cases ho : x.1.op <;> rw [ho] at hnd <;> simp only [needs, reduceCtorEq] at hnd <;> rfl
  refine ⟨?_, fun _ _ b hb => by rw [n2] at hb; simp at hb⟩
  rcases (show x.2 = 0 ∨ x.2 = 1 ∨ x.2 = 4 by omega) with hc | hc | hc
  ·rw [hc]; exact n0 _
  ·rw [hc]; exact n1 _
  ·rw [hc]; exact n1 _
 have hnd' : needs x.1.op = true := by simpa using hnd
 obtain ⟨a', w', ⟨⟨h1, h2⟩, _⟩, h3⟩ := end_act _ _ _ h
 simp only [stays, Bool.and_eq_true, Bool.or_eq_true, decide_eq_true_eq, hnd', Bool.not_true, Bool.false_eq_true, or_false, bne_iff_ne, ne_eq] at hst
 have hall := hst.1.resolve_left (by omega)
 rw [List.all_eq_true] at hall
 have agree : ∀ t ∈ x.1.looksAt ops, a'.tmps[t]? = a.tmps[t]? := by
  intro t ht
  refine h3 t fun q hq hd => ?_
  have : ∃ y ∈ x :: r, y.1 = q := by
   rcases List.mem_cons.1 hq with rfl | hq
   ·exact ⟨x, by simp, rfl⟩
   ·obtain ⟨y, hy, rfl⟩ := List.mem_map.1 hq
    exact ⟨y, by simp [hy], rfl⟩
  obtain ⟨y, hy, rfl⟩ := this
  have := hall y hy
  rw [hd] at this
  simp at this
  exact this ht
 obtain ⟨ev, wn⟩ := eval_agree agree
 simp only [chk, List.all_cons, Bool.and_eq_true, Bool.or_eq_true, Bool.not_eq_true'] at h1
 have hv := h1.1.resolve_left (by rw [wn, hw]; simp)
 constructor
 ·rcases (show x.2 = 0 ∨ x.2 = 1 ∨ x.2 = 4 by omega) with hc | hc | hc
  ·rw [hc] at hv ⊢; simp only [valC] at hv ⊢; rw [← val0_congr ev]; exact hv
  ·rw [hc] at hv ⊢; simp only [valC] at hv ⊢; rw [← val1_congr ev]; exact hv
  ·rw [hc] at hv ⊢; simp only [valC] at hv ⊢; rw [← val1_congr ev]; exact hv
 ·intro hl hc b hb
  refine h2 hl b ?_
  simp only [rb, List.flatMap_cons, List.mem_append]
  left
  rw [hc, wn, hw]
  simp only [beq_self_eq_true, Bool.and_self, if_true]
  rw [rdBlock_congr ev]; exact hb
theorem wp_to_yields {o : Oper} {c : Nat} (hc : c ≤ 1) {a : Act} {w : World} {K : Act → World → Prop} {R : Exit → Act → World → Prop} (hR : ∀ ch a w, ¬ R (.panic ch) a w) (hO : ¬ LetsOut R)
  (hsy : synC P true o.op c = true) (hld : c = 1 → ∀ b : Addr, b.block ∈ rdBlock o.op a.eval → Rd P Sim (load b)) (hv : Region.wanted o (yielded ops a.tmps) = true → valC o.op c a.eval = true)
  (h : if Region.wanted o (yielded ops a.tmps) then o.wp P a w K R ∨ (o.asks P a w ∧ LetsOut R) else K (a.put o.dst undef) w) :
  ∃ v, YieldsIf P ops (if c = 0 then fun _ => True else Sim w) o v a ∧ K (a.put o.dst v) w := by
 split at h
 ·rename_i hw
  have hv' := hv hw
  rcases h with h | ⟨_, h⟩
  ·unfold Oper.wp at h
   cases hr : (execOp a.eval o).run P w with
   | halt x w1 => rw [hr] at h; cases x <;> simp only [Oper.upon] at h <;> exact absurd h (hR _ _ _)
   | ok n w1 =>
    match c, hc with
    | 0, _ =>
     obtain ⟨v, rfl, rfl, h3⟩ := free0 o a.eval hsy hv' w n w1 hr
     rw [hr] at h
     exact ⟨v, .inl ⟨hw, fun w2 _ => h3 w2⟩, h⟩
    | 1, _ =>
     obtain ⟨v, rfl, rfl, h3⟩ := free1 (Sim := Sim) o a.eval (hld rfl) hsy hv' w n w1 hr
     rw [hr] at h
     exact ⟨v, .inl ⟨hw, fun w2 hw2 => h3 w2 (by simpa using hw2)⟩, h⟩
  ·exact absurd h hO
 ·rename_i hw
  exact ⟨undef, .inr ⟨by simpa using hw, rfl⟩, h⟩
theorem rd_load_eq {a : Addr} : Rd P (fun w w' => w' = w) (load a) := by
 intro w v w' h
 have hw : w' = w := by
  rw [run_load] at h
  split at h
  ·cases h; rfl
  ·split at h
   ·cases h; rfl
   ·cases h
 refine ⟨hw, fun w2 hs => ?_⟩
 rw [hs]
 rw [hw] at h
 exact h
theorem wp_to_yields4 {o : Oper} {a : Act} {w : World} {K : Act → World → Prop} {R : Exit → Act → World → Prop} (hR : ∀ ch a w, ¬ R (.panic ch) a w) (hO : ¬ LetsOut R)
  (hsy : syn1 P o.op = true) (hv : Region.wanted o (yielded ops a.tmps) = true → val1 o.op a.eval = true)
  (h : if Region.wanted o (yielded ops a.tmps) then o.wp P a w K R ∨ (o.asks P a w ∧ LetsOut R) else K (a.put o.dst undef) w) :
  ∃ v, YieldsIf P ops (fun w' => w' = w) o v a ∧ K (a.put o.dst v) w := by
 obtain ⟨v, h1, h2⟩ := wp_to_yields (P := P) (ops := ops) (Sim := fun w w' => w' = w) (c := 1) (by decide) hR hO hsy (fun _ b _ => rd_load_eq) hv h
 exact ⟨v, by simpa using h1, h2⟩
theorem letsOut_onN {R : Act → World → Prop} : ¬ LetsOut (onN R) := fun ⟨_, _, h⟩ => h
def idx : Nat → List (Oper × Nat) → List (Nat × Nat)
 | _, [] => []
 | k, x :: r => (k, x.2) :: idx (k + 1) r
theorem wp_to_stp {k : Nat} {o : Oper} (ho : ops[k]? = some o) {a : Act} {w : World} {K : Act → World → Prop} {R : Act → World → Prop}
  (h : if Region.wanted o (yielded ops a.tmps) then o.wp P a w K (onN R) ∨ (o.asks P a w ∧ LetsOut (onN R)) else K (a.put o.dst undef) w) : stp P ops k K a w := by
 unfold stp
 rw [ho]
 simp only []
 split
 ·rename_i hw
  rw [if_pos hw] at h
  rcases h with h | ⟨_, h⟩
  ·unfold Oper.wp at *
   generalize (execOp a.eval o).run P w = r at *
   cases r with
   | ok n w' =>
    cases n <;> simp only [Oper.upon] at h ⊢ <;> first
     | exact h
     | exact Calls.mono h (fun e w'' he => by cases e <;> first | exact he | (obtain ⟨_, _, hf⟩ := he; exact False.elim hf))
   | halt x w' => cases x <;> simp only [Oper.upon] at h ⊢ <;> exact False.elim h
  ·exact absurd h letsOut_onN
 ·rename_i hw
  rw [if_neg hw] at h
  exact h
theorem sq_last (m : Bool) (hL : Bool) (L : List Nat) (hm : m = true → Sim = Ext) (hld : ∀ b : Addr, (hL = true → b.block ∈ L) → Rd P Sim (load b)) {R : Act → World → Prop} : ∀ (l : List (Oper × Nat)) (k : Nat) (a : Act) (w : World),
  (∀ j, (l.map Prod.fst)[j]? = ops[k + j]? ∨ l.length ≤ j) → (l.all fun x => synC P m x.1.op x.2) = true → stays ops l = true →
  wpList P ops (onN fun a' w' => (chk ops l a' = true ∧ (hL = true → ∀ b ∈ rb ops l a', b ∈ L)) ∧ R a' w') (l.map Prod.fst) a w →
  sq P ops Sim (idx k l) R a w
 | [], k, a, w, _, _, _, h => h.2
 | x :: r, k, a, w, hops, hsy, hst, h => by
  have ho : ops[k]? = some x.1 := by
   rcases hops 0 with h0 | h0
   ·simpa using h0.symm
   ·simp at h0
  have hops' : ∀ j, (r.map Prod.fst)[j]? = ops[k + 1 + j]? ∨ r.length ≤ j := fun j => by
   rcases hops (j + 1) with h0 | h0
   ·left; simpa [Nat.add_assoc, Nat.add_comm 1 j] using h0
   ·right; simp at h0; omega
  rw [List.all_cons, Bool.and_eq_true] at hsy
  have hst' : stays ops r = true := by
   simp only [stays, Bool.and_eq_true] at hst; exact hst.2
  have weaken : ∀ a' w', wpList P ops (onN fun a' w' => (chk ops (x :: r) a' = true ∧ (hL = true → ∀ b ∈ rb ops (x :: r) a', b ∈ L)) ∧ R a' w') (r.map Prod.fst) a' w' →
    wpList P ops (onN fun a' w' => (chk ops r a' = true ∧ (hL = true → ∀ b ∈ rb ops r a', b ∈ L)) ∧ R a' w') (r.map Prod.fst) a' w' := by
   intro a' w'
   have mono : ∀ (Q Q' : Act → World → Prop) (hq : ∀ a w, Q a w → Q' a w) (l : List Oper) (a : Act) (w : World), wpList P ops (onN Q) l a w → wpList P ops (onN Q') l a w := by
    intro Q Q' hq l
    induction l with
    | nil => intro a w h; exact hq _ _ h
    | cons o l ih =>
     intro a w h
     unfold wpList at h ⊢
     split
     ·rename_i hw
      rw [if_pos hw] at h
      rcases h with h | ⟨_, h⟩
      ·left
       unfold Oper.wp at *
       generalize (execOp a.eval o).run P w = rr at *
       cases rr with
       | ok n w' =>
        cases n <;> simp only [Oper.upon] at h ⊢ <;> first
         | exact ih _ _ h
         | exact Calls.mono h (fun e w'' he => by cases e <;> first | exact ih _ _ he | exact he | (obtain ⟨_, _, hf⟩ := he; exact False.elim hf))
         | exact Rows.mono h (fun _ _ he => ih _ _ he)
       | halt xx w' => cases xx <;> simp only [Oper.upon] at h ⊢ <;> exact False.elim h
      ·exact absurd h letsOut_onN
     ·rename_i hw
      rw [if_neg hw] at h
      exact ih _ _ h
   refine mono _ _ (fun a w hq => ?_) _ _ _
   obtain ⟨⟨h1, h2⟩, h3⟩ := hq
   refine ⟨⟨?_, fun hl b hb => h2 hl b ?_⟩, h3⟩
   ·simp only [chk, List.all_cons, Bool.and_eq_true] at h1 ⊢; exact h1.2
   ·simp only [rb, List.flatMap_cons, List.mem_append] at hb ⊢; exact .inr hb
  have rest : ∀ a' w', wpList P ops (onN fun a' w' => (chk ops (x :: r) a' = true ∧ (hL = true → ∀ b ∈ rb ops (x :: r) a', b ∈ L)) ∧ R a' w') (r.map Prod.fst) a' w' → sq P ops Sim (idx (k + 1) r) R a' w' := fun a' w' hk =>
   sq_last m hL L hm hld r (k + 1) a' w' hops' hsy.2 hst' (weaken a' w' hk)
  have hhead := h
  simp only [List.map_cons, wpList] at h
  show itm P ops Sim (k, x.2) (sq P ops Sim (idx (k + 1) r) R) a w
  by_cases hc : x.2 ≤ 1
  ·have hck := chk_head (P := P) (L := L) hL (.inl hc) hst hhead
   by_cases hw : Region.wanted x.1 (yielded ops a.tmps) = true
   ·obtain ⟨v, hy, hk⟩ := wp_to_yields (P := P) (Sim := Sim) hc (fun ch a w hf => hf) letsOut_onN (by
      obtain ⟨o, c⟩ := x
      simp only at hc hsy ⊢
      match c, hc with
      | 0, _ => exact hsy.1
      | 1, _ => exact hsy.1)
     (fun h1 b hb => hld b fun hl => (hck hw).2 hl h1 _ hb) (fun _ => (hck hw).1) h
    exact free_mk (x := (k, x.2)) hc ho hy (rest _ _ hk)
   ·rw [if_neg hw] at h
    exact free_mk (x := (k, x.2)) hc ho (.inr ⟨by simpa using hw, rfl⟩) (rest _ _ h)
  ·by_cases h4 : x.2 = 4
   ·have hck := chk_head (P := P) (L := L) hL (.inr h4) hst hhead
    have hs4 := hsy.1
    rw [h4] at hs4
    obtain ⟨v, hy, hk⟩ := wp_to_yields4 (P := P) (fun ch a w hf => hf) letsOut_onN hs4 (fun hw => by have := (hck hw).1; rw [h4] at this; exact this) h
    show itm P ops Sim (k, x.2) _ a w
    rw [h4]
    exact ⟨x.1, v, ho, hy, rest _ _ hk⟩
   have hst2 := wp_to_stp ho h
   rcases (show x.2 = 2 ∨ (x.2 = 3 ∨ 5 ≤ x.2) by omega) with h2 | h3
   ·rw [itm2 (x := (k, x.2)) h2]
    have hs2 := hsy.1
    rw [h2] at hs2
    simp only [synC, Bool.and_eq_true] at hs2
    have hse := hm hs2.1
    subst hse
    unfold stp at hst2 ⊢
    rw [ho] at hst2 ⊢
    simp only [] at hst2 ⊢
    split
    ·rename_i hw
     rw [if_pos hw] at hst2
     unfold Oper.wp at *
     cases hr : (execOp a.eval x.1).run P w with
     | halt xx w1 => rw [hr] at hst2; cases xx <;> simp only [Oper.upon] at hst2 <;> exact False.elim hst2
     | ok n w1 =>
      obtain ⟨⟨v, rfl⟩, hext⟩ := ext2 x.1 a.eval hs2.2 w n w1 hr
      rw [hr] at hst2
      exact ⟨hext, rest _ _ hst2⟩
    ·rename_i hw
     rw [if_neg hw] at hst2
     exact ⟨likes_ext.refl w, rest _ _ hst2⟩
   ·rw [itm3 (x := (k, x.2)) h3]
    exact stp_mono (fun a w hk => rest a w hk) hst2
theorem idx_zip : ∀ (l : List Oper) (cls : List Nat) (k : Nat), cls.length = l.length → idx k (l.zip cls) = (cls.zipIdx k).map fun x => (x.2, x.1)
 | [], [], _, _ => rfl
 | o :: l, c :: cls, k, h => by
  simp only [List.zip_cons_cons, idx, List.zipIdx_cons, List.map_cons]
  rw [idx_zip l cls (k + 1) (by simpa using h)]
 | [], _ :: _, _, h => by simp at h
 | _ :: _, [], _, h => by simp at h
theorem zip_fst : ∀ (l : List Oper) (cls : List Nat), cls.length = l.length → (l.zip cls).map Prod.fst = l
 | [], [], _ => rfl
 | o :: l, c :: cls, h => by simp only [List.zip_cons_cons, List.map_cons]; rw [zip_fst l cls (by simpa using h)]
 | [], _ :: _, h => by simp at h
 | _ :: _, [], h => by simp at h
def ok1 (P : Program) (l : List Oper) (cls ms : List Nat) : Bool :=
 decide (cls.length = l.length) && lowB l.toArray && masksOk l.toArray ms && pairsOk false l.toArray ms (cls.zipIdx.map fun x => (x.2, x.1)) && ((l.zip cls).all fun x => synC P true x.1.op x.2) && stays l.toArray (l.zip cls) && P.follows .mixedOrders
theorem region1 {id : Nat} {l : List Oper} {Q : Exit → Act → World → Prop} {a : Act} {w : World} (cls ms : List Nat) (hok : ok1 P l cls ms = true)
  (h : ∀ Q' : Exit → Act → World → Prop, (∀ a' w', chk l.toArray (l.zip cls) a' = true ∧ Q .normal a' w' → Q' .normal a' w') → wpList P l.toArray Q' l a { w with drawn := w.drawn + 1 }) :
  (Code.region id l.toArray true).wp P Q a w := by
 simp only [ok1, Bool.and_eq_true, decide_eq_true_eq] at hok
 obtain ⟨⟨⟨⟨⟨⟨h1, h2⟩, hms⟩, h3⟩, h4⟩, h5⟩, h6⟩ := hok
 refine wp_region_sq likes_ext cls ms h6 (by simpa using h1) h2 hms h3 ?_
 rw [← idx_zip l cls 0 h1]
 refine sq_last true false [] (fun _ => rfl) (fun b _ => rd_load_ext) (l.zip cls) 0 a _ (fun j => ?_) h4 h5 ?_
 ·left; rw [zip_fst l cls h1]; simp
 ·rw [zip_fst l cls h1]
  exact h _ (fun a' w' hk => ⟨⟨hk.1, fun hf => by cases hf⟩, hk.2⟩)
end
section
variable {P : Program} {ops : Array Oper}
theorem wpList_onN_mono {Q Q' : Act → World → Prop} (hq : ∀ a w, Q a w → Q' a w) : ∀ (l : List Oper) (a : Act) (w : World), wpList P ops (onN Q) l a w → wpList P ops (onN Q') l a w := by
 intro l
 induction l with
 | nil => intro a w h; exact hq _ _ h
 | cons o l ih =>
  intro a w h
  unfold wpList at h ⊢
  split
  ·rename_i hw
   rw [if_pos hw] at h
   rcases h with h | ⟨_, h⟩
   ·left
    unfold Oper.wp at *
    generalize (execOp a.eval o).run P w = rr at *
    cases rr with
    | ok n w' =>
     cases n <;> simp only [Oper.upon] at h ⊢ <;> first
      | exact ih _ _ h
      | exact Calls.mono h (fun e w'' he => by cases e <;> first | exact ih _ _ he | exact he | (obtain ⟨_, _, hf⟩ := he; exact False.elim hf))
      | exact Rows.mono h (fun _ _ he => ih _ _ he)
    | halt xx w' => cases xx <;> simp only [Oper.upon] at h ⊢ <;> exact False.elim h
   ·exact absurd h letsOut_onN
  ·rename_i hw
   rw [if_neg hw] at h
   exact ih _ _ h
def segOk (P : Program) : List (Oper × Nat) → Bool
 | [] => false
 | x :: r => (x.2 == 2 && r.isEmpty) || ((decide (x.2 ≤ 1) || x.2 == 4) && synC P false x.1.op x.2 && segOk P r)
theorem sq_seg (L : List Nat) {N : Act → World → Prop} : ∀ (l : List (Oper × Nat)) (k : Nat) (a : Act) (w : World),
  (∀ j, (l.map Prod.fst)[j]? = ops[k + j]? ∨ l.length ≤ j) → segOk P l = true → stays ops l = true →
  wpList P ops (onN fun a' w' => (chk ops l a' = true ∧ (∀ b ∈ rb ops l a', b ∈ L)) ∧ Keep L w w' ∧ N a' w') (l.map Prod.fst) a w →
  sq P ops (Keep L) (idx k l) N a w
 | [], k, a, w, _, hs, _, h => by cases hs
 | x :: r, k, a, w, hops, hsy, hst, h => by
  have ho : ops[k]? = some x.1 := by
   rcases hops 0 with h0 | h0
   ·simpa using h0.symm
   ·simp at h0
  have hops' : ∀ j, (r.map Prod.fst)[j]? = ops[k + 1 + j]? ∨ r.length ≤ j := fun j => by
   rcases hops (j + 1) with h0 | h0
   ·left; simpa [Nat.add_assoc, Nat.add_comm 1 j] using h0
   ·right; simp at h0; omega
  have hst' : stays ops r = true := by
   simp only [stays, Bool.and_eq_true] at hst; exact hst.2
  simp only [segOk, Bool.or_eq_true, Bool.and_eq_true, beq_iff_eq, decide_eq_true_eq] at hsy
  show itm P ops (Keep L) (k, x.2) (sq P ops (Keep L) (idx (k + 1) r) N) a w
  rcases hsy with ⟨h2, he⟩ | ⟨⟨hc4, hs1⟩, hs2⟩
  ·obtain rfl : r = [] := List.isEmpty_iff.1 he
   rw [itm2 (x := (k, x.2)) h2]
   simp only [List.map_cons, List.map_nil, wpList] at h
   refine stp_mono ?_ (wp_to_stp ho h)
   intro a' w' hk
   exact hk.2
  ·have hhead := h
   have hck := chk_head (P := P) (L := L) true hc4 hst (R := fun a' w' => Keep L w w' ∧ N a' w') (wpList_onN_mono (fun a w hq => ⟨⟨hq.1.1, fun _ => hq.1.2⟩, hq.2⟩) _ _ _ hhead)
   have rest : ∀ a', wpList P ops (onN fun a' w' => (chk ops (x :: r) a' = true ∧ (∀ b ∈ rb ops (x :: r) a', b ∈ L)) ∧ Keep L w w' ∧ N a' w') (r.map Prod.fst) a' w → sq P ops (Keep L) (idx (k + 1) r) N a' w := by
    intro a' hk
    refine sq_seg L r (k + 1) a' w hops' hs2 hst' (wpList_onN_mono (fun a w hq => ?_) _ _ _ hk)
    obtain ⟨⟨h1, h2⟩, h3⟩ := hq
    refine ⟨⟨?_, fun b hb => h2 b ?_⟩, h3⟩
    ·simp only [chk, List.all_cons, Bool.and_eq_true] at h1 ⊢; exact h1.2
    ·simp only [rb, List.flatMap_cons, List.mem_append] at hb ⊢; exact .inr hb
   simp only [List.map_cons, wpList] at h
   by_cases hc : x.2 ≤ 1
   rotate_left
   ·have h4 : x.2 = 4 := by omega
    rw [h4] at hs1
    obtain ⟨v, hy, hk⟩ := wp_to_yields4 (P := P) (fun ch a w hf => hf) letsOut_onN hs1 (fun hw => by have := (hck hw).1; rw [h4] at this; exact this) h
    rw [h4]
    exact ⟨x.1, v, ho, hy, rest _ hk⟩
   by_cases hw : Region.wanted x.1 (yielded ops a.tmps) = true
   ·obtain ⟨v, hy, hk⟩ := wp_to_yields (P := P) (Sim := Keep L) hc (fun ch a w hf => hf) letsOut_onN (by
      obtain ⟨o, c⟩ := x
      simp only at hc hs1 ⊢
      match c, hc with
      | 0, _ => exact hs1
      | 1, _ => exact hs1)
     (fun h1 b hb => rd_load_keep ((hck hw).2 rfl h1 _ hb)) (fun _ => (hck hw).1) h
    exact free_mk (x := (k, x.2)) hc ho hy (rest _ hk)
   ·rw [if_neg hw] at h
    exact free_mk (x := (k, x.2)) hc ho (.inr ⟨by simpa using hw, rfl⟩) (rest _ h)
theorem sq_append {Sim : World → World → Prop} {R : Act → World → Prop} : ∀ (l l' : List (Nat × Nat)) (a : Act) (w : World), sq P ops Sim l (sq P ops Sim l' R) a w → sq P ops Sim (l ++ l') R a w
 | [], _, _, _, h => h
 | x :: l, l', a, w, h => itm_mono (fun a w hk => sq_append l l' a w hk) h
theorem idx_append : ∀ (l l' : List (Oper × Nat)) (k : Nat), idx k (l ++ l') = idx k l ++ idx (k + l.length) l'
 | [], _, _ => by simp [idx]
 | x :: l, l', k => by
  simp only [List.cons_append, idx, List.length_cons]
  rw [idx_append l l' (k + 1)]
  congr 3; omega
def segW (P : Program) (ops : Array Oper) (L : List Nat) (R : Act → World → Prop) : List Nat → List Nat → List Oper → Act → World → Prop
 | [], cls, l, a, w => ∀ Q' : Exit → Act → World → Prop, (∀ a' w', (chk ops (l.zip cls) a' = true ∧ (∀ b ∈ rb ops (l.zip cls) a', b ∈ L)) ∧ R a' w' → Q' .normal a' w') → wpList P ops Q' l a w
 | n :: ns, cls, l, a, w => ∀ Q' : Exit → Act → World → Prop, (∀ a' w', (chk ops ((l.take n).zip (cls.take n)) a' = true ∧ (∀ b ∈ rb ops ((l.take n).zip (cls.take n)) a', b ∈ L)) ∧ Keep L w w' ∧ segW P ops L R ns (cls.drop n) (l.drop n) a' w' → Q' .normal a' w') → wpList P ops Q' (l.take n) a w
def sOk (P : Program) (ops : Array Oper) : List Nat → List Nat → List Oper → Bool
 | [], cls, l => ((l.zip cls).all fun x => synC P false x.1.op x.2) && stays ops (l.zip cls)
 | n :: ns, cls, l => segOk P ((l.take n).zip (cls.take n)) && stays ops ((l.take n).zip (cls.take n)) && sOk P ops ns (cls.drop n) (l.drop n)
theorem sq_segs (L : List Nat) {R : Act → World → Prop} : ∀ (ns cls : List Nat) (l : List Oper) (k : Nat) (a : Act) (w : World), cls.length = l.length →
  (∀ j, l[j]? = ops[k + j]? ∨ l.length ≤ j) → sOk P ops ns cls l = true → segW P ops L R ns cls l a w → sq P ops (Keep L) (idx k (l.zip cls)) R a w
 | [], cls, l, k, a, w, hl, hops, hs, h => by
  simp only [sOk, Bool.and_eq_true] at hs
  refine sq_last false true L (fun hf => by cases hf) (fun b hb => rd_load_keep (hb rfl)) (l.zip cls) k a w (fun j => ?_) hs.1 hs.2 ?_
  ·rw [zip_fst l cls hl]
   rcases hops j with h0 | h0
   ·exact .inl h0
   ·right; simp [hl]; exact h0
  ·rw [zip_fst l cls hl]
   exact h _ (fun a' w' hk => ⟨⟨hk.1.1, fun _ => hk.1.2⟩, hk.2⟩)
 | n :: ns, cls, l, k, a, w, hl, hops, hs, h => by
  simp only [sOk, Bool.and_eq_true] at hs
  have e : l.zip cls = (l.take n).zip (cls.take n) ++ (l.drop n).zip (cls.drop n) := by
   rw [← List.zip_append (by simp [hl]), List.take_append_drop, List.take_append_drop]
  have hl1 : (cls.take n).length = (l.take n).length := by simp [hl]
  rw [e, idx_append]
  refine sq_append _ _ _ _ ?_
  refine sq_seg L _ k a w (fun j => ?_) hs.1.1 hs.1.2 ?_
  ·rw [zip_fst _ _ hl1]
   rcases Nat.lt_or_ge j n with hj | hj
   ·rcases hops j with h0 | h0
    ·left; rw [List.getElem?_take_of_lt hj]; exact h0
    ·right; simp [hl]; omega
   ·right; simp; omega
  ·rw [zip_fst _ _ hl1]
   refine wpList_onN_mono (fun a' w' hk => ⟨hk.1, hk.2.1, ?_⟩) _ _ _ (h _ (fun a' w' hk => hk))
   refine sq_segs L ns (cls.drop n) (l.drop n) _ a' w' (by simp [hl]) (fun j => ?_) hs.2 hk.2.2
   have hlen : ((l.take n).zip (cls.take n)).length = min n l.length := by simp [hl]
   rw [hlen]
   rcases Nat.le_total n l.length with hn | hn
   ·rcases hops (n + j) with h0 | h0
    ·left; rw [List.getElem?_drop, h0]; congr 1; omega
    ·right; simp; omega
   ·right; simp; omega
def ok2 (P : Program) (l : List Oper) (cls ns ms : List Nat) : Bool :=
 decide (cls.length = l.length) && lowB l.toArray && masksOk l.toArray ms && pairsOk true l.toArray ms (cls.zipIdx.map fun x => (x.2, x.1)) && sOk P l.toArray ns cls l && P.follows .mixedOrders
theorem region2 {id : Nat} {l : List Oper} {Q : Exit → Act → World → Prop} {a : Act} {w : World} (L : List Nat) (cls ns ms : List Nat) (hok : ok2 P l cls ns ms = true)
  (h : segW P l.toArray L (Q .normal) ns cls l a { w with drawn := w.drawn + 1 }) : (Code.region id l.toArray true).wp P Q a w := by
 simp only [ok2, Bool.and_eq_true, decide_eq_true_eq] at hok
 obtain ⟨⟨⟨⟨⟨h1, h2⟩, hms⟩, h3⟩, h4⟩, h6⟩ := hok
 refine wp_region_sq (likes_keep L) cls ms h6 (by simpa using h1) h2 hms h3 ?_
 rw [← idx_zip l cls 0 h1]
 exact sq_segs L ns cls l 0 a _ h1 (fun j => by simp) h4 h
theorem region1d {id : Nat} {l : List Oper} {Q : Exit → Act → World → Prop} {a : Act} {w : World} (cls ms : List Nat) (hok : ok1 P l cls ms = true)
  (h : ∀ Q' : Exit → Act → World → Prop, (∀ a' w', chk l.toArray (l.zip cls) a' = true ∧ Q .normal a' w' → Q' .normal a' w') → wpList P l.toArray Q' l a w.drew) :
  (Code.region id l.toArray true).wp P Q a w := region1 cls ms hok h
theorem region2d {id : Nat} {l : List Oper} {Q : Exit → Act → World → Prop} {a : Act} {w : World} (L : List Nat) (cls ns ms : List Nat) (hok : ok2 P l cls ns ms = true)
  (h : segW P l.toArray L (Q .normal) ns cls l a w.drew) : (Code.region id l.toArray true).wp P Q a w := region2 L cls ns ms hok h
end
section
variable {P : Program} {ops : Array Oper}
def ends2 : List (Oper × Nat) → Bool
 | [] => false
 | [x] => x.2 == 2
 | _ :: y :: r => ends2 (y :: r)
theorem ends2_cons {x : Oper × Nat} {r : List (Oper × Nat)} (h : r ≠ []) : ends2 (x :: r) = ends2 r := by
 cases r with
 | nil => exact absurd rfl h
 | cons y r => rfl
def segOk4 (P : Program) : List (Oper × Nat) → Bool
 | [] => false
 | x :: r => ((x.2 == 2 || x.2 == 3) && r.isEmpty) || ((decide (x.2 ≤ 1) || x.2 == 4) && synC P false x.1.op x.2 && segOk4 P r)
def seg4 (P : Program) (ops : Array Oper) (R : Act → World → Prop) : List Nat → List Nat → List Oper → Act → World → Prop
 | [], cls, l, a, w => ∀ Q' : Exit → Act → World → Prop, (∀ a' w', chk ops (l.zip cls) a' = true ∧ R a' w' → Q' .normal a' w') → wpList P ops Q' l a w
 | n :: ns, cls, l, a, w => ∀ Q' : Exit → Act → World → Prop, (∀ a' w', chk ops ((l.take n).zip (cls.take n)) a' = true ∧ (ends2 ((l.take n).zip (cls.take n)) = true → Ext w w') ∧ seg4 P ops R ns (cls.drop n) (l.drop n) a' w' → Q' .normal a' w') → wpList P ops Q' (l.take n) a w
def sOk4 (P : Program) (ops : Array Oper) : List Nat → List Nat → List Oper → Bool
 | [], cls, l => ((l.zip cls).all fun x => synC P false x.1.op x.2) && stays ops (l.zip cls)
 | n :: ns, cls, l => segOk4 P ((l.take n).zip (cls.take n)) && stays ops ((l.take n).zip (cls.take n)) && sOk4 P ops ns (cls.drop n) (l.drop n)
def ixs : List Nat → List (Oper × Nat) → List (Nat × Nat)
 | k :: ks, x :: r => (k, x.2) :: ixs ks r
 | _, _ => []
def ixOk (ops : Array Oper) : List Nat → List (Oper × Nat) → Prop
 | k :: ks, x :: r => ops[k]? = some x.1 ∧ ixOk ops ks r
 | [], [] => True
 | _, _ => False
theorem ixOk.append {ops : Array Oper} : ∀ (ks : List Nat) (l l' : List (Oper × Nat)), ixOk ops ks (l ++ l') → ixOk ops (ks.take l.length) l ∧ ixOk ops (ks.drop l.length) l' ∧ ixs ks (l ++ l') = ixs (ks.take l.length) l ++ ixs (ks.drop l.length) l'
 | ks, [], l', h => by cases ks <;> exact ⟨trivial, h, rfl⟩
 | [], x :: l, l', h => h.elim
 | k :: ks, x :: l, l', h => by
  obtain ⟨h1, h2, h3⟩ := ixOk.append ks l l' h.2
  refine ⟨⟨h.1, by simpa using h1⟩, by simpa using h2, ?_⟩
  simp only [List.cons_append, ixs, List.length_cons, List.take_succ_cons, List.drop_succ_cons, h3]
theorem sq_lastP {Sim : World → World → Prop} (m : Bool) (hL : Bool) (L : List Nat) (hm : m = true → Sim = Ext) (hld : ∀ b : Addr, (hL = true → b.block ∈ L) → Rd P Sim (load b)) {R : Act → World → Prop} : ∀ (l : List (Oper × Nat)) (ks : List Nat) (a : Act) (w : World),
  ixOk ops ks l → (l.all fun x => synC P m x.1.op x.2) = true → stays ops l = true →
  wpList P ops (onN fun a' w' => (chk ops l a' = true ∧ (hL = true → ∀ b ∈ rb ops l a', b ∈ L)) ∧ R a' w') (l.map Prod.fst) a w →
  sq P ops Sim (ixs ks l) R a w
 | [], ks, a, w, _, _, _, h => by cases ks <;> exact h.2
 | _ :: _, [], a, w, hops, _, _, _ => hops.elim
 | x :: r, k :: ks, a, w, hops, hsy, hst, h => by
  have ho : ops[k]? = some x.1 := hops.1
  have hops' := hops.2
  rw [List.all_cons, Bool.and_eq_true] at hsy
  have hst' : stays ops r = true := by
   simp only [stays, Bool.and_eq_true] at hst; exact hst.2
  have weaken : ∀ a' w', wpList P ops (onN fun a' w' => (chk ops (x :: r) a' = true ∧ (hL = true → ∀ b ∈ rb ops (x :: r) a', b ∈ L)) ∧ R a' w') (r.map Prod.fst) a' w' →
    wpList P ops (onN fun a' w' => (chk ops r a' = true ∧ (hL = true → ∀ b ∈ rb ops r a', b ∈ L)) ∧ R a' w') (r.map Prod.fst) a' w' := by
   intro a' w'
   have mono : ∀ (Q Q' : Act → World → Prop) (hq : ∀ a w, Q a w → Q' a w) (l : List Oper) (a : Act) (w : World), wpList P ops (onN Q) l a w → wpList P ops (onN Q') l a w := by
    intro Q Q' hq l
    induction l with
    | nil => intro a w h; exact hq _ _ h
    | cons o l ih =>
     intro a w h
     unfold wpList at h ⊢
     split
     ·rename_i hw
      rw [if_pos hw] at h
      rcases h with h | ⟨_, h⟩
      ·left
       unfold Oper.wp at *
       generalize (execOp a.eval o).run P w = rr at *
       cases rr with
       | ok n w' =>
        cases n <;> simp only [Oper.upon] at h ⊢ <;> first
         | exact ih _ _ h
         | exact Calls.mono h (fun e w'' he => by cases e <;> first | exact ih _ _ he | exact he | (obtain ⟨_, _, hf⟩ := he; exact False.elim hf))
         | exact Rows.mono h (fun _ _ he => ih _ _ he)
       | halt xx w' => cases xx <;> simp only [Oper.upon] at h ⊢ <;> exact False.elim h
      ·exact absurd h letsOut_onN
     ·rename_i hw
      rw [if_neg hw] at h
      exact ih _ _ h
   refine mono _ _ (fun a w hq => ?_) _ _ _
   obtain ⟨⟨h1, h2⟩, h3⟩ := hq
   refine ⟨⟨?_, fun hl b hb => h2 hl b ?_⟩, h3⟩
   ·simp only [chk, List.all_cons, Bool.and_eq_true] at h1 ⊢; exact h1.2
   ·simp only [rb, List.flatMap_cons, List.mem_append] at hb ⊢; exact .inr hb
  have rest : ∀ a' w', wpList P ops (onN fun a' w' => (chk ops (x :: r) a' = true ∧ (hL = true → ∀ b ∈ rb ops (x :: r) a', b ∈ L)) ∧ R a' w') (r.map Prod.fst) a' w' → sq P ops Sim (ixs ks r) R a' w' := fun a' w' hk =>
   sq_lastP m hL L hm hld r ks a' w' hops' hsy.2 hst' (weaken a' w' hk)
  have hhead := h
  simp only [List.map_cons, wpList] at h
  show itm P ops Sim (k, x.2) (sq P ops Sim (ixs ks r) R) a w
  by_cases hc : x.2 ≤ 1
  ·have hck := chk_head (P := P) (L := L) hL (.inl hc) hst hhead
   by_cases hw : Region.wanted x.1 (yielded ops a.tmps) = true
   ·obtain ⟨v, hy, hk⟩ := wp_to_yields (P := P) (Sim := Sim) hc (fun ch a w hf => hf) letsOut_onN (by
      obtain ⟨o, c⟩ := x
      simp only at hc hsy ⊢
      match c, hc with
      | 0, _ => exact hsy.1
      | 1, _ => exact hsy.1)
     (fun h1 b hb => hld b fun hl => (hck hw).2 hl h1 _ hb) (fun _ => (hck hw).1) h
    exact free_mk (x := (k, x.2)) hc ho hy (rest _ _ hk)
   ·rw [if_neg hw] at h
    exact free_mk (x := (k, x.2)) hc ho (.inr ⟨by simpa using hw, rfl⟩) (rest _ _ h)
  ·by_cases h4 : x.2 = 4
   ·have hck := chk_head (P := P) (L := L) hL (.inr h4) hst hhead
    have hs4 := hsy.1
    rw [h4] at hs4
    obtain ⟨v, hy, hk⟩ := wp_to_yields4 (P := P) (fun ch a w hf => hf) letsOut_onN hs4 (fun hw => by have := (hck hw).1; rw [h4] at this; exact this) h
    show itm P ops Sim (k, x.2) _ a w
    rw [h4]
    exact ⟨x.1, v, ho, hy, rest _ _ hk⟩
   have hst2 := wp_to_stp ho h
   rcases (show x.2 = 2 ∨ (x.2 = 3 ∨ 5 ≤ x.2) by omega) with h2 | h3
   ·rw [itm2 (x := (k, x.2)) h2]
    have hs2 := hsy.1
    rw [h2] at hs2
    simp only [synC, Bool.and_eq_true] at hs2
    have hse := hm hs2.1
    subst hse
    unfold stp at hst2 ⊢
    rw [ho] at hst2 ⊢
    simp only [] at hst2 ⊢
    split
    ·rename_i hw
     rw [if_pos hw] at hst2
     unfold Oper.wp at *
     cases hr : (execOp a.eval x.1).run P w with
     | halt xx w1 => rw [hr] at hst2; cases xx <;> simp only [Oper.upon] at hst2 <;> exact False.elim hst2
     | ok n w1 =>
      obtain ⟨⟨v, rfl⟩, hext⟩ := ext2 x.1 a.eval hs2.2 w n w1 hr
      rw [hr] at hst2
      exact ⟨hext, rest _ _ hst2⟩
    ·rename_i hw
     rw [if_neg hw] at hst2
     exact ⟨likes_ext.refl w, rest _ _ hst2⟩
   ·rw [itm3 (x := (k, x.2)) h3]
    exact stp_mono (fun a w hk => rest a w hk) hst2
theorem sq_segP {N : Act → World → Prop} : ∀ (l : List (Oper × Nat)) (ks : List Nat) (a : Act) (w : World),
  ixOk ops ks l → segOk4 P l = true → stays ops l = true →
  wpList P ops (onN fun a' w' => chk ops l a' = true ∧ (ends2 l = true → Ext w w') ∧ N a' w') (l.map Prod.fst) a w →
  sq P ops Ext (ixs ks l) N a w
 | [], ks, a, w, _, hs, _, h => by cases hs
 | _ :: _, [], a, w, hops, _, _, _ => hops.elim
 | x :: r, k :: ks, a, w, hops, hsy, hst, h => by
  have ho : ops[k]? = some x.1 := hops.1
  have hops' := hops.2
  have hst' : stays ops r = true := by
   simp only [stays, Bool.and_eq_true] at hst; exact hst.2
  simp only [segOk4, Bool.or_eq_true, Bool.and_eq_true, beq_iff_eq, decide_eq_true_eq] at hsy
  show itm P ops Ext (k, x.2) (sq P ops Ext (ixs ks r) N) a w
  rcases hsy with ⟨h2, he⟩ | ⟨⟨hc4, hs1⟩, hs2⟩
  ·obtain rfl : r = [] := List.isEmpty_iff.1 he
   simp only [List.map_cons, List.map_nil, wpList] at h
   rcases h2 with h2 | h2
   ·rw [itm2 (x := (k, x.2)) h2]
    refine stp_mono ?_ (wp_to_stp ho h)
    intro a' w' hk
    exact ⟨hk.2.1 (by simp [ends2, h2]), by cases ks <;> exact hk.2.2⟩
   ·rw [itm3 (x := (k, x.2)) (.inl h2)]
    refine stp_mono ?_ (wp_to_stp ho h)
    intro a' w' hk
    cases ks <;> exact hk.2.2
  ·have hrn : r ≠ [] := fun e => by rw [e] at hs2; cases hs2
   rw [ends2_cons hrn] at h
   have hhead := h
   have hck := chk_head (P := P) (L := []) false hc4 hst (R := fun a' w' => (ends2 r = true → Ext w w') ∧ N a' w') (wpList_onN_mono (fun a w hq => ⟨⟨hq.1, fun hf => by cases hf⟩, hq.2⟩) _ _ _ hhead)
   have rest : ∀ a', wpList P ops (onN fun a' w' => chk ops (x :: r) a' = true ∧ (ends2 r = true → Ext w w') ∧ N a' w') (r.map Prod.fst) a' w → sq P ops Ext (ixs ks r) N a' w := by
    intro a' hk
    refine sq_segP r ks a' w hops' hs2 hst' (wpList_onN_mono (fun a w hq => ?_) _ _ _ hk)
    obtain ⟨h1, h3⟩ := hq
    refine ⟨?_, h3⟩
    simp only [chk, List.all_cons, Bool.and_eq_true] at h1 ⊢; exact h1.2
   simp only [List.map_cons, wpList] at h
   by_cases hc : x.2 ≤ 1
   rotate_left
   ·have h4 : x.2 = 4 := by omega
    rw [h4] at hs1
    obtain ⟨v, hy, hk⟩ := wp_to_yields4 (P := P) (fun ch a w hf => hf) letsOut_onN hs1 (fun hw => by have := (hck hw).1; rw [h4] at this; exact this) h
    rw [h4]
    exact ⟨x.1, v, ho, hy, rest _ hk⟩
   by_cases hw : Region.wanted x.1 (yielded ops a.tmps) = true
   ·obtain ⟨v, hy, hk⟩ := wp_to_yields (P := P) (Sim := Ext) hc (fun ch a w hf => hf) letsOut_onN (by
      obtain ⟨o, c⟩ := x
      simp only at hc hs1 ⊢
      match c, hc with
      | 0, _ => exact hs1
      | 1, _ => exact hs1)
     (fun h1 b hb => rd_load_ext) (fun _ => (hck hw).1) h
    exact free_mk (x := (k, x.2)) hc ho hy (rest _ hk)
   ·rw [if_neg hw] at h
    exact free_mk (x := (k, x.2)) hc ho (.inr ⟨by simpa using hw, rfl⟩) (rest _ h)
theorem sq_segsP {R : Act → World → Prop} : ∀ (ns cls : List Nat) (l : List Oper) (ks : List Nat) (a : Act) (w : World), cls.length = l.length →
  ixOk ops ks (l.zip cls) → sOk4 P ops ns cls l = true → seg4 P ops R ns cls l a w → sq P ops Ext (ixs ks (l.zip cls)) R a w
 | [], cls, l, ks, a, w, hl, hops, hs, h => by
  simp only [sOk4, Bool.and_eq_true] at hs
  refine sq_lastP false false [] (fun hf => by cases hf) (fun b hb => rd_load_ext) (l.zip cls) ks a w hops hs.1 hs.2 ?_
  rw [zip_fst l cls hl]
  exact h _ (fun a' w' hk => ⟨⟨hk.1, fun hf => by cases hf⟩, hk.2⟩)
 | n :: ns, cls, l, ks, a, w, hl, hops, hs, h => by
  simp only [sOk4, Bool.and_eq_true] at hs
  have e : l.zip cls = (l.take n).zip (cls.take n) ++ (l.drop n).zip (cls.drop n) := by
   rw [← List.zip_append (by simp [hl]), List.take_append_drop, List.take_append_drop]
  have hl1 : (cls.take n).length = (l.take n).length := by simp [hl]
  rw [e] at hops ⊢
  obtain ⟨o1, o2, o3⟩ := ixOk.append ks _ _ hops
  rw [o3]
  refine sq_append _ _ _ _ ?_
  refine sq_segP _ _ a w o1 hs.1.1 hs.1.2 ?_
  rw [zip_fst _ _ hl1]
  refine wpList_onN_mono (fun a' w' hk => ⟨hk.1, hk.2.1, ?_⟩) _ _ _ (h _ (fun a' w' hk => hk))
  exact sq_segsP ns (cls.drop n) (l.drop n) _ a' w' (by simp [hl]) o2 hs.2 hk.2.2
def permB (n : Nat) (ks : List Nat) : Bool := decide (ks.length = n) && ks.all (fun k => Nat.blt k n) && decide ks.Nodup && (List.range n).all (fun k => ks.contains k)
def pick (ops : Array Oper) (ks : List Nat) : List Oper := ks.filterMap fun k => ops[k]?
def ok5 (P : Program) (l : List Oper) (ks cls ns ms : List Nat) : Bool :=
 decide (cls.length = l.length) && permB l.length ks && lowB l.toArray && masksOk l.toArray ms && pairsOk false l.toArray ms (ks.zip cls) && sOk4 P l.toArray ns cls (pick l.toArray ks) && P.follows .mixedOrders
theorem pick_spec (ops : Array Oper) : ∀ (ks cls : List Nat), (∀ k ∈ ks, k < ops.size) → cls.length = ks.length → (pick ops ks).length = ks.length ∧ ixOk ops ks ((pick ops ks).zip cls) ∧ ixs ks ((pick ops ks).zip cls) = ks.zip cls
 | [], [], _, _ => ⟨rfl, trivial, rfl⟩
 | k :: ks, c :: cls, h, hl => by
  have hk : k < ops.size := h k (by simp)
  obtain ⟨h1, h2, h3⟩ := pick_spec ops ks cls (fun j hj => h j (by simp [hj])) (by simpa using hl)
  have e : pick ops (k :: ks) = ops[k] :: pick ops ks := by simp [pick, hk]
  rw [e]
  refine ⟨by simp [h1], ⟨by simp [hk], h2⟩, ?_⟩
  simp only [List.zip_cons_cons, ixs, h3]
 | [], _ :: _, _, hl => by simp at hl
 | _ :: _, [], _, hl => by simp at hl
theorem region5d {id : Nat} {l : List Oper} {Q : Exit → Act → World → Prop} {a : Act} {w : World} (ks cls ns ms : List Nat) (hok : ok5 P l ks cls ns ms = true)
  (h : seg4 P l.toArray (Q .normal) ns cls (pick l.toArray ks) a w.drew) : (Code.region id l.toArray true).wp P Q a w := by
 simp only [ok5, permB, Bool.and_eq_true, decide_eq_true_eq, List.all_eq_true, Nat.blt_eq] at hok
 obtain ⟨⟨⟨⟨⟨⟨h1, ⟨⟨p1, p2⟩, p3⟩, p4⟩, h2⟩, hms⟩, h3⟩, h4⟩, h6⟩ := hok
 have hlt : ∀ k ∈ ks, k < l.toArray.size := fun k hk => by simpa using p2 k hk
 obtain ⟨q1, q2, q3⟩ := pick_spec l.toArray ks cls hlt (by omega)
 have hsq := sq_segsP ns cls (pick l.toArray ks) ks a _ (by omega) q2 h4 h
 rw [q3] at hsq
 have hfst : (ks.zip cls).map Prod.fst = ks := List.map_fst_zip (by omega)
 have hall : ∀ i, i < l.length → i ∈ ks := fun i hi => by simpa using p4 i (List.mem_range.2 hi)
 have hsz : l.toArray.size = l.length := by simp
 rw [← hsz] at hall p1 h1
 generalize l.toArray = ops at *
 refine wp_region_any h6 ?_
 refine any_of_sq likes_ext h2 hms ops.size _ _ a _ (by simp; omega) ?_ (by simp) ?_ ?_ (pairs_pw h3) hsq
 ·intro j o _ hj
  exfalso
  rcases Nat.lt_or_ge j ops.size with h' | h'
  ·simp [h'] at hj
  ·simp [h'] at hj
 ·intro i
  rw [hfst]
  rcases Nat.lt_or_ge i ops.size with h' | h'
  ·simp [h', hall i h']
  ·have : i ∉ ks := fun hi => by have := hlt i hi; omega
   simp [h', this]
 ·rw [hfst]; exact p3
end
section
variable {P : Program} {ops : Array Oper} {Sim : World → World → Prop}
theorem itm_and {sym : Bool} (L : Likes Sim sym) {x : Nat × Nat} {a : Act} {w : World} {K K' : Act → World → Prop} (hx : x.2 ≤ 1) (h : itm P ops Sim x K a w) (h' : itm P ops Sim x K' a w) : itm P ops Sim x (fun a w => K a w ∧ K' a w) a w := by
 obtain ⟨i, c⟩ := x
 match c, hx with
 | 0, _ =>
  obtain ⟨o, v, h1, h2, h3⟩ := h
  obtain ⟨o', v', h1', h2', h3'⟩ := h'
  rw [h1] at h1'; cases h1'
  have hv : v = v' := by
   rcases h2 with ⟨a1, a2⟩ | ⟨a1, a2⟩ <;> rcases h2' with ⟨b1, b2⟩ | ⟨b1, b2⟩
   ·have := a2 w; rw [b2 w] at this; injection this with this; injection this with this; exact this.symm
   ·rw [a1] at b1; cases b1
   ·rw [a1] at b1; cases b1
   ·rw [a2, b2]
  subst hv
  exact ⟨o, v, h1, h2, h3, h3'⟩
 | 1, _ =>
  obtain ⟨o, v, h1, h2, h3⟩ := h
  obtain ⟨o', v', h1', h2', h3'⟩ := h'
  rw [h1] at h1'; cases h1'
  have hv : v = v' := by
   rcases h2 with ⟨a1, a2⟩ | ⟨a1, a2⟩ <;> rcases h2' with ⟨b1, b2⟩ | ⟨b1, b2⟩
   ·have := a2 w (L.refl w); rw [b2 w (L.refl w)] at this; injection this with this; injection this with this; exact this.symm
   ·rw [a1] at b1; cases b1
   ·rw [a1] at b1; cases b1
   ·rw [a2, b2]
  subst hv
  exact ⟨o, v, h1, h2, h3, h3'⟩
theorem any_of_sq2 {sym : Bool} (L : Likes Sim sym) (hlow : lowB ops = true) {ms : List Nat} (hms : masksOk ops ms = true) {Q : Exit → Act → World → Prop} (i0 j0 : Nat) (hij : i0 ≠ j0) : ∀ (n : Nat) (l lB : List (Nat × Nat)) (listed : Array Bool) (a : Act) (w : World), l.length = n → lB.length = n → (∀ x, x ∈ l ↔ x ∈ lB) →
  Closed ops listed → listed.size = ops.size → (∀ i, listed.getD i true = false ↔ i ∈ l.map Prod.fst) → (l.map Prod.fst).Nodup → (lB.map Prod.fst).Nodup → i0 ∈ l.map Prod.fst → j0 ∈ l.map Prod.fst →
  (∀ x ∈ l, x.1 = i0 ∨ x.1 = j0 ∨ x.2 ≤ 1 ∨ (ms.getD x.1 0).testBit i0 = true ∨ (ms.getD x.1 0).testBit j0 = true) →
  l.Pairwise (fun p x => pairOk sym ops ms p x = true ∨ (p.1 = i0 ∧ x.1 = j0)) → lB.Pairwise (fun p x => pairOk sym ops ms p x = true ∨ (p.1 = j0 ∧ x.1 = i0)) →
  sq P ops Sim l (Q .normal) a w → sq P ops Sim lB (Q .normal) a w → wpAny P .any ops Q n listed a w := by
 obtain ⟨low, hns⟩ := low_spec hlow
 intro n
 induction n with
 | zero =>
  intro l lB listed a w hl _ _ hc hsz hmem hnd _ hi0 _ _ _ _ h _
  obtain rfl : l = [] := List.eq_nil_of_length_eq_zero hl
  simp at hi0
 | succ n ih =>
  intro l lB listed a w hl hlB hAB hc hsz hmem hnd hndB hi0 hj0 hcl hpw hpwB h hB
  refine ⟨fun hr => ?_, fun i hi => ?_⟩
  ·exfalso
   have hex : ∃ m, listed.getD m true = false := ⟨i0, (hmem i0).2 hi0⟩
   obtain ⟨m, hm, hmin⟩ : ∃ m, listed.getD m true = false ∧ ∀ k < m, ¬ listed.getD k true = false := by
    obtain ⟨m0, hm0⟩ := hex
    induction m0 using Nat.strongRecOn with
    | _ m ihm =>
     by_cases hk : ∃ k < m, listed.getD k true = false
     ·obtain ⟨k, hk1, hk2⟩ := hk; exact ihm k hk1 hk2
     ·exact ⟨m, hm0, fun k hk1 hk2 => hk ⟨k, hk1, hk2⟩⟩
   have hms' : m < ops.size := by
    rcases Nat.lt_or_ge m listed.size with h' | h'
    ·omega
    ·simp [Array.getElem?_eq_none h'] at hm
   have : m ∈ Region.ready .any ops listed := mem_ready.2 ⟨hm, ops[m], by simp [hms'], fun e he hb => by
    have hlt := low m ops[m] (by simp [hms']) e he hb
    have h1 := hmin e.on hlt
    have h2 : e.on < listed.size := by omega
    simp [h2] at h1 ⊢; exact h1⟩
   rw [hr] at this
   cases this
  ·obtain ⟨hun, o, ho, hall⟩ := mem_ready.1 hi
   have hil := (hmem i).1 hun
   obtain ⟨x, hx, rfl⟩ := List.mem_map.1 hil
   -- what waits for something that has not come up is not ready
   have hwait : ∀ p, p ∈ l.map Prod.fst → (ms.getD x.1 0).testBit p = true → False := by
    intro p hp hr
    obtain ⟨f, hrf⟩ := masks_reach hms low x.1 p (Array.getElem?_eq_some_iff.1 ho).1 hr
    have h1 := reach_listed hc _ _ _ hrf (fun o' ho' e he hb => by rw [ho] at ho'; cases ho'; exact hall e he hb)
    have h2 : listed.getD p true = false := (hmem p).2 hp
    rw [getD_both h2] at h1
    cases h1
   have hswap : ∀ p, p ∈ l → pairOk sym ops ms p x = true → ∃ op, ops[p.1]? = some op ∧ op.apart ops o = true ∧ swapOk sym p.2 x.2 = true := by
    intro p hp hpx
    unfold pairOk at hpx
    rw [Bool.or_eq_true] at hpx
    rcases hpx with hr | hr
    ·exact (hwait p.1 (List.mem_map.2 ⟨p, hp, rfl⟩) hr).elim
    ·rw [ho] at hr
     split at hr
     ·rename_i op ox hp' hx'
      cases hx'
      rw [Bool.and_eq_true] at hr
      exact ⟨op, hp', hr.1, hr.2⟩
     ·cases hr
   have hxs : x.1 < listed.size := by
    rcases Nat.lt_or_ge x.1 listed.size with h' | h'
    ·exact h'
    ·simp [Array.getElem?_eq_none h'] at hun
   have hclosed : Closed ops (listed.setIfInBounds x.1 true) := by
    intro j oj hoj hlj e he hbd
    have hset : ∀ k, listed.getD k false = true → (listed.setIfInBounds x.1 true).getD k false = true := by
     intro k hk
     by_cases hkx : x.1 = k
     ·subst hkx; simp [hxs]
     ·simpa [Array.getElem?_setIfInBounds_ne hkx] using hk
    by_cases hjx : x.1 = j
    ·subst hjx
     rw [ho] at hoj; cases hoj
     exact hset _ (hall e he hbd)
    ·have : listed.getD j false = true := by simpa [Array.getElem?_setIfInBounds_ne hjx] using hlj
     exact hset _ (hc j oj hoj this e he hbd)
   have hmem' : ∀ (r : List (Nat × Nat)), (∀ k, k ∈ r.map Prod.fst ↔ k ∈ l.map Prod.fst ∧ k ≠ x.1) → ∀ k, (listed.setIfInBounds x.1 true).getD k true = false ↔ k ∈ r.map Prod.fst := by
    intro r hr k
    rw [hr k]
    by_cases hkx : x.1 = k
    ·subst hkx
     simp only [Array.getD_eq_getD_getElem?, Array.getElem?_setIfInBounds_self, hxs, if_true, Option.getD_some]
     constructor
     ·intro h; cases h
     ·intro h; exact absurd rfl h.2
    ·have h1 := hmem k
     simp only [Array.getD_eq_getD_getElem?, Array.getElem?_setIfInBounds_ne hkx] at h1 ⊢
     rw [h1]
     exact ⟨fun h => ⟨h, fun e => hkx e.symm⟩, fun h => h.1⟩
   -- a list that is parted at x
   have hpart : ∀ (m : List (Nat × Nat)), (m.map Prod.fst).Nodup → (∀ y, y ∈ l ↔ y ∈ m) → ∀ pre post, m = pre ++ x :: post → ((pre ++ post).map Prod.fst).Nodup ∧ ∀ k, k ∈ (pre ++ post).map Prod.fst ↔ k ∈ l.map Prod.fst ∧ k ≠ x.1 := by
    intro m hm hlm pre post rfl_
    subst rfl_
    simp only [List.map_append, List.map_cons] at hm
    rw [List.nodup_append] at hm
    obtain ⟨n1, n2, n3⟩ := hm
    rw [List.nodup_cons] at n2
    refine ⟨by rw [List.map_append, List.nodup_append]; exact ⟨n1, n2.2, fun a ha b hb => n3 a ha b (by simp [hb])⟩, fun k => ?_⟩
    have e1 : ∀ k, k ∈ l.map Prod.fst ↔ k ∈ (pre ++ x :: post).map Prod.fst := by
     intro k
     simp only [List.mem_map]
     exact ⟨fun ⟨y, hy, e⟩ => ⟨y, (hlm y).1 hy, e⟩, fun ⟨y, hy, e⟩ => ⟨y, (hlm y).2 hy, e⟩⟩
    rw [e1]
    simp only [List.map_append, List.map_cons, List.mem_append, List.mem_cons]
    constructor
    ·rintro (h | h)
     ·exact ⟨.inl h, fun e => n3 k h x.1 (by simp) e⟩
     ·exact ⟨.inr (.inr h), fun e => n2.1 (e ▸ h)⟩
    ·rintro ⟨h | h | h, hne⟩
     ·exact .inl h
     ·exact absurd h hne
     ·exact .inr h
   by_cases hxj : x.1 = j0
   ·-- the new variable comes up: the second list
    obtain ⟨pre, post, rfl⟩ := List.append_of_mem ((hAB x).1 hx)
    obtain ⟨q1, q2⟩ := hpart _ hndB hAB pre post rfl
    have hpw' := List.pairwise_append.1 hpwB
    have hne : ∀ p ∈ pre ++ post, p.1 ≠ j0 := fun p hp e => ((q2 p.1).1 (List.mem_map.2 ⟨p, hp, rfl⟩)).2 (by rw [e, hxj])
    have hb := bring L hns x post ho pre a w (fun p hp => hswap p ((hAB p).2 (by simp [hp])) (by
     rcases hpw'.2.2 p hp x (by simp) with h' | h'
     ·exact h'
     ·exact absurd h'.1 (hne p (by simp [hp])))) hB
    refine wpOp_mono (fun a' w' hk => any_of_sq L hlow hms n (pre ++ post) (listed.setIfInBounds x.1 true) a' w' (by simp at hlB ⊢; omega) hclosed (by simp [hsz]) (hmem' _ q2) q1 ?_ hk) (itm_wpOp L hb)
    have : (pre ++ post).Pairwise (fun p x => pairOk sym ops ms p x = true ∨ (p.1 = j0 ∧ x.1 = i0)) := by
     rw [List.pairwise_append]
     exact ⟨hpw'.1, (List.pairwise_cons.1 hpw'.2.1).2, fun a ha b hb => hpw'.2.2 a ha b (by simp [hb])⟩
    exact this.imp_of_mem (fun {p q} hp hq hor => hor.elim id (fun h' => absurd h'.1 (hne p hp)))
   ·obtain ⟨pre, post, hlp⟩ := List.append_of_mem hx
    obtain ⟨q1, q2⟩ := hpart _ hnd (fun _ => Iff.rfl) pre post hlp
    have hpw0 := hpw
    rw [hlp] at hpw0
    have hpw' := List.pairwise_append.1 hpw0
    have hb := bring L hns x post ho pre a w (fun p hp => hswap p (by rw [hlp]; simp [hp]) (by
     rcases hpw'.2.2 p hp x (by simp) with h' | h'
     ·exact h'
     ·exact absurd h'.2 hxj)) (by rw [← hlp]; exact h)
    have hpwA : (pre ++ post).Pairwise (fun p x => pairOk sym ops ms p x = true ∨ (p.1 = i0 ∧ x.1 = j0)) := by
     rw [List.pairwise_append]
     exact ⟨hpw'.1, (List.pairwise_cons.1 hpw'.2.1).2, fun a ha b hb => hpw'.2.2 a ha b (by simp [hb])⟩
    have hlen : (pre ++ post).length = n := by rw [hlp] at hl; simp at hl ⊢; omega
    by_cases hxi : x.1 = i0
    ·have hne : ∀ p ∈ pre ++ post, p.1 ≠ i0 := fun p hp e => ((q2 p.1).1 (List.mem_map.2 ⟨p, hp, rfl⟩)).2 (by rw [e, hxi])
     refine wpOp_mono (fun a' w' hk => any_of_sq L hlow hms n (pre ++ post) (listed.setIfInBounds x.1 true) a' w' hlen hclosed (by simp [hsz]) (hmem' _ q2) q1 ?_ hk) (itm_wpOp L hb)
     exact hpwA.imp_of_mem (fun {p q} hp hq hor => hor.elim id (fun h' => absurd h'.1 (hne p hp)))
    ·obtain ⟨preB, postB, hlpB⟩ := List.append_of_mem ((hAB x).1 hx)
     obtain ⟨q1B, q2B⟩ := hpart _ hndB hAB preB postB hlpB
     have hpwB0 := hpwB
     rw [hlpB] at hpwB0
     have hpwB' := List.pairwise_append.1 hpwB0
     have hbB := bring L hns x postB ho preB a w (fun p hp => hswap p ((hAB p).2 (by rw [hlpB]; simp [hp])) (by
      rcases hpwB'.2.2 p hp x (by simp) with h' | h'
      ·exact h'
      ·exact absurd h'.2 hxi)) (by rw [← hlpB]; exact hB)
     have hx1 : x.2 ≤ 1 := by
      rcases hcl x hx with h' | h' | h' | h' | h'
      ·exact absurd h' hxi
      ·exact absurd h' hxj
      ·exact h'
      ·exact (hwait i0 hi0 h').elim
      ·exact (hwait j0 hj0 h').elim
     refine wpOp_mono (fun a' w' hk => ih (pre ++ post) (preB ++ postB) (listed.setIfInBounds x.1 true) a' w' hlen (by rw [hlpB] at hlB; simp at hlB ⊢; omega) ?_ hclosed (by simp [hsz]) (hmem' _ q2) q1 q1B ((q2 i0).2 ⟨hi0, fun e => hxi e.symm⟩) ((q2 j0).2 ⟨hj0, fun e => hxj e.symm⟩) ?_ hpwA ?_ hk.1 hk.2) (itm_wpOp L (itm_and L hx1 hb hbB))
     ·intro y
      have hy1 : y ∈ l ↔ y = x ∨ y ∈ pre ++ post := by rw [hlp]; simp only [List.mem_append, List.mem_cons]; exact ⟨fun h => h.elim (fun a => .inr (.inl a)) (fun b => b.elim .inl (fun c => .inr (.inr c))), fun h => h.elim (fun a => .inr (.inl a)) (fun b => b.elim .inl (fun c => .inr (.inr c)))⟩
      have hy2 : y ∈ lB ↔ y = x ∨ y ∈ preB ++ postB := by rw [hlpB]; simp only [List.mem_append, List.mem_cons]; exact ⟨fun h => h.elim (fun a => .inr (.inl a)) (fun b => b.elim .inl (fun c => .inr (.inr c))), fun h => h.elim (fun a => .inr (.inl a)) (fun b => b.elim .inl (fun c => .inr (.inr c)))⟩
      have hxp : x ∉ pre ++ post := fun hm => ((q2 x.1).1 (List.mem_map.2 ⟨x, hm, rfl⟩)).2 rfl
      have hxpB : x ∉ preB ++ postB := fun hm => ((q2B x.1).1 (List.mem_map.2 ⟨x, hm, rfl⟩)).2 rfl
      constructor
      ·intro hy
       rcases hy2.1 ((hAB y).1 (hy1.2 (.inr hy))) with e | h'
       ·subst e; exact absurd hy hxp
       ·exact h'
      ·intro hy
       rcases hy1.1 ((hAB y).2 (hy2.2 (.inr hy))) with e | h'
       ·subst e; exact absurd hy hxpB
       ·exact h'
     ·intro y hy
      exact hcl y (by rw [hlp]; simp at hy ⊢; rcases hy with h | h <;> simp [h])
     ·rw [List.pairwise_append]
      exact ⟨hpwB'.1, (List.pairwise_cons.1 hpwB'.2.1).2, fun a ha b hb => hpwB'.2.2 a ha b (by simp [hb])⟩
def pairsX (sym : Bool) (ops : Array Oper) (ms : List Nat) (p0 x0 : Nat) : List (Nat × Nat) → Bool
 | [] => true
 | p :: r => r.all (fun x => pairOk sym ops ms p x || (p.1 == p0 && x.1 == x0)) && pairsX sym ops ms p0 x0 r
theorem pairsX_pw {sym : Bool} {ms : List Nat} {p0 x0 : Nat} : ∀ {l : List (Nat × Nat)}, pairsX sym ops ms p0 x0 l = true → l.Pairwise (fun p x => pairOk sym ops ms p x = true ∨ (p.1 = p0 ∧ x.1 = x0))
 | [], _ => .nil
 | p :: r, h => by
  simp only [pairsX, Bool.and_eq_true, List.all_eq_true, Bool.or_eq_true, beq_iff_eq] at h
  exact .cons h.1 (pairsX_pw h.2)
end
end Go.Reg

/- A walk over code whose frame is a function from slots to values: quick rules, no simplifier. Over any program. -/
import Derived.Test.YtmcojfpomejnnaaSlW
import Derived.Deep.LoopGhost
set_option linter.unusedSimpArgs false
set_option linter.unusedVariables false
namespace Go.Own
open Go Go.RowKit

abbrev Env := Nat → Value
def upd (e : Env) (d : Nat) (v : Value) : Env := fun t => bif Nat.beq t d then v else e t
def put (e : Env) (d : Option Nat) (v : Value) : Env := match d with
  | none => e
  | some d => upd e d v
def ev (e : Env) (x : Operand) : Value := match x with
  | .tmp t => e t
  | .const v => v
  | .global g => .pointer (some ⟨g, 0, none⟩)
  | .func f => .func (.func f) #[] #[]
def envOf (a : Act) : Env := fun t => a.tmps.getD t undef
structure Fr (n : Nat) (a : Act) (e : Env) : Prop where
  size : a.tmps.size = n
  defers : a.defers = []
  env : envOf a = e
def okD (n : Nat) (d : Option Nat) : Bool := match d with
  | none => true
  | some d => Nat.blt d n
theorem Fr.eval {n : Nat} {a : Act} {e : Env} (h : Fr n a e) : a.eval = ev e := by
  funext x
  cases x with
  | tmp t => show a.tmps.getD t undef = e t; rw [← h.env]; rfl
  | const v => rfl
  | global g => rfl
  | func f => rfl
theorem Fr.put {n : Nat} {a : Act} {e : Env} (h : Fr n a e) {d : Option Nat} (hd : okD n d = true) (v : Value) : Fr n (a.put d v) (put e d v) := by
  cases d with
  | none => exact h
  | some d =>
    have hlt : d < n := by simpa [okD, Nat.blt_eq] using hd
    refine ⟨by simp [Act.put, h.size], by simpa [Act.put] using h.defers, ?_⟩
    funext t
    simp only [envOf, Act.put, Own.put, upd]
    have he : e t = a.tmps.getD t undef := by rw [← h.env]; rfl
    rw [he]
    by_cases htd : t = d
    · subst htd
      have : t < a.tmps.size := by rw [h.size]; exact hlt
      simp [Array.getD_eq_getD_getElem?, this]
    · have hb : Nat.beq t d = false := by
        cases hc : Nat.beq t d with
        | false => rfl
        | true => exact absurd (Nat.eq_of_beq_eq_true hc) htd
      rw [hb]
      simp [Array.getD_eq_getD_getElem?, Array.getElem?_setIfInBounds, Ne.symm htd]
def yl (n : Nat) (ops : Array Oper) (e : Env) (j : Nat) : Option Bool :=
  match (ops[j]?).bind (·.dst) with
  | none => none
  | some d => bif Nat.blt d n then (match e d with | .bool b => some b | _ => none) else none
def wn (n : Nat) (ops : Array Oper) (o : Oper) (e : Env) : Bool :=
  match o.guard with
  | none => true
  | some (j, want) => yl n ops e j == some want
theorem Fr.yl {n : Nat} {a : Act} {e : Env} (h : Fr n a e) (ops : Array Oper) : yielded ops a.tmps = Own.yl n ops e := by
  funext j
  unfold yielded Own.yl
  cases hd : (ops[j]?).bind (·.dst) with
  | none => rfl
  | some d =>
    have he : e d = a.tmps.getD d undef := by rw [← h.env]; rfl
    simp only [Option.bind_some]
    by_cases hlt : d < n
    · have : d < a.tmps.size := by rw [h.size]; exact hlt
      have hb : Nat.blt d n = true := by simpa [Nat.blt_eq] using hlt
      rw [he, hb]
      simp only [Array.getD_eq_getD_getElem?, Array.getElem?_eq_getElem this, Option.getD_some, cond_true]
      cases a.tmps[d] <;> rfl
    · have hb : Nat.blt d n = false := by
        cases hc : Nat.blt d n with
        | false => rfl
        | true => exact absurd (by simpa [Nat.blt_eq] using hc) hlt
      have : a.tmps[d]? = none := by rw [Array.getElem?_eq_none_iff, h.size]; exact Nat.le_of_not_lt hlt
      rw [this, hb]; rfl
theorem Fr.wn {n : Nat} {a : Act} {e : Env} (h : Fr n a e) (ops : Array Oper) (o : Oper) : Region.wanted o (yielded ops a.tmps) = Own.wn n ops o e := by
  unfold Region.wanted Own.wn
  rw [h.yl ops]
  cases o.guard <;> rfl

abbrev Post := Exit → Env → World → Prop
def lift (n : Nat) (Q : Post) : Exit → Act → World → Prop := fun x a w => ∃ e, Fr n a e ∧ Q x e w
structure L (P : Program) (n : Nat) (ops : Array Oper) (Q : Post) (l : List Oper) (e : Env) (w : World) : Prop where
  go : ∀ a, Fr n a e → wpList P ops (lift n Q) l a w
structure C (P : Program) (n : Nat) (Q : Post) (c : Code) (e : Env) (w : World) : Prop where
  go : ∀ a, Fr n a e → c.wp P (lift n Q) a w

def thenE (K : Env → World → Prop) (Q : Post) : Post := fun x => match x with
  | .normal => K
  | x => Q x
def blockE (id : Nat) (Q : Post) : Post := fun x => match x with
  | .exit i => bif Nat.beq i id then Q .normal else Q (.exit i)
  | x => Q x

section
variable {P : Program} {n : Nat} {ops : Array Oper} {Q : Post} {rest : List Oper} {o : Oper} {e : Env} {w w' : World}

theorem C.seq {x y : Code} (h : C P n (thenE (C P n Q y) Q) x e w) : C P n Q (.seq x y) e w :=
  ⟨fun a ha => wp_seq (Code.wp_mono (fun ex a' w' ⟨e', fr, hq⟩ => by
    cases ex <;> first | exact hq.go a' fr | exact ⟨e', fr, hq⟩) (h.go a ha))⟩
theorem C.skip (h : Q .normal e w) : C P n Q .skip e w := ⟨fun a ha => wp_skip ⟨e, ha, h⟩⟩
theorem C.exit {id : Nat} (h : Q (.exit id) e w) : C P n Q (.exit id) e w := ⟨fun a ha => wp_exit ⟨e, ha, h⟩⟩
theorem C.ret (h : Q .ret e w) : C P n Q .ret e w := ⟨fun a ha => wp_ret ⟨e, ha, h⟩⟩
theorem C.tru {c : Operand} {x y : Code} (hc : ev e c = .bool true) (h : C P n Q x e w) : C P n Q (.cond c x y) e w :=
  ⟨fun a ha => wp_cond_true (by rw [ha.eval]; exact hc) (h.go a ha)⟩
theorem C.fls {c : Operand} {x y : Code} (hc : ev e c = .bool false) (h : C P n Q y e w) : C P n Q (.cond c x y) e w :=
  ⟨fun a ha => wp_cond_false (by rw [ha.eval]; exact hc) (h.go a ha)⟩
theorem C.ite {c : Operand} {x y : Code} {t : Bool} (hc : ev e c = .bool t) (h1 : t = true → C P n Q x e w) (h2 : t = false → C P n Q y e w) : C P n Q (.cond c x y) e w := by
  cases t with
  | true => exact C.tru hc (h1 rfl)
  | false => exact C.fls hc (h2 rfl)
theorem C.block {id : Nat} {c : Code} (h : C P n (blockE id Q) c e w) : C P n Q (.block id c) e w :=
  ⟨fun a ha => wp_block (Code.wp_mono (fun ex a' w' ⟨e', fr, hq⟩ => by
    cases ex with
    | exit i =>
      show Exit.inBlock id (lift n Q) (.exit i) a' w'
      simp only [blockE] at hq
      unfold Exit.inBlock
      by_cases hi : i = id
      · subst hi; simp only [Nat.beq_refl, cond_true] at hq; simp; exact ⟨e', fr, hq⟩
      · have hb : Nat.beq i id = false := by
          cases hc : Nat.beq i id with
          | false => rfl
          | true => exact absurd (Nat.eq_of_beq_eq_true hc) hi
        rw [hb] at hq; simp [hi]; exact ⟨e', fr, hq⟩
    | _ => exact ⟨e', fr, hq⟩) (h.go a ha))⟩
theorem C.region {id : Nat} {l : List Oper} (h : L P n l.toArray Q l e w) : C P n Q (.region id l.toArray false) e w := ⟨fun a ha => wp_region_lit (h.go a ha)⟩
theorem L.nil (h : Q .normal e w) : L P n ops Q [] e w := ⟨fun a ha => ⟨e, ha, h⟩⟩

/-! ### slots that a piece of code writes -/
def hav (wr : List Nat) (h e : Env) : Env := fun t => bif wr.any (Nat.beq t) then h t else e t
structure Agr (wr : List Nat) (e e' : Env) : Prop where
  at_ : ∀ t, wr.any (Nat.beq t) = false → e' t = e t
theorem Agr.refl {wr : List Nat} : Agr wr e e := ⟨fun _ _ => rfl⟩
theorem Agr.hav {wr : List Nat} {h : Env} : Agr wr e (hav wr h e) := ⟨fun t ht => by unfold Own.hav; rw [ht]; rfl⟩
theorem Agr.upd {wr : List Nat} {e' : Env} {d : Nat} {v : Value} (hd : wr.any (Nat.beq d) = true) (h : Agr wr e e') : Agr wr e (upd e' d v) := ⟨fun t ht => by
  unfold Own.upd
  cases hc : Nat.beq t d with
  | false => exact h.at_ t ht
  | true => have := Nat.eq_of_beq_eq_true hc; subst this; rw [hd] at ht; cases ht⟩
theorem Agr.put {wr : List Nat} {e' : Env} {d : Nat} {v : Value} (hd : wr.any (Nat.beq d) = true) (h : Agr wr e e') : Agr wr e (Own.put e' (some d) v) := Agr.upd hd h
theorem Agr.put0 {wr : List Nat} {e' : Env} {v : Value} (h : Agr wr e e') : Agr wr e (Own.put e' none v) := h
theorem Agr.in {wr wr' : List Nat} {e' h : Env} (hs : wr'.all (fun t => wr.any (Nat.beq t)) = true) (ha : Agr wr e e') : Agr wr e (Own.hav wr' h e') := ⟨fun t ht => by
  unfold Own.hav
  cases hc : wr'.any (Nat.beq t) with
  | false => exact ha.at_ t ht
  | true =>
    obtain ⟨x, hx, hxt⟩ := List.any_eq_true.1 hc
    have := Nat.eq_of_beq_eq_true hxt; subst this
    have := List.all_eq_true.1 hs _ hx
    rw [this] at ht; cases ht⟩
theorem Agr.eq {wr : List Nat} {e' : Env} (h : Agr wr e e') : e' = Own.hav wr e' e := by
  funext t
  unfold Own.hav
  cases hc : wr.any (Nat.beq t) with
  | false => exact h.at_ t hc
  | true => rfl
theorem Agr.trans {wr : List Nat} {e1 e2 : Env} (h : Agr wr e e1) (k : Agr wr e1 e2) : Agr wr e e2 := ⟨fun t ht => (k.at_ t ht).trans (h.at_ t ht)⟩

/-- a loop; slots: h is the frame at a round's head, of which the slots wr may have turned; I says of it what the round needs -/
theorem C.loop {c : Code} (wr : List Nat) (I : Nat → Env → World → Prop) (m : Nat) (h0 : I m e w)
    (hr : ∀ m h w, I m h w → C P n (thenE (fun e' w' => Agr wr e e' ∧ ∃ k, k < m ∧ I k e' w') Q) c (hav wr h e) w) : C P n Q (.loop c) e w := by
  refine ⟨fun a ha => ?_⟩
  refine wp_loop_ghost (fun k a w => ∃ e', Fr n a e' ∧ Agr wr e e' ∧ I k e' w) m ⟨e, ha, Agr.refl, h0⟩ fun k a w hI => ?_
  obtain ⟨e1, fr, ag, hk⟩ := hI
  have hrr := hr _ e1 w hk
  rw [← ag.eq] at hrr
  refine Code.wp_mono (fun ex a' w' ⟨e', fr', hq⟩ => ?_) (hrr.go a fr)
  cases ex with
  | normal =>
    obtain ⟨ag', k', hlt, hk'⟩ := hq
    exact ⟨k', hlt, e', fr', ag', hk'⟩
  | _ => exact ⟨e', fr', hq⟩
end
end Go.Own

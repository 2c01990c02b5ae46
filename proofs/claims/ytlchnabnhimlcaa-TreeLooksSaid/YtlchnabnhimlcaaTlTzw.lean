/- Trees, plain: Write keeps a tree well formed; so do all operations. Trees, plain: a path's last name; every operation that answers OK keeps a tree well formed. Trees, plain: what an operation that answers OK has done; it keeps a tree well formed. octet: Put, number, Get, as plain data and walked. More rules of the walk: a string's bytes copied into a variable. Over any program. package tree, walked: the page of a node. package tree, walked: the page of a node, whole. package tree, walked: Pages. crc: On, Of, Seal, Open, as plain data and walked. octet's Reader. package tree, walked: node. package tree, walked: Parse. Trees, plain: pages and back. Trees, plain: what is written is read. Trees, plain: what Write does to what is read. -/
import Derived.Test.YtlchnabnhimlcaaTlTl
import Derived.Test.YtlchnabnhimlcaaTlK4
import Derived.Test.YtlchnabnhimlcaaTlTy
import Derived.Test.YtlchnabnhimlcaaTlTx3
set_option linter.unusedSimpArgs false
set_option linter.unusedVariables false
namespace Go.Proofs.Ytlchnabnhimlcaa
open Go Go.RowKit Go.Own
theorem wf_same {t t' : TR} (h : WF t) (hok : t'.Ok) (hr : t'.n 0 = Nd.root) (hp : ∀ j, (t'.n j).parent = (t.n j).parent ∧ (t'.n j).name = (t.n j).name ∧ (t'.n j).kind = (t.n j).kind) (hz : ∀ j, j < 8 → t.n j = Nd.zero → t'.n j = Nd.zero) (hsh : ∀ j, 1 ≤ j → j < 8 → t.n j ≠ Nd.zero → Shaped (t'.n j)) (hb : BF t') : WF t' := by
  have hup : ∀ j, up t' j = up t j := fun j => by unfold up; rw [(hp j).1]
  refine ⟨hok, hr, fun j hj1 hj => ?_, fun a b ha1 ha hb1 hb' hne hza hzb hs => ?_, hb⟩
  · by_cases hzj : t.n j = Nd.zero
    · exact .inl (hz j hj hzj)
    · right
      have hg := (h.nd j hj1 hj).resolve_left hzj
      obtain ⟨f, hf⟩ := hg.rt
      refine ⟨by rw [(hp j).1]; exact hg.p0, by rw [(hp j).1]; exact hg.p8, by rw [hup, (hp _).2.2]; exact hg.dir, by rw [(hp j).2.1]; exact hg.nm, ⟨f, ?_⟩, hsh j hj1 hj hzj⟩
      exact it_same (S := fun _ => True) (fun _ _ _ => trivial) (fun j _ _ => hup j) (up_root h.root) (up_root hr) f j trivial hf
  · exact h.un a b ha1 ha hb1 hb' hne (fun e => hza (hz a ha e)) (fun e => hzb (hz b hb' e)) ⟨by rw [← (hp a).1, ← (hp b).1]; exact hs.1, by rw [← (hp a).2.1, ← (hp b).2.1]; exact hs.2⟩
def Fresh (t : TR) (x : Int) : Prop := 1 ≤ x ∧ x ≤ 8 ∧ ∀ i, i < 8 → (t.n i).b0 ≠ x ∧ (t.n i).b1 ≠ x
theorem unusedFrom_fresh {t : TR} : ∀ {f b : Nat}, unusedFrom t f b ≠ 0 → hasB t (unusedFrom t f b) = false
  | 0, b, h => absurd rfl h
  | f + 1, b, h => by
    rw [unusedFrom] at h ⊢
    split at h
    · rename_i hb
      rw [if_pos hb]
      exact unusedFrom_fresh h
    · rename_i hb
      rw [if_neg hb]
      simpa using hb
theorem unused_fresh {t : TR} (ht : t.Ok) (h : unusedM t ≠ 0) : Fresh t (unusedM t) := by
  have h1 : hasB t (unusedM t) = false := unusedFrom_fresh h
  refine ⟨by omega, by have := unusedM_le (t := t); omega, fun i hi => ?_⟩
  unfold hasB at h1
  rw [List.any_eq_false] at h1
  have := h1 (t.n i) (by rw [TR.n_get ht hi]; exact List.getElem_mem _)
  simpa using this
structure Grown (t u : TR) (f : Nat) (size : Int) (x0 x1 : Int) : Prop where
  eq : u = t.set f { t.n f with size := size, b0 := x0, b1 := x1 }
  a0 : x0 = (t.n f).b0 ∨ ((t.n f).b0 = 0 ∧ 0 < size ∧ Fresh t x0)
  a1 : x1 = (t.n f).b1 ∨ ((t.n f).b1 = 0 ∧ 40 < size ∧ Fresh t x1 ∧ x1 ≠ x0)
  c0 : 0 < size → x0 ≠ 0
  c1 : 40 < size → x1 ≠ 0
theorem set_self_n {t : TR} (ht : t.Ok) {f : Nat} (hf : f < 8) : t.set f (t.n f) = t := by
  unfold TR.set
  rw [TR.n_get ht hf, List.set_getElem_self]
theorem grown_of {t u : TR} {f : Nat} {size quota : Int} (ht : t.Ok) (hf : f < 8) (h : growM t f size quota = some u) : ∃ x0 x1, Grown t u f size x0 x1 := by
  rw [growM_eq] at h
  unfold growTo growTo growTo at h
  simp only [Option.bind_some] at h
  cases h0 : growJ t f size quota 0 with
  | none => rw [h0] at h; cases h
  | some a =>
    rw [h0, Option.bind_some] at h
    cases h1 : growJ a f size quota 1 with
    | none => rw [h1] at h; cases h
    | some b =>
      rw [h1, Option.map_some] at h
      cases h
      have e0 : ∃ x0, a = t.set f { t.n f with b0 := x0 } ∧ (x0 = (t.n f).b0 ∨ ((t.n f).b0 = 0 ∧ 0 < size ∧ Fresh t x0)) ∧ (0 < size → x0 ≠ 0) := by
        unfold growJ at h0
        split at h0
        · rename_i hc
          cases h0
          refine ⟨(t.n f).b0, (set_self_n ht hf).symm, .inl rfl, fun hs => ?_⟩
          rcases hc with hc | hc
          · omega
          · exact hc
        · rename_i hc
          split at h0
          · cases h0
          · rename_i hc2
            cases h0
            have hfr := unused_fresh ht (show unusedM t ≠ 0 by omega)
            have hc' : ¬ (size ≤ ((0 : Nat) : Int) * 40) ∧ ¬ ((t.n f).b0 ≠ 0) := ⟨fun h => hc (.inl h), fun h => hc (.inr h)⟩
            exact ⟨unusedM t, rfl, .inr ⟨by omega, by omega, hfr⟩, fun _ => by have := hfr.1; omega⟩
      obtain ⟨x0, ea, p0, q0⟩ := e0
      have oka : a.Ok := by rw [ea]; exact TR.ok_set ht _ _
      have ena : a.n f = { t.n f with b0 := x0 } := by rw [ea, TR.n_set ht hf, if_pos rfl]
      have e1 : ∃ x1, b = t.set f { t.n f with b0 := x0, b1 := x1 } ∧ (x1 = (t.n f).b1 ∨ ((t.n f).b1 = 0 ∧ 40 < size ∧ Fresh t x1 ∧ x1 ≠ x0)) ∧ (40 < size → x1 ≠ 0) := by
        unfold growJ at h1
        split at h1
        · rename_i hc
          cases h1
          refine ⟨(t.n f).b1, ?_, .inl rfl, fun hs => ?_⟩
          · exact ea
          · rcases hc with hc | hc
            · omega
            · rw [ena] at hc; exact hc
        · rename_i hc
          split at h1
          · cases h1
          · rename_i hc2
            cases h1
            have hfr := unused_fresh oka (show unusedM a ≠ 0 by omega)
            have hc' : ¬ (size ≤ ((1 : Nat) : Int) * 40) ∧ ¬ ((a.n f).b1 ≠ 0) := ⟨fun h => hc (.inl h), fun h => hc (.inr h)⟩
            have hb1 : (a.n f).b1 = (t.n f).b1 := by rw [ena]
            have hx0 : (a.n f).b0 = x0 := by rw [ena]
            have hff := hfr.2.2 f hf
            refine ⟨unusedM a, ?_, .inr ⟨by omega, by omega, ⟨hfr.1, hfr.2.1, fun i hi => ?_⟩, by omega⟩, fun _ => by have := hfr.1; omega⟩
            · rw [ena, ea]
              unfold TR.set
              rw [List.set_set]
              rfl
            · by_cases e : f = i
              · subst e
                refine ⟨?_, by rw [← hb1]; exact hff.2⟩
                rcases p0 with p0 | p0
                · rw [← p0, ← hx0]; exact hff.1
                · have := hfr.1; omega
              · have := hfr.2.2 i hi
                have hni : a.n i = t.n i := by rw [ea, TR.n_set ht hf, if_neg e]
                rw [hni] at this
                exact this
      obtain ⟨x1, eb, p1, q1⟩ := e1
      have okb : b.n f = { t.n f with b0 := x0, b1 := x1 } := by rw [eb, TR.n_set ht hf, if_pos rfl]
      refine ⟨x0, x1, ?_, p0, p1, q0, q1⟩
      rw [okb, eb]
      unfold TR.set
      rw [List.set_set]
theorem poke_other {u : TR} (hu : u.Ok) {f p : Nat} {c : UInt8} (hb : 0 < (u.n f).blk (p / 40) ∧ (u.n f).blk (p / 40) ≤ 8) {k q : Nat} (hn : ¬ ((u.n f).blk (p / 40) = (k : Int) + 1 ∧ p % 40 = q)) : ((pokeM u f p c).b k)[q]? = (u.b k)[q]? := by
  unfold pokeM
  rw [TR.b_setB hu (by omega)]
  by_cases e : ((u.n f).blk (p / 40) - 1).toNat = k
  · rw [if_pos e, e]
    have : p % 40 ≠ q := fun h => hn ⟨by omega, h⟩
    rw [List.getElem?_set_ne this]
  · rw [if_neg e]
theorem pokes_other {f k q : Nat} : ∀ {l : Str} {u : TR} {p : Nat}, u.Ok → (∀ i : Nat, p ≤ i → i < p + l.length → 0 < (u.n f).blk (i / 40) ∧ (u.n f).blk (i / 40) ≤ 8) → (∀ i : Nat, p ≤ i → i < p + l.length → ¬ ((u.n f).blk (i / 40) = (k : Int) + 1 ∧ i % 40 = q)) → ((pokesM u f p l).b k)[q]? = (u.b k)[q]?
  | [], u, p, _, _, _ => rfl
  | c :: l, u, p, hu, hb, hn => by
    rw [pokesM, pokes_other (ok_poke hu (hb p (Nat.le_refl _) (by simp))) (fun i h1 h2 => hb i (by omega) (by simp only [List.length_cons]; omega)) (fun i h1 h2 => hn i (by omega) (by simp only [List.length_cons]; omega))]
    exact poke_other hu (hb p (Nat.le_refl _) (by simp)) (hn p (Nat.le_refl _) (by simp))
theorem wf_write {t u : TR} (h : WF t) {f : Nat} (hf1 : 1 ≤ f) (hf : f < 8) (hk : (t.n f).kind = 2) {size quota : Int} (hg : growM t f size quota = some u) (hs1 : (t.n f).size ≤ size) (hs2 : size ≤ 80) {a : Nat} {l : Str} (hal : (a : Int) + l.length ≤ size) : WF (pokesM u f a l) := by
  obtain ⟨x0, x1, G⟩ := grown_of h.ok hf hg
  obtain ⟨hu, hub, hus, hun⟩ := growM_facts h.ok hf (bksJ_iff.2 (h.bks f hf)) hg
  have hnz : t.n f ≠ Nd.zero := kind_nz (by rw [hk]; decide)
  have hsh := ((h.nd f hf1 hf).resolve_left hnz).sh
  have hun' : ∀ j, u.n j = if f = j then { t.n f with size := size, b0 := x0, b1 := x1 } else t.n j := fun j => by rw [G.eq, TR.n_set h.ok hf]
  have hblk : ∀ i : Nat, a ≤ i → i < a + l.length → 0 < (u.n f).blk (i / 40) ∧ (u.n f).blk (i / 40) ≤ 8 := by
    intro i h1 h2
    have hj : i / 40 < 2 := by omega
    have b1 := hub _ hj
    have b2 := hun _ hj (by have := Nat.div_mul_le_self i 40; omega)
    omega
  have hok : (pokesM u f a l).Ok := ok_pokes hu hblk
  have hn : ∀ j, (pokesM u f a l).n j = u.n j := fun j => pokes_n
  have hb0 : (u.n f).blk 0 = x0 := by rw [hun', if_pos rfl]; rfl
  have hb1 : (u.n f).blk 1 = x1 := by rw [hun', if_pos rfl]; rfl
  have hub0 := hub 0 (by omega)
  have hub1 := hub 1 (by omega)
  rw [hb0] at hub0
  rw [hb1] at hub1
  have hct : ∀ p, (clAt (pokesM u f a l) p) = clAt u p := fun p => by unfold clAt; rw [hn]
  -- a place's number is as it was, or fresh
  have hcl : ∀ p, p < 16 → (p / 2 ≠ f → clAt u p = clAt t p) ∧ (p / 2 = f → (clAt u p).1 = if p % 2 = 0 then x0 else x1) ∧ (p / 2 = f → (clAt t p).1 = if p % 2 = 0 then (t.n f).b0 else (t.n f).b1) := by
    intro p hp
    refine ⟨fun e => ?_, fun e => ?_, fun e => ?_⟩
    · have := hun' (p / 2)
      rw [if_neg (fun e' => e e'.symm)] at this
      unfold clAt
      rw [this]
    · rw [clAt_of, e, hun', if_pos rfl]
    · rw [clAt_of, e]
  have hfr : ∀ x, Fresh t x → ∀ p, p < 16 → (clAt t p).1 ≠ x := by
    intro x hx p hp
    rw [clAt_of]
    have := hx.2.2 (p / 2) (by omega)
    split
    · exact this.1
    · exact this.2
  have hor : ∀ p, p < 16 → (clAt u p).1 = (clAt t p).1 ∨ ((clAt t p).1 = 0 ∧ Fresh t (clAt u p).1 ∧ p / 2 = f) := by
    intro p hp
    obtain ⟨q1, q2, q3⟩ := hcl p hp
    by_cases e : p / 2 = f
    · rw [q2 e, q3 e]
      split
      · rcases G.a0 with h' | ⟨h1, _, h3⟩
        · exact .inl h'
        · exact .inr ⟨h1, h3, e⟩
      · rcases G.a1 with h' | ⟨h1, _, h3, _⟩
        · exact .inl h'
        · exact .inr ⟨h1, h3, e⟩
    · exact .inl (by rw [q1 e])
  refine wf_same h hok ?_ (fun j => ?_) (fun j hj hz => ?_) (fun j hj1 hj hz => ?_) ⟨fun p q hp hq hne h0 => ?_, fun k q hk8 hq hl => ?_⟩
  · rw [hn, hun', if_neg (by omega), h.root]
  · rw [hn, hun']
    split
    · rename_i e; subst e; exact ⟨rfl, rfl, rfl⟩
    · exact ⟨rfl, rfl, rfl⟩
  · rw [hn, hun', if_neg (fun e => hnz (by rw [e]; exact hz)), hz]
  · rw [hn, hun']
    split
    · unfold Shaped at hsh ⊢
      dsimp only
      have c0 := G.c0
      have c1 := G.c1
      have a0 := G.a0
      have a1 := G.a1
      right
      refine ⟨hk, by omega, hs2, fun hz' => ?_, fun hz' => ⟨by have := c0 hz'; omega, by omega⟩, fun hz' => ?_, fun hz' => ⟨by have := c1 hz'; omega, by omega⟩⟩
      · rcases a0 with h' | ⟨_, h', _⟩
        · omega
        · omega
      · rcases a1 with h' | ⟨_, h', _⟩
        · omega
        · omega
    · exact ((h.nd j hj1 hj).resolve_left hz).sh
  · rw [hct p] at h0 ⊢
    rw [hct q]
    rcases hor p hp with e1 | ⟨e1, f1, g1⟩
    · rw [e1] at h0 ⊢
      rcases hor q hq with e2 | ⟨e2, f2, g2⟩
      · rw [e2]; exact h.bf.one p q hp hq hne h0
      · exact hfr _ f2 p hp
    · rcases hor q hq with e2 | ⟨e2, f2, g2⟩
      · rw [e2]; exact fun e => hfr _ f1 q hq e.symm
      · obtain ⟨_, p2, p3⟩ := hcl p hp
        obtain ⟨_, q2, q3⟩ := hcl q hq
        rw [p2 g1] at f1 ⊢
        rw [q2 g2] at f2 ⊢
        rw [p3 g1] at e1
        rw [q3 g2] at e2
        rcases (show p % 2 = 0 ∧ q % 2 = 1 ∨ p % 2 = 1 ∧ q % 2 = 0 by omega) with ⟨m1, m2⟩ | ⟨m1, m2⟩
        · rw [if_pos m1, if_neg (by omega)]
          rw [if_pos m1] at f1
          rw [if_neg (by omega)] at f2 e2
          rcases G.a1 with h' | ⟨_, _, _, h'⟩
          · have := f2.1; omega
          · exact fun e => h' e.symm
        · rw [if_neg (by omega), if_pos m2]
          rw [if_neg (by omega)] at f1 e1
          rcases G.a1 with h' | ⟨_, _, _, h'⟩
          · have := f1.1; omega
          · exact h'
  · have hl' : ∀ p, p < 16 → (clAt u p).1 = (k : Int) + 1 → (clAt u p).2 ≤ (q : Int) := fun p hp he => by
      rw [← hct p]; exact hl p hp (by rw [hct p]; exact he)
    have hpk : ∀ i : Nat, a ≤ i → i < a + l.length → ¬ ((u.n f).blk (i / 40) = (k : Int) + 1 ∧ i % 40 = q) := by
      rintro i h1 h2 ⟨e1, e2⟩
      have hj : i / 40 < 2 := by omega
      have hq2 := hl' (2 * f + i / 40) (by omega) (by
        rw [clAt_of, show (2 * f + i / 40) / 2 = f by omega, show (2 * f + i / 40) % 2 = i / 40 by omega, ← e1]
        rfl)
      unfold clAt at hq2
      rw [show (2 * f + i / 40) / 2 = f by omega, show (2 * f + i / 40) % 2 = i / 40 by omega, hun', if_pos rfl] at hq2
      unfold least at hq2
      split at hq2 <;> dsimp only at hq2 <;> split at hq2 <;> omega
    rw [pokes_other hu hblk hpk]
    have hbu : u.b k = t.b k := by rw [G.eq]; rfl
    rw [hbu]
    refine h.bf.nought k q hk8 hq (fun p hp he => ?_)
    obtain ⟨p1, p2, p3⟩ := hcl p hp
    by_cases e : p / 2 = f
    · have he2 : (clAt u p).1 = (k : Int) + 1 := by
        rcases hor p hp with e1 | ⟨e1, _⟩
        · rw [e1]; exact he
        · omega
      have := hl' p hp he2
      have hmono : (clAt t p).2 ≤ (clAt u p).2 := by
        unfold clAt
        rw [e, hun', if_pos rfl]
        unfold least
        split <;> dsimp only <;> split <;> split <;> omega
      omega
    · rw [← p1 e]
      exact hl' p hp (by rw [p1 e]; exact he)
end Go.Proofs.Ytlchnabnhimlcaa
set_option linter.unusedSimpArgs false
set_option linter.unusedVariables false
namespace Go.Proofs.Ytlchnabnhimlcaa
open Go Go.RowKit Go.Own
def NoSl (s : Str) : Prop := ∀ x ∈ s, x ≠ 47
theorem NoSl.nil : NoSl [] := fun x hx => by cases hx
theorem cut_cases : ∀ s : Str, NoSl s ∨ ∃ a r, NoSl a ∧ s = a ++ 47 :: r
  | [] => .inl NoSl.nil
  | c :: s => by
    by_cases hc : c = 47
    · subst hc; exact .inr ⟨[], s, NoSl.nil, rfl⟩
    · rcases cut_cases s with h | ⟨a, r, h1, h2⟩
      · left; intro x hx
        rcases List.mem_cons.1 hx with rfl | hx
        · exact hc
        · exact h x hx
      · right
        refine ⟨c :: a, r, fun x hx => ?_, by rw [h2]; rfl⟩
        rcases List.mem_cons.1 hx with rfl | hx
        · exact hc
        · exact h1 x hx
theorem cutS_no : ∀ {s : Str}, NoSl s → cutS s = (s, none)
  | [], _ => rfl
  | c :: s, h => by
    rw [cutS, if_neg (h c (by simp)), cutS_no (fun x hx => h x (by simp [hx]))]
theorem cutS_app : ∀ {a r : Str}, NoSl a → cutS (a ++ 47 :: r) = (a, some r)
  | [], r, _ => by rw [List.nil_append, cutS, if_pos rfl]
  | c :: a, r, h => by
    rw [List.cons_append, cutS, if_neg (h c (by simp)), cutS_app (fun x hx => h x (by simp [hx]))]
theorem parts_no {s : Str} (h : NoSl s) : parts s = [s] := by
  have e := cutS_no h
  rw [parts_none (by rw [e]), e]
theorem parts_app {a r : Str} (h : NoSl a) : parts (a ++ 47 :: r) = a :: parts r := by
  have e := cutS_app (r := r) h
  rw [parts_some (r := r) (by rw [e]), e]
theorem lastM_no : ∀ {s : Str}, NoSl s → lastM s = none
  | [], _ => rfl
  | c :: s, h => by
    rw [lastM, lastM_no (fun x hx => h x (by simp [hx]))]
    simp [h c (by simp)]
theorem lastM_app : ∀ {a r : Str}, lastM (a ++ 47 :: r) = some (a.length + match lastM r with | some j => j + 1 | none => 0)
  | [], r => by
    rw [List.nil_append, lastM]
    cases lastM r with
    | none => simp
    | some j => simp
  | c :: a, r => by
    rw [List.cons_append, lastM, lastM_app]
    simp
    omega
theorem lastM_none_no {s : Str} (h : lastM s = none) : NoSl s := by
  rcases cut_cases s with h' | ⟨a, r, _, rfl⟩
  · exact h'
  · rw [lastM_app] at h; cases h
theorem parts_last : ∀ (n : Nat) (s : Str) (i : Nat), s.length ≤ n → lastM s = some i → parts s = parts (s.take i) ++ [s.drop (i + 1)]
  | 0, s, i, hn, h => by
    obtain rfl : s = [] := List.eq_nil_of_length_eq_zero (by omega)
    cases h
  | n + 1, s, i, hn, h => by
    rcases cut_cases s with h' | ⟨a, r, ha, rfl⟩
    · rw [lastM_no h'] at h; cases h
    · rw [lastM_app] at h
      have hrl : r.length ≤ n := by simp at hn; omega
      cases hr : lastM r with
      | none =>
        rw [hr] at h
        simp at h
        subst h
        rw [parts_app ha, parts_no (lastM_none_no hr), List.take_left, parts_no ha]
        simp [List.drop_append]
      | some j =>
        rw [hr] at h
        simp at h
        subst h
        have e1 : (a ++ 47 :: r).take (a.length + (j + 1)) = a ++ 47 :: r.take j := by
          rw [List.take_append, List.take_of_length_le (by omega), show a.length + (j + 1) - a.length = j + 1 by omega, List.take_succ_cons]
        have e2 : (a ++ 47 :: r).drop (a.length + (j + 1) + 1) = r.drop (j + 1) := by
          rw [List.drop_append, List.drop_of_length_le (by omega), show a.length + (j + 1) + 1 - a.length = (j + 1) + 1 by omega, List.nil_append, List.drop_succ_cons]
        rw [e1, e2, parts_app ha, parts_app ha, parts_last n r j hrl hr, List.cons_append]
theorem names_cons {r : Str} (h : r ≠ []) : namesM (47 :: r) = parts r := by
  unfold namesM
  rw [if_neg (by intro e; exact h (by simpa using e))]
  rfl
theorem isName_ne {s : Str} (h : isNameM s = true) : s ≠ [] ∧ s.length ≤ 8 := by
  unfold isNameM at h
  simp only [Bool.and_eq_true, decide_eq_true_eq] at h
  refine ⟨fun e => ?_, h.1.2⟩
  subst e
  simp at h
theorem inner_names {p : Str} (h : isInnerM p = true) : ∃ r, p = 47 :: r ∧ r ≠ [] ∧ p.length ≤ 72 ∧ namesM p = parts r ∧ ∀ x ∈ parts r, isNameM x = true := by
  obtain ⟨h1, h2⟩ := inner_facts h
  unfold isInnerM isPathM at h
  simp only [Bool.and_eq_true, Bool.or_eq_true, decide_eq_true_eq] at h
  cases p with
  | nil => cases h2
  | cons c r =>
    simp at h2; subst h2
    have hr : r ≠ [] := fun e => h.1 (by rw [e])
    have hn := names_cons hr
    rcases h.2 with h3 | h3
    · exact absurd h3 h.1
    · refine ⟨r, rfl, hr, h1, hn, fun x hx => ?_⟩
      have := h3.2
      rw [hn] at this
      exact List.all_eq_true.1 this x hx
/-- the path above, and the last name -/
theorem split_names {p : Str} (h : isInnerM p = true) : namesM p = namesM (splitM p).1 ++ [(splitM p).2] ∧ isNameM (splitM p).2 = true ∧ isPathM (splitM p).1 = true := by
  obtain ⟨r, rfl, hr, hl, hn, hall⟩ := inner_names h
  have hlm : lastM (47 :: r) = some (match lastM r with | some j => j + 1 | none => 0) := by
    have := lastM_app (a := []) (r := r)
    rw [List.nil_append] at this
    rw [this]
    simp
  cases hj : lastM r with
  | none =>
    rw [hj] at hlm
    have hs : splitM (47 :: r) = ([47], r) := by unfold splitM; rw [hlm]; rfl
    have hp := parts_no (lastM_none_no hj)
    rw [hs, hn, hp]
    exact ⟨rfl, hall r (by rw [hp]; simp), rfl⟩
  | some j =>
    rw [hj] at hlm
    have hs : splitM (47 :: r) = (47 :: r.take j, r.drop (j + 1)) := by
      unfold splitM
      rw [hlm]
      simp
    have hp := parts_last r.length r j (Nat.le_refl _) hj
    have hne : r.take j ≠ [] := by
      intro e
      have := hall [] (by rw [hp, e]; exact List.mem_append_left _ (by rw [parts_no NoSl.nil]; simp))
      exact (isName_ne this).1 rfl
    have hnt := names_cons hne
    rw [hs]
    refine ⟨by dsimp only; rw [hn, hp, hnt], hall _ (by rw [hp]; simp), ?_⟩
    dsimp only
    unfold isPathM
    rw [hnt]
    have h1 : (47 :: r.take j).length ≤ 72 := by
      simp only [List.length_cons, List.length_take] at hl ⊢
      omega
    rw [decide_eq_true (show (47 :: r.take j : Str) ≠ [] ∧ (47 :: r.take j).length ≤ 72 ∧ (47 :: r.take j)[0]? = some 47 from ⟨by simp, h1, by simp⟩)]
    simp only [Bool.true_and, Bool.or_eq_true]
    right
    exact List.all_eq_true.2 fun x hx => hall x (by rw [hp]; exact List.mem_append_left _ hx)
/-- where an inner path leads is no root -/
theorem walk_snoc {t : TR} {l : List Str} {nm : Str} {a k : Nat} (ha : a < 8) (h : walkM t (l ++ [nm]) a = ((k : Int), 0)) : ∃ d : Nat, d < 8 ∧ walkM t l a = ((d : Int), 0) ∧ (t.n d).kind = 1 ∧ childM t (d : Int) nm = (k : Int) := by
  by_cases he : (walkM t l a).2 = 0
  · obtain ⟨d, hd, hw⟩ := walk_range l a ha he
    rw [walk_app hw] at h
    rw [walkM] at h
    split at h
    · cases h
    · rename_i hk
      split at h
      · cases h
      · rw [walkM] at h
        rw [Int.toNat_natCast] at hk
        exact ⟨d, hd, hw, by simpa using hk, (Prod.mk.inj h).1⟩
  · rw [walk_err he] at h
    rw [h] at he
    exact absurd rfl he
theorem find_inner {t : TR} {p : Str} (hin : isInnerM p = true) {k : Nat} (h : findM t p = ((k : Int), 0)) : 1 ≤ k ∧ k < 8 ∧ (t.n k).kind ≠ 0 ∧ ∃ d : Nat, d < 8 ∧ findM t (splitM p).1 = ((d : Int), 0) ∧ (t.n d).kind = 1 ∧ childM t (d : Int) (splitM p).2 = (k : Int) := by
  obtain ⟨h1, h2, h3⟩ := split_names hin
  have hp : isPathM p = true := by
    unfold isInnerM at hin
    simp only [Bool.and_eq_true] at hin
    exact hin.2
  unfold findM at h
  rw [if_pos hp, h1] at h
  obtain ⟨d, hd, hw, hk, hc⟩ := walk_snoc (a := 0) (by omega) h
  rcases childM_range (t := t) (d := (d : Int)) (nm := (splitM p).2) with hn | ⟨k', hk8, hk1, he, hkk, _, _⟩
  · omega
  · obtain rfl : k = k' := by omega
    refine ⟨hk1, hk8, hkk, d, hd, ?_, hk, hc⟩
    unfold findM
    rw [if_pos h3]
    exact hw
end Go.Proofs.Ytlchnabnhimlcaa
set_option linter.unusedSimpArgs false
set_option linter.unusedVariables false
namespace Go.Proofs.Ytlchnabnhimlcaa
open Go Go.RowKit Go.Own
theorem kindOf_err {t : TR} {p : Str} {k : Int} (h : ¬ (kindOfM t p k).2 ≠ 0) : ∃ q : Nat, q < 8 ∧ kindOfM t p k = ((q : Int), 0) ∧ (t.n q).kind = k ∧ findM t p = ((q : Int), 0) := kindOfM_range (by simpa using h)
theorem make_ok {t : TR} {p : Str} {k : Int} (h : (makeM t p k).2 = 0) : checkM t = true ∧ (k = 1 ∨ k = 2) ∧ isInnerM p = true ∧ ∃ i d : Nat, findM t (splitM p).1 = ((d : Int), 0) ∧ d < 8 ∧ (t.n d).kind = 1 ∧ childM t (d : Int) (splitM p).2 < 0 ∧ 1 ≤ i ∧ i < 8 ∧ (t.n i).kind = 0 ∧ (makeM t p k).1 = t.set i ⟨k, (d : Int), (splitM p).2, 0, 0, 0⟩ := by
  unfold makeM at h ⊢
  split at h
  · cases h
  rename_i h1
  split at h
  · cases h
  rename_i h2
  split at h
  · rename_i h3; exact absurd h h3
  rename_i h3
  obtain ⟨d, hd, hk, hkd, hfd⟩ := kindOf_err h3
  split at h
  · cases h
  rename_i h4
  rw [hk] at h4
  split at h
  · cases h
  rename_i i hi
  have hfr := freeFrom_some hi
  rw [if_neg h1, if_neg h2, if_neg h3, hk, if_neg h4]
  refine ⟨by simpa using h1, by omega, by simpa using fun e => h2 (.inr e), i, d, hfd, hd, hkd, by dsimp only at h4; omega, hfr.1, by omega, hfr.2.2, rfl⟩
theorem check_make {t : TR} (ht : t.Ok) {p : Str} {k : Int} (h : (makeM t p k).2 = 0) : checkM (makeM t p k).1 = true := by
  obtain ⟨hc, hk, hin, i, d, hf, hd, hkd, hch, hi1, hi, hki, e⟩ := make_ok h
  have hw := (check_wf ht).1 hc
  rw [e, check_wf (TR.ok_set ht _ _)]
  exact wf_make hw hi1 hi (kind_of_good hw hi hki).2 hk hd hkd (split_names hin).2.1 hch
theorem cut_ok {t : TR} {p : Str} (h : (cutM t p).2 = 0) : checkM t = true ∧ ∃ f : Nat, findM t p = ((f : Int), 0) ∧ f < 8 ∧ (t.n f).kind = 2 ∧ (cutM t p).1 = emptyM t f := by
  unfold cutM at h ⊢
  split at h
  · cases h
  rename_i h1
  split at h
  · rename_i h3; exact absurd h h3
  rename_i h3
  obtain ⟨d, hd, hk, hkd, hfd⟩ := kindOf_err h3
  rw [if_neg h1, if_neg h3, hk]
  exact ⟨by simpa using h1, d, hfd, hd, hkd, rfl⟩
theorem file_pos {t : TR} (h : t.n 0 = Nd.root) {f : Nat} (hk : (t.n f).kind = 2) : 1 ≤ f := by
  by_cases h0 : f = 0
  · subst h0; rw [h] at hk; exact absurd hk (by decide)
  · omega
theorem check_cut {t : TR} (ht : t.Ok) {p : Str} (h : (cutM t p).2 = 0) : checkM (cutM t p).1 = true := by
  obtain ⟨hc, f, _, hf, hk, e⟩ := cut_ok h
  have hw := (check_wf ht).1 hc
  rw [e, check_wf (ok_empty ht)]
  exact wf_cut hw (file_pos hw.root hk) hf
theorem remove_ok {t : TR} {p : Str} (h : (removeM t p).2 = 0) : checkM t = true ∧ isInnerM p = true ∧ ∃ f : Nat, findM t p = ((f : Int), 0) ∧ 1 ≤ f ∧ f < 8 ∧ heldFrom t (f : Int) 7 1 = false ∧ (removeM t p).1 = (emptyM t f).set f Nd.zero := by
  unfold removeM at h ⊢
  split at h
  · cases h
  rename_i h1
  split at h
  · cases h
  rename_i h2
  split at h
  · rename_i h3; exact absurd h h3
  rename_i h3
  obtain ⟨f, hf, hfd⟩ := findM_range (t := t) (p := p) (by simpa using h3)
  rw [hfd] at h
  split at h
  · cases h
  rename_i h4
  have hin : isInnerM p = true := by simpa using h2
  have hfi := find_inner hin hfd
  rw [if_neg h1, if_neg h2, if_neg h3, hfd, if_neg h4]
  exact ⟨by simpa using h1, hin, f, rfl, hfi.1, hf, by simpa using h4, rfl⟩
theorem check_remove {t : TR} (ht : t.Ok) {p : Str} (h : (removeM t p).2 = 0) : checkM (removeM t p).1 = true := by
  obtain ⟨hc, _, f, _, hf1, hf, hh, e⟩ := remove_ok h
  have hw := (check_wf ht).1 hc
  rw [e, check_wf (TR.ok_set (ok_empty ht) _ _)]
  exact wf_remove hw hf1 hf hh
theorem move_ok {t : TR} {p q : Str} (h : (moveM t p q).2 = 0) : checkM t = true ∧ isInnerM p = true ∧ isInnerM q = true ∧ ∃ a d : Nat, findM t p = ((a : Int), 0) ∧ 1 ≤ a ∧ a < 8 ∧ (t.n a).kind ≠ 0 ∧ findM t (splitM q).1 = ((d : Int), 0) ∧ d < 8 ∧ (t.n d).kind = 1 ∧ underFrom t (a : Int) 8 (d : Int) = false ∧ childM t (d : Int) (splitM q).2 < 0 ∧ (moveM t p q).1 = t.set a { t.n a with parent := (d : Int), name := (splitM q).2 } := by
  unfold moveM at h ⊢
  split at h
  · cases h
  rename_i h1
  split at h
  · cases h
  rename_i h2
  split at h
  · rename_i h3; exact absurd h h3
  rename_i h3
  obtain ⟨a, ha, hfa⟩ := findM_range (t := t) (p := p) (by simpa using h3)
  split at h
  · rename_i h4; exact absurd h h4
  rename_i h4
  obtain ⟨d, hd, hk, hkd, hfd⟩ := kindOf_err h4
  rw [hfa, hk] at h
  split at h
  · cases h
  rename_i h5
  split at h
  · cases h
  rename_i h6
  have hin : isInnerM p = true := by simpa using fun e => h2 (.inl e)
  have hfi := find_inner hin hfa
  rw [if_neg h1, if_neg h2, if_neg h3, if_neg h4, hfa, hk, if_neg h5, if_neg h6]
  exact ⟨by simpa using h1, hin, by simpa using fun e => h2 (.inr e), a, d, rfl, hfi.1, ha, hfi.2.2.1, hfd, hd, hkd, by simpa using h5, by dsimp only at h6; omega, rfl⟩
theorem check_move {t : TR} (ht : t.Ok) {p q : Str} (h : (moveM t p q).2 = 0) : checkM (moveM t p q).1 = true := by
  obtain ⟨hc, _, hin, a, d, _, ha1, ha, hka, _, hd, hkd, hu, hch, e⟩ := move_ok h
  have hw := (check_wf ht).1 hc
  rw [e, check_wf (TR.ok_set ht _ _)]
  exact wf_move hw ha1 ha (kind_nz hka) hd hkd (split_names hin).2.1 hch hu
theorem write_ok {t : TR} {p : Str} {a : Int} {l : Str} {qu : Int} (h : (writeM t p a l qu).2 = 0) : checkM t = true ∧ ∃ f o : Nat, findM t p = ((f : Int), 0) ∧ f < 8 ∧ (t.n f).kind = 2 ∧ a = (o : Int) ∧ (o : Int) + l.length ≤ 80 ∧
    ((l.length = 0 ∧ (writeM t p a l qu).1 = t) ∨ (l.length ≠ 0 ∧ ∃ u, growM t f (most (t.n f).size ((o : Int) + l.length)) qu = some u ∧ (writeM t p a l qu).1 = pokesM u f o l)) := by
  unfold writeM at h ⊢
  split at h
  · cases h
  rename_i h1
  split at h
  · rename_i h3; exact absurd h h3
  rename_i h3
  obtain ⟨f, hf, hk, hkf, hff⟩ := kindOf_err h3
  split at h
  · cases h
  rename_i h4
  split at h
  · cases h
  rename_i h5
  obtain ⟨o, rfl⟩ : ∃ o : Nat, a = o := ⟨a.toNat, by omega⟩
  rw [if_neg h1, if_neg h3, if_neg h4, if_neg h5]
  refine ⟨by simpa using h1, f, o, hff, hf, hkf, rfl, by omega, ?_⟩
  split at h
  · rename_i h6
    exact .inl ⟨h6, by rw [if_pos h6]⟩
  rename_i h6
  right
  rw [if_neg h6]
  rw [hk] at h ⊢
  refine ⟨h6, ?_⟩
  cases hg : growM t f (most (t.n f).size ((o : Int) + l.length)) qu with
  | none =>
    have : growM t ((f : Int), (0 : Int)).1.toNat (most (t.n ((f : Int), (0 : Int)).1.toNat).size ((o : Int) + l.length)) qu = none := hg
    rw [this] at h
    cases h
  | some u =>
    have : growM t ((f : Int), (0 : Int)).1.toNat (most (t.n ((f : Int), (0 : Int)).1.toNat).size ((o : Int) + l.length)) qu = some u := hg
    rw [this]
    exact ⟨u, rfl, rfl⟩
theorem check_write {t : TR} (ht : t.Ok) {p : Str} {a : Int} {l : Str} {qu : Int} (h : (writeM t p a l qu).2 = 0) : checkM (writeM t p a l qu).1 = true := by
  obtain ⟨hc, f, o, _, hf, hk, rfl, ho, ⟨_, e⟩ | ⟨hl, u, hg, e⟩⟩ := write_ok h
  · rw [e]; exact hc
  · have hw := (check_wf ht).1 hc
    have hf1 := file_pos hw.root hk
    have hok := ok_write ht (p := p) (a := (o : Int)) (l := l) (qu := qu)
    rw [e] at hok ⊢
    have hsh := ((hw.nd f hf1 hf).resolve_left (kind_nz (by rw [hk]; decide))).sh
    unfold Shaped at hsh
    rw [check_wf hok]
    exact wf_write hw hf1 hf hk hg (by unfold most; split <;> omega) (by unfold most; split <;> omega) (by unfold most; split <;> omega)
theorem check_new : checkM TR.new = true := by decide +kernel
end Go.Proofs.Ytlchnabnhimlcaa
set_option linter.unusedSimpArgs false
set_option linter.unusedVariables false
namespace Go.Proofs.Ytlchnabnhimlcaa
open Go Go.RowKit Go.Own
theorem rep_flat (n : Nat) (v : Value) : (List.replicate n [v]).flatten = List.replicate n v := by
  induction n with
  | zero => rfl
  | succ n ih => rw [List.replicate_succ, List.flatten_cons, ih, List.replicate_succ]; rfl
section
variable {s : Ro} {w : World} {R : List Asn}
end
end Go.Proofs.Ytlchnabnhimlcaa
set_option linter.unusedSimpArgs false
set_option linter.unusedVariables false
namespace Go.Own
open Go Go.RowKit
section
variable {P : Program} {n : Nat} {ops : Array Oper} {Q : Post} {rest : List Oper} {e : Env} {w w' : World} {s : Ro} {rs : List Asn} {tt : Nat} {pp : String} {af : Array Edge} {g : Option (Nat × Bool)} {d : Nat}
end
end Go.Own
set_option linter.unusedSimpArgs false
set_option linter.unusedVariables false
namespace Go.Proofs.Ytlchnabnhimlcaa
open Go Go.RowKit Go.Own
section
variable {s : Ro} {w : World} {R : List Asn}
end
end Go.Proofs.Ytlchnabnhimlcaa
set_option linter.unusedSimpArgs false
set_option linter.unusedVariables false
namespace Go.Proofs.Ytlchnabnhimlcaa
open Go Go.RowKit Go.Own
section
variable {s : Ro} {w : World} {R : List Asn}
end
end Go.Proofs.Ytlchnabnhimlcaa
set_option linter.unusedSimpArgs false
set_option linter.unusedVariables false
namespace Go.Proofs.Ytlchnabnhimlcaa
open Go Go.RowKit Go.Own
/-- pages in memory, only read from now on -/
def PgsV (s : Ro) (vl : List Value) (ps : List Str) : Prop := vl.length = ps.length ∧ ∀ (i : Nat) (p : Str), ps[i]? = some p → ∃ a c, vl[i]? = some (.slice a p.length c) ∧ SlS s (.slice a p.length c) 1 p.length (u8s p)
theorem PgsV.mono {s s' : Ro} {vl : List Value} {ps : List Str} (h : PgsV s vl ps) (hs : s.Le s') : PgsV s' vl ps :=
  ⟨h.1, fun i p hp => by obtain ⟨a, c, h1, h2⟩ := h.2 i p hp; exact ⟨a, c, h1, h2.mono hs⟩⟩
theorem PgsV.nil {s : Ro} : PgsV s [] [] := ⟨rfl, fun i p hp => by simp at hp⟩
section
variable {s : Ro} {w : World} {R : List Asn}
end
end Go.Proofs.Ytlchnabnhimlcaa
set_option linter.unusedSimpArgs false
set_option linter.unusedVariables false
namespace Go.Proofs.Ytlchnabnhimlcaa
open Go Go.RowKit Go.Own
def nibs : List Nat := [0, 274646895, 549293790, 820201905, 1098587580, 1361435347, 1640403810, 1905808397, 2197175160, 2460548119, 2722870694, 2987750089, 3280807620, 3553878443, 3811616794, 4084100981]
def nib (q : Nat) : Nat := nibs[q]?.getD 0
/-- the table, read-only, in its global block -/
def Nib (s : Ro) : Prop := ∀ q, q < 16 → Pin s 0 (0 + q * 1) (.int .u32 (nib q : Int))
theorem Nib.mono {s s' : Ro} (h : Nib s) (hs : s.Le s') : Nib s' := fun q hq => (h q hq).mono hs
section
variable {s : Ro} {w : World} {R : List Asn}
/-- any readable slice, all memory being read-only -/
theorem _root_.Go.Own.Src.full {rs : List Asn} {v : Value} {sz n : Nat} {xs : List Value} (h : Src s rs v sz n xs) (H : Holds s w rs) : SlS (Own.full s w) v sz n xs := by
  have := SlS.start (h.sl H)
  obtain ⟨a, c, h1, h2, h3, h4, h5⟩ := this
  exact ⟨a, c, h1, h2, h3, h4, h5⟩
theorem _root_.Go.Own.Src.skip {rs : List Asn} {A : Asn} {v : Value} {sz n : Nat} {xs : List Value} (h : Src s rs v sz n xs) : Src s (A :: rs) v sz n xs := ⟨fun w H => h.reads w H.tail, fun hx k hk => (h.blk hx k hk).imp id fun ⟨i, A, h1, h2⟩ => ⟨i + 1, A, by simpa using h1, h2⟩⟩
end
end Go.Proofs.Ytlchnabnhimlcaa
set_option linter.unusedSimpArgs false
set_option linter.unusedVariables false
namespace Go.Proofs.Ytlchnabnhimlcaa
open Go Go.RowKit Go.Own
section
variable {P : Program} {n : Nat} {ops : Array Oper} {Q : Post} {rest : List Oper} {e : Env} {w : World} {tt : Nat} {pp : String} {af : Array Edge} {g : Option (Nat × Bool)} {d : Nat}
end
section
variable {s : Ro} {w : World} {R : List Asn}
/-- a reader at block g: the bytes, and how far -/
structure Rdr (s : Ro) (a : Option Addr) (c : Nat) (l : List UInt8) : Prop where
  sl : SlS s (.slice a l.length c) 1 l.length (u8s l)
  few : l.length ≤ 1000
theorem Rdr.mono {s s' : Ro} {a : Option Addr} {c : Nat} {l : List UInt8} (h : Rdr s a c l) (hs : s.Le s') : Rdr s' a c l := ⟨h.sl.mono hs, h.few⟩
end
end Go.Proofs.Ytlchnabnhimlcaa
set_option linter.unusedSimpArgs false
set_option linter.unusedVariables false
namespace Go.Proofs.Ytlchnabnhimlcaa
open Go Go.RowKit Go.Own
section
variable {s : Ro} {w : World} {R : List Asn}
end
end Go.Proofs.Ytlchnabnhimlcaa
set_option linter.unusedSimpArgs false
set_option linter.unusedVariables false
namespace Go.Proofs.Ytlchnabnhimlcaa
open Go Go.RowKit Go.Own
section
variable {n : Nat} {ops : Array Oper} {Q : Post} {rest : List Oper} {e : Env} {w : World} {s : Ro} {rs R : List Asn} {tt : Nat} {pp : String} {af : Array Edge} {g : Option (Nat × Bool)} {d : Nat}
end
end Go.Proofs.Ytlchnabnhimlcaa
set_option linter.unusedSimpArgs false
set_option linter.unusedVariables false
namespace Go.Proofs.Ytlchnabnhimlcaa
open Go Go.RowKit Go.Own
end Go.Proofs.Ytlchnabnhimlcaa
set_option linter.unusedSimpArgs false
set_option linter.unusedVariables false
namespace Go.Proofs.Ytlchnabnhimlcaa
open Go Go.RowKit Go.Own
/-- the same names, parents and kinds -/
def SameP (t t' : TR) : Prop := ∀ j, (t'.n j).parent = (t.n j).parent ∧ (t'.n j).name = (t.n j).name ∧ (t'.n j).kind = (t.n j).kind
theorem child_same {t t' : TR} (h : SameP t t') {d : Int} {nm : Str} : childM t' d nm = childM t d nm := by
  have key : ∀ (f i : Nat), childFrom t' d nm f i = childFrom t d nm f i := by
    intro f
    induction f with
    | zero => intro i; rfl
    | succ f ih =>
      intro i
      rw [childFrom, childFrom, (h i).1, (h i).2.1, (h i).2.2, ih]
  exact key 7 1
theorem walk_same {t t' : TR} (h : SameP t t') : ∀ (l : List Str) (a : Int), walkM t' l a = walkM t l a
  | [], a => rfl
  | nm :: l, a => by
    rw [walkM, walkM, (h _).2.2, child_same h, walk_same h]
theorem find_same {t t' : TR} (h : SameP t t') (p : Str) : findM t' p = findM t p := by
  unfold findM
  split
  · exact walk_same h _ _
  · rfl
/-- what is read of a file from its beginning -/
def bytesOf (t : TR) (f : Nat) : Str := (List.range (t.n f).size.toNat).map fun i => peekM t f i
theorem read_all {t : TR} {p : Str} {f : Nat} (hc : checkM t = true) (hf : findM t p = ((f : Int), 0)) (hk : (t.n f).kind = 2) (h80 : (t.n f).size ≤ 80) : readM t p 0 80 = (bytesOf t f, 0) := by
  have hko : kindOfM t p 2 = ((f : Int), 0) := by
    unfold kindOfM
    rw [hf, if_neg (by simp), if_neg (by rw [Int.toNat_natCast]; simpa using hk)]
  unfold readM
  rw [if_neg (by simp [hc]), hko, if_neg (by simp), if_neg (by omega)]
  rw [Int.toNat_natCast]
  split
  · rename_i h
    unfold bytesOf
    rw [show (t.n f).size.toNat = 0 by omega]
    rfl
  · unfold bytesOf
    have e : (least 80 ((t.n f).size - 0)).toNat = (t.n f).size.toNat := by unfold least; split <;> omega
    rw [e]
    congr 1
    refine List.map_congr_left (fun i _ => ?_)
    show peekM t f (0 + i) = _
    rw [Nat.zero_add]
theorem peek_poke {u : TR} (hu : u.Ok) {f p i : Nat} {c : UInt8} (hp : 0 < (u.n f).blk (p / 40) ∧ (u.n f).blk (p / 40) ≤ 8) (hi : 0 < (u.n f).blk (i / 40) ∧ (u.n f).blk (i / 40) ≤ 8) (hd : i / 40 ≠ p / 40 → (u.n f).blk (i / 40) ≠ (u.n f).blk (p / 40)) : peekM (pokeM u f p c) f i = if i = p then c else peekM u f i := by
  have hn : (pokeM u f p c).n f = u.n f := rfl
  unfold peekM
  rw [hn]
  by_cases e : i = p
  · subst e
    rw [if_pos rfl]
    unfold pokeM
    rw [TR.b_setB hu (by omega), if_pos rfl, List.getElem?_set_self (by rw [TR.b_len hu (by omega)]; exact Nat.mod_lt _ (by omega))]
    rfl
  · rw [if_neg e, poke_other hu hp (q := i % 40)]
    rintro ⟨h1, h2⟩
    have h3 : (u.n f).blk (p / 40) = (u.n f).blk (i / 40) := by omega
    by_cases e2 : i / 40 = p / 40
    · have := Nat.div_add_mod i 40
      have := Nat.div_add_mod p 40
      rw [e2] at *
      omega
    · exact hd e2 h3.symm
theorem peek_pokes {f : Nat} : ∀ {l : Str} {u : TR} {p i : Nat}, u.Ok → (∀ k : Nat, p ≤ k → k < p + l.length → 0 < (u.n f).blk (k / 40) ∧ (u.n f).blk (k / 40) ≤ 8) → (0 < (u.n f).blk (i / 40) ∧ (u.n f).blk (i / 40) ≤ 8) → (∀ k : Nat, p ≤ k → k < p + l.length → i / 40 ≠ k / 40 → (u.n f).blk (i / 40) ≠ (u.n f).blk (k / 40)) →
    peekM (pokesM u f p l) f i = if p ≤ i ∧ i < p + l.length then l[i - p]?.getD 0 else peekM u f i
  | [], u, p, i, _, _, _, _ => by rw [pokesM, if_neg (by simp only [List.length_nil]; omega)]
  | c :: l, u, p, i, hu, hb, hi, hd => by
    have hbp := hb p (Nat.le_refl _) (by simp)
    rw [pokesM, peek_pokes (ok_poke hu hbp) (fun k h1 h2 => hb k (by omega) (by simp only [List.length_cons]; omega)) hi (fun k h1 h2 => hd k (by omega) (by simp only [List.length_cons]; omega)), peek_poke hu hbp hi (hd p (Nat.le_refl _) (by simp))]
    simp only [List.length_cons]
    by_cases h1 : p + 1 ≤ i ∧ i < p + 1 + l.length
    · rw [if_pos h1, if_pos (by omega), show i - p = (i - (p + 1)) + 1 by omega, List.getElem?_cons_succ]
    · rw [if_neg h1]
      by_cases e : i = p
      · subst e
        rw [if_pos rfl, if_pos (by omega), Nat.sub_self]
        rfl
      · rw [if_neg e, if_neg (by omega)]
end Go.Proofs.Ytlchnabnhimlcaa
set_option linter.unusedSimpArgs false
set_option linter.unusedVariables false
namespace Go.Proofs.Ytlchnabnhimlcaa
open Go Go.RowKit Go.Own
theorem bytesOf_len {t : TR} {f : Nat} : (bytesOf t f).length = (t.n f).size.toNat := by unfold bytesOf; simp
theorem bytesOf_get {t : TR} {f i : Nat} (h : i < (t.n f).size.toNat) : (bytesOf t f)[i]? = some (peekM t f i) := by
  unfold bytesOf
  simp [h]
/-- a block's bytes behind those of the file that has it are noughts -/
theorem behind {t : TR} (h : WF t) {f : Nat} (hf : f < 8) {j q k : Nat} (hj : j < 2) (hq : q < 40) (hk : k < 8) (hb : (t.n f).blk j = (k : Int) + 1) (hl : least ((t.n f).size - 40 * j) 40 ≤ (q : Int)) : (t.b k)[q]? = some 0 := by
  have hc : clAt t (2 * f + j) = ((t.n f).blk j, least ((t.n f).size - 40 * j) 40) := by
    unfold clAt
    rw [show (2 * f + j) / 2 = f by omega, show (2 * f + j) % 2 = j by omega]
    rcases (show j = 0 ∨ j = 1 by omega) with rfl | rfl
    · rw [if_pos rfl]; simp [Nd.blk]
    · rw [if_neg (by decide)]; simp [Nd.blk]
  refine h.bf.nought k q hk hq (fun p hp he => ?_)
  by_cases e : p = 2 * f + j
  · rw [e, hc]; exact hl
  · exact absurd (by rw [he, hc]; exact hb.symm) (h.bf.one p (2 * f + j) hp (by omega) e (by omega))
theorem blk_ne {t : TR} (h : WF t) {f : Nat} (hf : f < 8) {i j : Nat} (hi : i < 2) (hj : j < 2) (hne : i ≠ j) (h0 : (t.n f).blk i ≠ 0) : (t.n f).blk i ≠ (t.n f).blk j := by
  have hc : ∀ j, j < 2 → (clAt t (2 * f + j)).1 = (t.n f).blk j := by
    intro j hj
    rw [clAt_of, show (2 * f + j) / 2 = f by omega, show (2 * f + j) % 2 = j by omega]
    rfl
  have := h.bf.one (2 * f + i) (2 * f + j) (by omega) (by omega) (by omega) (by rw [hc i hi]; exact h0)
  rw [hc i hi, hc j hj] at this
  exact this
theorem blk_pos {t : TR} (h : WF t) {f : Nat} (hf1 : 1 ≤ f) (hf : f < 8) (hk : (t.n f).kind = 2) {j : Nat} (hj : j < 2) (hs : (j : Int) * 40 < (t.n f).size) : 0 < (t.n f).blk j ∧ (t.n f).blk j ≤ 8 := by
  have hsh := ((h.nd f hf1 hf).resolve_left (kind_nz (by rw [hk]; decide))).sh
  unfold Shaped at hsh
  rcases (show j = 0 ∨ j = 1 by omega) with rfl | rfl
  · show 0 < (t.n f).b0 ∧ (t.n f).b0 ≤ 8; omega
  · show 0 < (t.n f).b1 ∧ (t.n f).b1 ≤ 8; omega
theorem write_peek {t u : TR} (h : WF t) {f : Nat} (hf1 : 1 ≤ f) (hf : f < 8) (hk : (t.n f).kind = 2) {size quota : Int} (hg : growM t f size quota = some u) (hs1 : (t.n f).size ≤ size) (hs2 : size ≤ 80) {a : Nat} {l : Str} (hal : (a : Int) + l.length ≤ size) {i : Nat} (hi : (i : Int) < size) :
    peekM (pokesM u f a l) f i = if a ≤ i ∧ i < a + l.length then l[i - a]?.getD 0 else if (i : Int) < (t.n f).size then peekM t f i else 0 := by
  have hw := wf_write h hf1 hf hk hg hs1 hs2 hal
  obtain ⟨x0, x1, G⟩ := grown_of h.ok hf hg
  obtain ⟨hu, hub, hus, hun⟩ := growM_facts h.ok hf (bksJ_iff.2 (h.bks f hf)) hg
  have hnf : u.n f = { t.n f with size := size, b0 := x0, b1 := x1 } := by rw [G.eq, TR.n_set h.ok hf, if_pos rfl]
  have hblk : ∀ k : Nat, (k : Int) < size → 0 < (u.n f).blk (k / 40) ∧ (u.n f).blk (k / 40) ≤ 8 := by
    intro k hk'
    have hj : k / 40 < 2 := by omega
    have b1 := hub _ hj
    have b2 := hun _ hj (by have := Nat.div_mul_le_self k 40; omega)
    omega
  have hwn : (pokesM u f a l).n f = u.n f := pokes_n
  rw [peek_pokes hu (fun k h1 h2 => hblk k (by omega)) (hblk i hi) (fun k h1 h2 hne => by
    have := blk_ne hw hf (i := i / 40) (j := k / 40) (by omega) (by omega) hne (by rw [hwn]; have := hblk i hi; omega)
    rw [hwn] at this
    exact this)]
  split
  · rfl
  have hubb : ∀ k, u.b k = t.b k := fun k => by rw [G.eq]; rfl
  have hj2 : i / 40 < 2 := by omega
  have hor : (u.n f).blk (i / 40) = (t.n f).blk (i / 40) ∨ ((t.n f).blk (i / 40) = 0 ∧ Fresh t ((u.n f).blk (i / 40))) := by
    rw [hnf]
    rcases (show i / 40 = 0 ∨ i / 40 = 1 by omega) with e | e
    · rw [e]
      rcases G.a0 with h' | ⟨h1, _, h3⟩
      · exact .inl h'
      · exact .inr ⟨h1, h3⟩
    · rw [e]
      rcases G.a1 with h' | ⟨h1, _, h3, _⟩
      · exact .inl h'
      · exact .inr ⟨h1, h3⟩
  have hbi := hblk i hi
  split
  · rename_i hlt
    have := blk_pos h hf1 hf hk hj2 (by have := Nat.div_mul_le_self i 40; omega)
    rcases hor with e | ⟨e, _⟩
    · unfold peekM; rw [e, hubb]
    · omega
  · rename_i hge
    unfold peekM
    rw [hubb]
    have hm : i % 40 < 40 := Nat.mod_lt _ (by omega)
    have hk8 : ((u.n f).blk (i / 40) - 1).toNat < 8 := by omega
    have hkk : (u.n f).blk (i / 40) = (((u.n f).blk (i / 40) - 1).toNat : Int) + 1 := by omega
    rcases hor with e | ⟨_, hfr⟩
    · rw [behind h hf hj2 hm hk8 (by rw [← hkk, e]) (by
        have := Nat.div_add_mod i 40
        unfold least
        split <;> omega)]
      rfl
    · rw [h.bf.nought _ _ hk8 hm (fun p hp he => by
        exfalso
        rw [← hkk] at he
        have := hfr.2.2 (p / 2) (by omega)
        rw [clAt_of] at he
        split at he
        · exact this.1 he
        · exact this.2 he)]
      rfl
end Go.Proofs.Ytlchnabnhimlcaa

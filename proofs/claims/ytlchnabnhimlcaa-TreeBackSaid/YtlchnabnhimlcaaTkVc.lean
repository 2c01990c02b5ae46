/- nacelleref17, walked weakly: its tree in memory; at, find, Find, dir, File. nacelleref17, walked weakly: Under (exact), New, Make, Remove, Cut. -/
import Derived.Test.YtlchnabnhimlcaaTkUc
set_option linter.unusedSimpArgs false
set_option linter.unusedVariables false
namespace Go.Proofs.Ytlchnabnhimlcaa
open Go Go.RowKit Go.Own
structure RN where
  kind : Int
  path : Str
  data : Str
  sa : Option Addr
  nb : Nat
  sc : Nat
def RN.zero : RN := ⟨0, [], [], none, 0, 0⟩
def RN.cells (x : RN) : List Value := [.int .i64 x.kind, .string ⟨x.path.toArray⟩, .string ⟨x.data.toArray⟩, .slice x.sa x.nb x.sc]
def rcells (m : List RN) : List Value := m.flatMap RN.cells
def rn (m : List RN) (i : Nat) : RN := m[i]?.getD RN.zero
theorem rcells_len {m : List RN} (h : m.length = 8) : (rcells m).length = 32 := by
  unfold rcells
  rw [flatS_len m (sz := 4) (fun x _ => rfl), h]
theorem rn_get {m : List RN} (h : m.length = 8) {i : Nat} (hi : i < 8) : rn m i = m[i]'(by omega) := by
  unfold rn
  rw [List.getElem?_eq_getElem (by omega)]
  rfl
theorem rcell {m : List RN} (h : m.length = 8) {i : Nat} (hi : i < 8) (k : Nat) (v : Value) (hv : (rn m i).cells[k]? = some v) : (rcells m)[0 + i * 4 + k]? = some v := by
  have hk : k < 4 := (List.getElem?_eq_some_iff.1 hv).1
  rw [Nat.zero_add, rcells, flat_get m (sz := 4) (fun x _ => rfl) i k (by omega) hk, ← rn_get h hi]
  exact hv
def atFrom (m : List RN) (p : Str) : Nat → Nat → Int
  | 0, _ => -1
  | f + 1, i => if (rn m i).kind ≠ 0 ∧ (rn m i).path = p then (i : Int) else atFrom m p f (i + 1)
def atM (m : List RN) (p : Str) : Int := atFrom m p 8 0
theorem atFrom_range {m : List RN} {p : Str} : ∀ (f i : Nat), atFrom m p f i < 0 ∨ ∃ k : Nat, k < i + f ∧ atFrom m p f i = k
  | 0, i => .inl (by rw [atFrom]; omega)
  | f + 1, i => by
    rw [atFrom]
    split
    · exact .inr ⟨i, by omega, rfl⟩
    · rcases atFrom_range f (i + 1) with h | ⟨k, h1, h2⟩
      · exact .inl h
      · exact .inr ⟨k, by omega, h2⟩
theorem atM_range {m : List RN} {p : Str} : atM m p < 0 ∨ ∃ k : Nat, k < 8 ∧ atM m p = k := by
  rcases atFrom_range (m := m) (p := p) 8 0 with h | ⟨k, h1, h2⟩
  · exact .inl h
  · exact .inr ⟨k, by omega, h2⟩
section
variable {n : Nat} {ops : Array Oper} {Q : Post} {rest : List Oper} {e : Env} {w : World} {s : Ro} {rs R : List Asn} {tt : Nat} {pp : String} {af : Array Edge} {g : Option (Nat × Bool)} {d : Nat}
variable {p : Str} {m : List RN}
set_option maxRecDepth 100000 in
set_option maxHeartbeats 1000000 in
theorem at_w (H : Holds s w R) (hm : m.length = 8) : Calls Try.prog 56 #[.agg (rcells m).toArray, .string ⟨p.toArray⟩] w fun e w' => e = .returned (.int .i64 (atM m p)) ∧ Holds s w' R := by
  refine enter Try.func56 rfl Try.ntmps56 rfl ?_
  repeat' (first | (refine X.lenL ?_) | (refine X.lv H ?_) | (refine X.lw H ?_) | (refine X.lp H ?_) | (refine X.eqL ?_ ?_ <;> intro hc <;> first | (exfalso; first | exact absurd hc (by assumption) | exact absurd (by assumption) hc) | skip) | refine Z H ?_ | (refine Zc ?_ ?_ <;> intro hc <;> first | (exfalso; omega) | skip) | (refine Y ?_; try change C _ _ _ _ _ _) | (refine Zs H ?_; clear H; (try clear w); intro w H) | (refine Zn H ?_; clear H; (try clear w); intro _ w H) | (refine Ze H ?_; clear H; (try clear w); intro gv w H))
  refine C.loopH H [4, 5, 6, 7, 8, 9, 10, 11, 12, 13, 14, 15, 16, 17, 18, 19, 20, 21, 22, 23] [5] rfl (fun f vs => ∃ i : Nat, f = 8 - i ∧ i ≤ 8 ∧ vs = [.int .i64 (i : Int)] ∧ atFrom m p (8 - i) i = atM m p) 8 ⟨0, rfl, by omega, rfl, rfl⟩ ?_
  clear H
  rintro f vs hv w ⟨i, rfl, hi, rfl, hr⟩ H
  by_cases hlt : i < 8
  rotate_left
  · obtain rfl : i = 8 := by omega
    repeat' (first | (refine X.lenL ?_) | (refine X.lv H ?_) | (refine X.lw H ?_) | (refine X.lp H ?_) | (refine X.eqL ?_ ?_ <;> intro hc <;> first | (exfalso; first | exact absurd hc (by assumption) | exact absurd (by assumption) hc) | skip) | refine Z H ?_ | (refine Zc ?_ ?_ <;> intro hc <;> first | (exfalso; omega) | skip) | (refine Y ?_; try change C _ _ _ _ _ _) | (refine Zs H ?_; clear H; (try clear w); intro w H) | (refine Zn H ?_; clear H; (try clear w); intro _ w H) | (refine Ze H ?_; clear H; (try clear w); intro gv w H))
    exact ⟨_, resT rfl, by rw [← hr]; rfl, H.tail⟩
  rw [show 8 - i = (7 - i) + 1 by omega, atFrom] at hr
  have c0 := rcell hm hlt 0 _ rfl
  have c1 := rcell hm hlt 1 _ rfl
  by_cases h1 : (rn m i).kind ≠ 0
  · by_cases h2 : (rn m i).path = p
    · rw [if_pos ⟨h1, h2⟩] at hr
      repeat' (first | (refine K.iaA (i := i) rfl rfl rfl rfl rfl hlt ?_) | (refine X.lenL ?_) | (refine X.lv H ?_) | (refine X.lw H ?_) | (refine X.lp H ?_) | (refine X.eqL ?_ ?_ <;> intro hc <;> first | (exfalso; first | exact absurd hc (by assumption) | exact absurd (by assumption) hc) | skip) | refine Z H ?_ | (refine Zc ?_ ?_ <;> intro hc <;> first | (exfalso; omega) | skip) | (refine Y ?_; try change C _ _ _ _ _ _) | (refine Zs H ?_; clear H; (try clear w); intro w H) | (refine Zn H ?_; clear H; (try clear w); intro _ w H) | (refine Ze H ?_; clear H; (try clear w); intro gv w H))
      exact ⟨_, resT rfl, by rw [← hr]; rfl, H.tail⟩
    · rw [if_neg (fun h => h2 h.2)] at hr
      repeat' (first | (refine K.iaA (i := i) rfl rfl rfl rfl rfl hlt ?_) | (refine X.lenL ?_) | (refine X.lv H ?_) | (refine X.lw H ?_) | (refine X.lp H ?_) | (refine X.eqL ?_ ?_ <;> intro hc <;> first | (exfalso; first | exact absurd hc (by assumption) | exact absurd (by assumption) hc) | skip) | refine Z H ?_ | (refine Zc ?_ ?_ <;> intro hc <;> first | (exfalso; omega) | skip) | (refine Y ?_; try change C _ _ _ _ _ _) | (refine Zs H ?_; clear H; (try clear w); intro w H) | (refine Zn H ?_; clear H; (try clear w); intro _ w H) | (refine Ze H ?_; clear H; (try clear w); intro gv w H))
      exact ⟨by (repeat (first | exact Agr.refl | exact Agr.hav | refine Agr.upd rfl ?_ | refine Agr.in rfl ?_)), 8 - (i + 1), by omega, ⟨i + 1, rfl, by omega, rfl, by rw [← hr]; congr 1; omega⟩, H⟩
  · rw [if_neg (fun h => h1 h.1)] at hr
    have h1' : (rn m i).kind = 0 := by omega
    repeat' (first | (refine K.iaA (i := i) rfl rfl rfl rfl rfl hlt ?_) | (refine X.lenL ?_) | (refine X.lv H ?_) | (refine X.lw H ?_) | (refine X.lp H ?_) | (refine X.eqL ?_ ?_ <;> intro hc <;> first | (exfalso; first | exact absurd hc (by assumption) | exact absurd (by assumption) hc) | skip) | refine Z H ?_ | (refine Zc ?_ ?_ <;> intro hc <;> first | (exfalso; omega) | skip) | (refine Y ?_; try change C _ _ _ _ _ _) | (refine Zs H ?_; clear H; (try clear w); intro w H) | (refine Zn H ?_; clear H; (try clear w); intro _ w H) | (refine Ze H ?_; clear H; (try clear w); intro gv w H))
    exact ⟨by (repeat (first | exact Agr.refl | exact Agr.hav | refine Agr.upd rfl ?_ | refine Agr.in rfl ?_)), 8 - (i + 1), by omega, ⟨i + 1, rfl, by omega, rfl, by rw [← hr]; congr 1; omega⟩, H⟩
set_option maxRecDepth 100000 in
set_option maxHeartbeats 1000000 in
theorem find_n (hm : m.length = 8) : ∀ (n : Nat) (p : Str) (w : World) (R : List Asn), Holds s w R → p.length ≤ n → p.length ≤ 140737488355328 → p[0]? = some 47 → Calls Try.prog 50 #[.agg (rcells m).toArray, .string ⟨p.toArray⟩] w fun e w' => ∃ (k : Nat) (er : Int), k < 8 ∧ e = .returned (.tuple #[.int .i64 (k : Int), .int .i64 er]) ∧ Holds s w' R := by
  have hm32 := rcells_len hm
  intro n
  induction n with
  | zero =>
    intro p w R H hn hl hsl
    rw [List.eq_nil_of_length_eq_zero (show p.length = 0 by omega)] at hsl
    cases hsl
  | succ n ih =>
    intro p w R H hn hl hsl
    refine enter Try.func50 rfl Try.ntmps50 rfl ?_
    by_cases hroot : p = [47]
    · repeat' (first | (refine X.eqL (a := p) (b := [47]) ?_ ?_ <;> intro hc <;> first | (exfalso; exact absurd hroot hc) | skip) | (refine X.lenL ?_) | (refine X.lv H ?_) | (refine X.lw H ?_) | (refine X.lp H ?_) | (refine X.eqL ?_ ?_ <;> intro hc <;> first | (exfalso; first | exact absurd hc (by assumption) | exact absurd (by assumption) hc) | skip) | refine Z H ?_ | (refine Zc ?_ ?_ <;> intro hc <;> first | (exfalso; omega) | skip) | (refine Y ?_; try change C _ _ _ _ _ _) | (refine Zs H ?_; clear H; (try clear w); intro w H) | (refine Zn H ?_; clear H; (try clear w); intro _ w H) | (refine Ze H ?_; clear H; (try clear w); intro gv w H))
      exact ⟨_, resTT rfl, 0, 0, by omega, rfl, H.tail⟩
    have hlen : 2 ≤ p.length := by
      rcases p with _ | ⟨a, _ | ⟨b, q⟩⟩
      · cases hsl
      · simp at hsl; subst hsl; exact absurd rfl hroot
      · simp
    repeat' (first | (refine X.eqL (a := p) (b := [47]) ?_ ?_ <;> intro hc <;> first | (exfalso; exact absurd hc hroot) | skip) | (refine X.lenL ?_) | (refine X.lv H ?_) | (refine X.lw H ?_) | (refine X.lp H ?_) | (refine X.eqL ?_ ?_ <;> intro hc <;> first | (exfalso; first | exact absurd hc (by assumption) | exact absurd (by assumption) hc) | skip) | refine Z H ?_ | (refine Zc ?_ ?_ <;> intro hc <;> first | (exfalso; omega) | skip) | (refine Y ?_; try change C _ _ _ _ _ _) | (refine Zs H ?_; clear H; (try clear w); intro w H) | (refine Zn H ?_; clear H; (try clear w); intro _ w H) | (refine Ze H ?_; clear H; (try clear w); intro gv w H))
    (refine X.call (Above_w (p := p) H (by omega) hl) ?_; (try clear H); rintro _ w ⟨i, hi, rfl, H⟩; refine ⟨_, rfl, ?_⟩)
    have hlt := above_fst_lt hi hlen
    have hasl := above_fst_sl (i := i) hsl
    generalize (aboveM p i).1 = ab at *
    generalize (aboveM p i).2 = nm at *
    repeat' (first | (refine X.lenL ?_) | (refine X.lv H ?_) | (refine X.lw H ?_) | (refine X.lp H ?_) | (refine X.eqL ?_ ?_ <;> intro hc <;> first | (exfalso; first | exact absurd hc (by assumption) | exact absurd (by assumption) hc) | skip) | refine Z H ?_ | (refine Zc ?_ ?_ <;> intro hc <;> first | (exfalso; omega) | skip) | (refine Y ?_; try change C _ _ _ _ _ _) | (refine Zs H ?_; clear H; (try clear w); intro w H) | (refine Zn H ?_; clear H; (try clear w); intro _ w H) | (refine Ze H ?_; clear H; (try clear w); intro gv w H))
    (refine X.call (ih ab _ _ H (by omega) (by omega) hasl) ?_; (try clear H); rintro _ w ⟨k, er, hk, rfl, H⟩; refine ⟨_, rfl, ?_⟩)
    by_cases her : er = 0
    rotate_left
    · repeat' (first | (refine X.lenL ?_) | (refine X.lv H ?_) | (refine X.lw H ?_) | (refine X.lp H ?_) | (refine X.eqL ?_ ?_ <;> intro hc <;> first | (exfalso; first | exact absurd hc (by assumption) | exact absurd (by assumption) hc) | skip) | refine Z H ?_ | (refine Zc ?_ ?_ <;> intro hc <;> first | (exfalso; omega) | skip) | (refine Y ?_; try change C _ _ _ _ _ _) | (refine Zs H ?_; clear H; (try clear w); intro w H) | (refine Zn H ?_; clear H; (try clear w); intro _ w H) | (refine Ze H ?_; clear H; (try clear w); intro gv w H))
      exact ⟨_, resTT rfl, 0, er, by omega, rfl, H.tail⟩
    have c0 := rcell hm hk 0 _ rfl
    by_cases hk2 : (rn m k).kind = 2
    · repeat' (first | (refine K.iaA (i := k) rfl rfl rfl rfl rfl hk ?_) | (refine X.lenL ?_) | (refine X.lv H ?_) | (refine X.lw H ?_) | (refine X.lp H ?_) | (refine X.eqL ?_ ?_ <;> intro hc <;> first | (exfalso; first | exact absurd hc (by assumption) | exact absurd (by assumption) hc) | skip) | refine Z H ?_ | (refine Zc ?_ ?_ <;> intro hc <;> first | (exfalso; omega) | skip) | (refine Y ?_; try change C _ _ _ _ _ _) | (refine Zs H ?_; clear H; (try clear w); intro w H) | (refine Zn H ?_; clear H; (try clear w); intro _ w H) | (refine Ze H ?_; clear H; (try clear w); intro gv w H))
      exact ⟨_, resTT rfl, 0, 170, by omega, rfl, H.tail⟩
    repeat' (first | (refine K.iaA (i := k) rfl rfl rfl rfl rfl hk ?_) | (refine X.lenL ?_) | (refine X.lv H ?_) | (refine X.lw H ?_) | (refine X.lp H ?_) | (refine X.eqL ?_ ?_ <;> intro hc <;> first | (exfalso; first | exact absurd hc (by assumption) | exact absurd (by assumption) hc) | skip) | refine Z H ?_ | (refine Zc ?_ ?_ <;> intro hc <;> first | (exfalso; omega) | skip) | (refine Y ?_; try change C _ _ _ _ _ _) | (refine Zs H ?_; clear H; (try clear w); intro w H) | (refine Zn H ?_; clear H; (try clear w); intro _ w H) | (refine Ze H ?_; clear H; (try clear w); intro gv w H))
    (refine X.call (at_w (p := p) H hm) ?_; (try clear H); rintro _ w ⟨rfl, H⟩; refine ⟨_, rfl, ?_⟩)
    rcases atM_range (m := m) (p := p) with hneg | ⟨k', hk', he⟩
    · repeat' (first | (refine X.lenL ?_) | (refine X.lv H ?_) | (refine X.lw H ?_) | (refine X.lp H ?_) | (refine X.eqL ?_ ?_ <;> intro hc <;> first | (exfalso; first | exact absurd hc (by assumption) | exact absurd (by assumption) hc) | skip) | refine Z H ?_ | (refine Zc ?_ ?_ <;> intro hc <;> first | (exfalso; omega) | skip) | (refine Y ?_; try change C _ _ _ _ _ _) | (refine Zs H ?_; clear H; (try clear w); intro w H) | (refine Zn H ?_; clear H; (try clear w); intro _ w H) | (refine Ze H ?_; clear H; (try clear w); intro gv w H))
      exact ⟨_, resTT rfl, 0, 6, by omega, rfl, H.tail⟩
    · repeat' (first | (refine X.lenL ?_) | (refine X.lv H ?_) | (refine X.lw H ?_) | (refine X.lp H ?_) | (refine X.eqL ?_ ?_ <;> intro hc <;> first | (exfalso; first | exact absurd hc (by assumption) | exact absurd (by assumption) hc) | skip) | refine Z H ?_ | (refine Zc ?_ ?_ <;> intro hc <;> first | (exfalso; omega) | skip) | (refine Y ?_; try change C _ _ _ _ _ _) | (refine Zs H ?_; clear H; (try clear w); intro w H) | (refine Zn H ?_; clear H; (try clear w); intro _ w H) | (refine Ze H ?_; clear H; (try clear w); intro gv w H))
      (refine X.call (at_w (p := p) H hm) ?_; (try clear H); rintro _ w ⟨rfl, H⟩; refine ⟨_, rfl, ?_⟩)
      repeat' (first | (refine X.lenL ?_) | (refine X.lv H ?_) | (refine X.lw H ?_) | (refine X.lp H ?_) | (refine X.eqL ?_ ?_ <;> intro hc <;> first | (exfalso; first | exact absurd hc (by assumption) | exact absurd (by assumption) hc) | skip) | refine Z H ?_ | (refine Zc ?_ ?_ <;> intro hc <;> first | (exfalso; omega) | skip) | (refine Y ?_; try change C _ _ _ _ _ _) | (refine Zs H ?_; clear H; (try clear w); intro w H) | (refine Zn H ?_; clear H; (try clear w); intro _ w H) | (refine Ze H ?_; clear H; (try clear w); intro gv w H))
      exact ⟨_, resTT rfl, k', 0, hk', by rw [← he]; rfl, H.tail⟩
set_option maxRecDepth 100000 in
set_option maxHeartbeats 1000000 in
theorem Find_w (H : Holds s w R) (hm : m.length = 8) (hl : p.length ≤ 140737488355328) : Calls Try.prog 20 #[.agg (rcells m).toArray, .string ⟨p.toArray⟩] w fun e w' => ∃ (k : Nat) (er : Int), k < 8 ∧ e = .returned (.tuple #[.int .i64 (k : Int), .int .i64 er]) ∧ Holds s w' R := by
  have hm32 := rcells_len hm
  refine enter Try.func20 rfl Try.ntmps20 rfl ?_
  repeat' (first | (refine X.lenL ?_) | (refine X.lv H ?_) | (refine X.lw H ?_) | (refine X.lp H ?_) | (refine X.eqL ?_ ?_ <;> intro hc <;> first | (exfalso; first | exact absurd hc (by assumption) | exact absurd (by assumption) hc) | skip) | refine Z H ?_ | (refine Zc ?_ ?_ <;> intro hc <;> first | (exfalso; omega) | skip) | (refine Y ?_; try change C _ _ _ _ _ _) | (refine Zs H ?_; clear H; (try clear w); intro w H) | (refine Zn H ?_; clear H; (try clear w); intro _ w H) | (refine Ze H ?_; clear H; (try clear w); intro gv w H))
  (refine X.call (IsPath_w (p := p) H hl) ?_; (try clear H); rintro _ w ⟨b, rfl, hb, H⟩; refine ⟨_, rfl, ?_⟩)
  cases b
  · repeat' (first | (refine X.lenL ?_) | (refine X.lv H ?_) | (refine X.lw H ?_) | (refine X.lp H ?_) | (refine X.eqL ?_ ?_ <;> intro hc <;> first | (exfalso; first | exact absurd hc (by assumption) | exact absurd (by assumption) hc) | skip) | refine Z H ?_ | (refine Zc ?_ ?_ <;> intro hc <;> first | (exfalso; omega) | skip) | (refine Y ?_; try change C _ _ _ _ _ _) | (refine Zs H ?_; clear H; (try clear w); intro w H) | (refine Zn H ?_; clear H; (try clear w); intro _ w H) | (refine Ze H ?_; clear H; (try clear w); intro gv w H))
    exact ⟨_, resTT rfl, 0, 1, by omega, rfl, H.tail⟩
  · repeat' (first | (refine X.lenL ?_) | (refine X.lv H ?_) | (refine X.lw H ?_) | (refine X.lp H ?_) | (refine X.eqL ?_ ?_ <;> intro hc <;> first | (exfalso; first | exact absurd hc (by assumption) | exact absurd (by assumption) hc) | skip) | refine Z H ?_ | (refine Zc ?_ ?_ <;> intro hc <;> first | (exfalso; omega) | skip) | (refine Y ?_; try change C _ _ _ _ _ _) | (refine Zs H ?_; clear H; (try clear w); intro w H) | (refine Zn H ?_; clear H; (try clear w); intro _ w H) | (refine Ze H ?_; clear H; (try clear w); intro gv w H))
    (refine X.call (find_n hm p.length p _ _ H (Nat.le_refl _) hl (hb rfl).1) ?_; (try clear H); rintro _ w ⟨k, er, hk, rfl, H⟩; refine ⟨_, rfl, ?_⟩)
    repeat' (first | (refine X.lenL ?_) | (refine X.lv H ?_) | (refine X.lw H ?_) | (refine X.lp H ?_) | (refine X.eqL ?_ ?_ <;> intro hc <;> first | (exfalso; first | exact absurd hc (by assumption) | exact absurd (by assumption) hc) | skip) | refine Z H ?_ | (refine Zc ?_ ?_ <;> intro hc <;> first | (exfalso; omega) | skip) | (refine Y ?_; try change C _ _ _ _ _ _) | (refine Zs H ?_; clear H; (try clear w); intro w H) | (refine Zn H ?_; clear H; (try clear w); intro _ w H) | (refine Ze H ?_; clear H; (try clear w); intro gv w H))
    exact ⟨_, resTT rfl, k, er, hk, rfl, H.tail⟩
set_option maxRecDepth 100000 in
set_option maxHeartbeats 1000000 in
theorem dir_w (H : Holds s w R) (hm : m.length = 8) (hl : p.length ≤ 140737488355328) (hsl : p[0]? = some 47) : Calls Try.prog 55 #[.agg (rcells m).toArray, .string ⟨p.toArray⟩] w fun e w' => ∃ (ab : Str) (er : Int), ab.length ≤ p.length ∧ e = .returned (.tuple #[.string ⟨ab.toArray⟩, .int .i64 er]) ∧ Holds s w' R := by
  have hm32 := rcells_len hm
  have hp1 : 1 ≤ p.length := by
    cases p with
    | nil => cases hsl
    | cons a q => simp
  refine enter Try.func55 rfl Try.ntmps55 rfl ?_
  repeat' (first | (refine X.lenL ?_) | (refine X.lv H ?_) | (refine X.lw H ?_) | (refine X.lp H ?_) | (refine X.eqL ?_ ?_ <;> intro hc <;> first | (exfalso; first | exact absurd hc (by assumption) | exact absurd (by assumption) hc) | skip) | refine Z H ?_ | (refine Zc ?_ ?_ <;> intro hc <;> first | (exfalso; omega) | skip) | (refine Y ?_; try change C _ _ _ _ _ _) | (refine Zs H ?_; clear H; (try clear w); intro w H) | (refine Zn H ?_; clear H; (try clear w); intro _ w H) | (refine Ze H ?_; clear H; (try clear w); intro gv w H))
  (refine X.call (Above_w (p := p) H hp1 hl) ?_; (try clear H); rintro _ w ⟨i, hi, rfl, H⟩; refine ⟨_, rfl, ?_⟩)
  have hasl := above_fst_sl (i := i) hsl
  have hal : (aboveM p i).1.length ≤ p.length := by
    unfold aboveM
    split
    · exact hp1
    · exact List.length_take_le' _ _
  generalize (aboveM p i).1 = ab at *
  generalize (aboveM p i).2 = nm at *
  repeat' (first | (refine X.lenL ?_) | (refine X.lv H ?_) | (refine X.lw H ?_) | (refine X.lp H ?_) | (refine X.eqL ?_ ?_ <;> intro hc <;> first | (exfalso; first | exact absurd hc (by assumption) | exact absurd (by assumption) hc) | skip) | refine Z H ?_ | (refine Zc ?_ ?_ <;> intro hc <;> first | (exfalso; omega) | skip) | (refine Y ?_; try change C _ _ _ _ _ _) | (refine Zs H ?_; clear H; (try clear w); intro w H) | (refine Zn H ?_; clear H; (try clear w); intro _ w H) | (refine Ze H ?_; clear H; (try clear w); intro gv w H))
  (refine X.call (find_n hm ab.length ab _ _ H (Nat.le_refl _) (by omega) hasl) ?_; (try clear H); rintro _ w ⟨k, er, hk, rfl, H⟩; refine ⟨_, rfl, ?_⟩)
  have c0 := rcell hm hk 0 _ rfl
  by_cases her : er = 0
  · by_cases hk2 : (rn m k).kind = 2
    · repeat' (first | (refine K.iaA (i := k) rfl rfl rfl rfl rfl hk ?_) | (refine X.lenL ?_) | (refine X.lv H ?_) | (refine X.lw H ?_) | (refine X.lp H ?_) | (refine X.eqL ?_ ?_ <;> intro hc <;> first | (exfalso; first | exact absurd hc (by assumption) | exact absurd (by assumption) hc) | skip) | refine Z H ?_ | (refine Zc ?_ ?_ <;> intro hc <;> first | (exfalso; omega) | skip) | (refine Y ?_; try change C _ _ _ _ _ _) | (refine Zs H ?_; clear H; (try clear w); intro w H) | (refine Zn H ?_; clear H; (try clear w); intro _ w H) | (refine Ze H ?_; clear H; (try clear w); intro gv w H))
      exact ⟨_, resTT rfl, ab, 170, hal, rfl, H.tail⟩
    · repeat' (first | (refine K.iaA (i := k) rfl rfl rfl rfl rfl hk ?_) | (refine X.lenL ?_) | (refine X.lv H ?_) | (refine X.lw H ?_) | (refine X.lp H ?_) | (refine X.eqL ?_ ?_ <;> intro hc <;> first | (exfalso; first | exact absurd hc (by assumption) | exact absurd (by assumption) hc) | skip) | refine Z H ?_ | (refine Zc ?_ ?_ <;> intro hc <;> first | (exfalso; omega) | skip) | (refine Y ?_; try change C _ _ _ _ _ _) | (refine Zs H ?_; clear H; (try clear w); intro w H) | (refine Zn H ?_; clear H; (try clear w); intro _ w H) | (refine Ze H ?_; clear H; (try clear w); intro gv w H))
      exact ⟨_, resTT rfl, ab, er, hal, rfl, H.tail⟩
  · repeat' (first | (refine X.lenL ?_) | (refine X.lv H ?_) | (refine X.lw H ?_) | (refine X.lp H ?_) | (refine X.eqL ?_ ?_ <;> intro hc <;> first | (exfalso; first | exact absurd hc (by assumption) | exact absurd (by assumption) hc) | skip) | refine Z H ?_ | (refine Zc ?_ ?_ <;> intro hc <;> first | (exfalso; omega) | skip) | (refine Y ?_; try change C _ _ _ _ _ _) | (refine Zs H ?_; clear H; (try clear w); intro w H) | (refine Zn H ?_; clear H; (try clear w); intro _ w H) | (refine Ze H ?_; clear H; (try clear w); intro gv w H))
    exact ⟨_, resTT rfl, ab, er, hal, rfl, H.tail⟩
set_option maxRecDepth 100000 in
set_option maxHeartbeats 1000000 in
theorem File_w (H : Holds s w R) (hm : m.length = 8) (hl : p.length ≤ 140737488355328) : Calls Try.prog 53 #[.agg (rcells m).toArray, .string ⟨p.toArray⟩] w fun e w' => ∃ (k : Nat) (er : Int), k < 8 ∧ e = .returned (.tuple #[.int .i64 (k : Int), .int .i64 er]) ∧ Holds s w' R := by
  have hm32 := rcells_len hm
  refine enter Try.func53 rfl Try.ntmps53 rfl ?_
  repeat' (first | (refine X.lenL ?_) | (refine X.lv H ?_) | (refine X.lw H ?_) | (refine X.lp H ?_) | (refine X.eqL ?_ ?_ <;> intro hc <;> first | (exfalso; first | exact absurd hc (by assumption) | exact absurd (by assumption) hc) | skip) | refine Z H ?_ | (refine Zc ?_ ?_ <;> intro hc <;> first | (exfalso; omega) | skip) | (refine Y ?_; try change C _ _ _ _ _ _) | (refine Zs H ?_; clear H; (try clear w); intro w H) | (refine Zn H ?_; clear H; (try clear w); intro _ w H) | (refine Ze H ?_; clear H; (try clear w); intro gv w H))
  (refine X.call (Find_w (p := p) H hm hl) ?_; (try clear H); rintro _ w ⟨k, er, hk, rfl, H⟩; refine ⟨_, rfl, ?_⟩)
  have c0 := rcell hm hk 0 _ rfl
  by_cases her : er = 0
  · by_cases hk2 : (rn m k).kind = 2
    · repeat' (first | (refine K.iaA (i := k) rfl rfl rfl rfl rfl hk ?_) | (refine X.lenL ?_) | (refine X.lv H ?_) | (refine X.lw H ?_) | (refine X.lp H ?_) | (refine X.eqL ?_ ?_ <;> intro hc <;> first | (exfalso; first | exact absurd hc (by assumption) | exact absurd (by assumption) hc) | skip) | refine Z H ?_ | (refine Zc ?_ ?_ <;> intro hc <;> first | (exfalso; omega) | skip) | (refine Y ?_; try change C _ _ _ _ _ _) | (refine Zs H ?_; clear H; (try clear w); intro w H) | (refine Zn H ?_; clear H; (try clear w); intro _ w H) | (refine Ze H ?_; clear H; (try clear w); intro gv w H))
      exact ⟨_, resTT rfl, k, er, hk, rfl, H.tail⟩
    · repeat' (first | (refine K.iaA (i := k) rfl rfl rfl rfl rfl hk ?_) | (refine X.lenL ?_) | (refine X.lv H ?_) | (refine X.lw H ?_) | (refine X.lp H ?_) | (refine X.eqL ?_ ?_ <;> intro hc <;> first | (exfalso; first | exact absurd hc (by assumption) | exact absurd (by assumption) hc) | skip) | refine Z H ?_ | (refine Zc ?_ ?_ <;> intro hc <;> first | (exfalso; omega) | skip) | (refine Y ?_; try change C _ _ _ _ _ _) | (refine Zs H ?_; clear H; (try clear w); intro w H) | (refine Zn H ?_; clear H; (try clear w); intro _ w H) | (refine Ze H ?_; clear H; (try clear w); intro gv w H))
      exact ⟨_, resTT rfl, k, 170, hk, rfl, H.tail⟩
  · repeat' (first | (refine X.lenL ?_) | (refine X.lv H ?_) | (refine X.lw H ?_) | (refine X.lp H ?_) | (refine X.eqL ?_ ?_ <;> intro hc <;> first | (exfalso; first | exact absurd hc (by assumption) | exact absurd (by assumption) hc) | skip) | refine Z H ?_ | (refine Zc ?_ ?_ <;> intro hc <;> first | (exfalso; omega) | skip) | (refine Y ?_; try change C _ _ _ _ _ _) | (refine Zs H ?_; clear H; (try clear w); intro w H) | (refine Zn H ?_; clear H; (try clear w); intro _ w H) | (refine Ze H ?_; clear H; (try clear w); intro gv w H))
    exact ⟨_, resTT rfl, k, er, hk, rfl, H.tail⟩
end
end Go.Proofs.Ytlchnabnhimlcaa
set_option linter.unusedSimpArgs false
set_option linter.unusedVariables false
namespace Go.Proofs.Ytlchnabnhimlcaa
open Go Go.RowKit Go.Own
instance {p d : Str} : Decidable (underP p d) := by unfold underP; infer_instance
/-- the document's tree in memory: shape, sizes, blocks that can be read -/
structure RB (s : Ro) (x : RN) (M : Nat) : Prop where
  dl : x.data.length ≤ 80
  pl : x.path.length ≤ M
  few : x.nb ≤ 1000
  bs : ∃ bs : List Int, bs.length = x.nb ∧ SlS s (.slice x.sa x.nb x.sc) 1 x.nb (bs.map fun b => .int .i64 b)
structure ROk (s : Ro) (m : List RN) (M : Nat) : Prop where
  l8 : m.length = 8
  nd : ∀ x ∈ m, RB s x M
theorem RB.mono {s s' : Ro} {x : RN} {M M' : Nat} (h : RB s x M) (hs : s.Le s') (hM : M ≤ M') : RB s' x M' := ⟨h.dl, by have := h.pl; omega, h.few, by
  obtain ⟨bs, h1, h2⟩ := h.bs
  exact ⟨bs, h1, h2.mono hs⟩⟩
theorem ROk.mono {s s' : Ro} {m : List RN} {M M' : Nat} (h : ROk s m M) (hs : s.Le s') (hM : M ≤ M') : ROk s' m M' := ⟨h.l8, fun x hx => (h.nd x hx).mono hs hM⟩
theorem RB.nil {s : Ro} {k : Int} {p : Str} {M : Nat} (hp : p.length ≤ M) : RB s ⟨k, p, [], none, 0, 0⟩ M := ⟨by simp, hp, by simp, [], rfl, SlS.nil s 1⟩
theorem ROk.set {s : Ro} {m : List RN} {M : Nat} (h : ROk s m M) (i : Nat) {x : RN} (hx : RB s x M) : ROk s (m.set i x) M := ⟨by rw [List.length_set, h.l8], fun y hy => by
  rcases List.mem_or_eq_of_mem_set hy with hy | rfl
  · exact h.nd y hy
  · exact hx⟩
theorem ROk.at {s : Ro} {m : List RN} {M : Nat} (h : ROk s m M) {i : Nat} (hi : i < 8) : RB s (rn m i) M := by
  rw [rn_get h.l8 hi]
  exact h.nd _ (List.getElem_mem _)
theorem rcells_all {m : List RN} : (rcells m).all Value.oneCell' = true := List.all_eq_true.2 fun v hv => flat_mem (fun x _ v hv => by
  simp only [RN.cells, List.mem_cons, List.not_mem_nil, or_false] at hv
  rcases hv with rfl | rfl | rfl | rfl <;> rfl) v hv
instance (priority := high) zeroR : ZeroC Try.prog 39 (rcells (List.replicate 8 RN.zero)) := ⟨⟨.agg (rcells (List.replicate 8 RN.zero)).toArray, by kernel_rfl, by kernel_rfl⟩⟩
section
variable {n : Nat} {ops : Array Oper} {Q : Post} {rest : List Oper} {e : Env} {w : World} {s : Ro} {rs R : List Asn} {tt : Nat} {pp : String} {af : Array Edge} {g : Option (Nat × Bool)} {d : Nat}
theorem X.stRc {ty : TypeId} {x y : Operand} [T : OneC Try.prog ty] {b off : Nat} {tp : TypeId} {t : List RN} {f : List Value → List Asn} {v : Value} (i k : Nat) (z : RN) (ht : t.length = 8) (hi : i < 8) (hk : k < 4) (hz : z.cells = (rn t i).cells.set k v) (H : Holds s w rs) (h : ∀ w', Holds s w' (f (rcells (t.set i z))) → L Try.prog n ops Q rest e w') (ho : off = 0 + i * 4 + k := by rfl) (hw : wg n ops g e = true := by rfl) (hx : ev e x = .pointer (some ⟨b, off, none⟩) := by rfl) (V : PutV rs b tp (rcells t) f := by infer_instance) (hy : ev e y = v := by rfl) (h1 : v.oneCell' = true := by rfl) : L Try.prog n ops Q (⟨none, .store ty x y, tt, pp, af, g⟩ :: rest) e w := by
  obtain ⟨j, hj, hf⟩ := V.ix
  subst ho
  exact K.store j H hw hx hj hy h1 (by rw [Nat.blt_eq, rcells_len ht]; omega) (fun w' H' => h w' (by
    have := flatS_set (f := RN.cells) t (fun x _ => rfl) i k v z (by omega) hk (by rw [hz, rn_get ht hi])
    rw [hf, Nat.zero_add, rcells, this] at H'
    exact H'))
theorem X.stR {x y : Operand} {b : Nat} {ty : TypeId} {u v : List RN} {f : List Value → List Asn} (H : Holds s w rs) (h : ∀ w', Holds s w' (f (rcells v)) → L Try.prog n ops Q rest e w') (hw : wg n ops g e = true := by rfl) (hx : ev e x = .pointer (some ⟨b, 0, none⟩) := by rfl) (V : PutV rs b ty (rcells u) f := by infer_instance) (hy : ev e y = .agg (rcells v).toArray := by rfl) (hu : u.length = 8 := by assumption) (hv : v.length = 8 := by assumption) : L Try.prog n ops Q (⟨none, .store 39 x y, tt, pp, af, g⟩ :: rest) e w :=
  X.sta (k := 32) H h hw hx V hy rcells_all (rcells_len hv) (rcells_len hu)
theorem X.stRN {ty : TypeId} {x y : Operand} {k0 : Nat} [T : RowC Try.prog ty k0] {b off : Nat} {tp : TypeId} {t : List RN} {f : List Value → List Asn} (ys : List Value) (i k : Nat) (z : RN) (ht : t.length = 8) (hi : i < 8) (hk : k + ys.length ≤ 4) (hz : z.cells = putL (rn t i).cells k ys) (hn : ys.length = k0) (h1 : ys.all Value.oneCell' = true) (H : Holds s w rs) (h : ∀ w', Holds s w' (f (rcells (t.set i z))) → L Try.prog n ops Q rest e w') (ho : off = 0 + i * 4 + k := by rfl) (hw : wg n ops g e = true := by rfl) (hx : ev e x = .pointer (some ⟨b, off, none⟩) := by rfl) (V : PutV rs b tp (rcells t) f := by infer_instance) (hy : ev e y = .agg ys.toArray := by rfl) : L Try.prog n ops Q (⟨none, .store ty x y, tt, pp, af, g⟩ :: rest) e w := by
  subst ho
  refine X.stp (ys := ys) (rcells (t.set i z)) H h hw hx V hy ?_ h1 hn (by rw [Nat.ble_eq, rcells_len ht]; omega)
  have := flatS_put (f := RN.cells) t (sz := 4) (fun x _ => rfl) i k ys z (by omega) hk (by rw [hz, rn_get ht hi])
  rw [Nat.zero_add, rcells, rcells, ← this, putL, hn]
variable {p q : Str} {m : List RN}
set_option maxRecDepth 100000 in
set_option maxHeartbeats 1000000 in
theorem Under_w (H : Holds s w R) (hp : p.length ≤ 140737488355328) (hq : q.length ≤ 140737488355328) : Calls Try.prog 11 #[.string ⟨p.toArray⟩, .string ⟨q.toArray⟩] w fun e w' => e = .returned (.bool (decide (underP p q))) ∧ Holds s w' R := by
  refine enter Try.func11 rfl Try.ntmps11 rfl ?_
  by_cases h1 : q.length < p.length
  rotate_left
  · repeat' (first | (refine X.lenL ?_) | (refine X.lv H ?_) | (refine X.lw H ?_) | (refine X.lp H ?_) | (refine X.stR H ?_; clear H; (try clear w); intro w H) | (refine X.eqL ?_ ?_ <;> intro hc <;> first | (exfalso; first | exact absurd hc (by assumption) | exact absurd (by assumption) hc) | skip) | refine Z H ?_ | (refine Zc ?_ ?_ <;> intro hc <;> first | (exfalso; omega) | skip) | (refine Y ?_; try change C _ _ _ _ _ _) | (refine Zs H ?_; clear H; (try clear w); intro w H) | (refine Zn H ?_; clear H; (try clear w); intro _ w H) | (refine Ze H ?_; clear H; (try clear w); intro gv w H))
    exact ⟨_, resT rfl, by rw [decide_eq_false (fun h => h1 h.1)]; rfl, H⟩
  by_cases h2 : p.take q.length = q
  rotate_left
  · repeat' (first | (refine X.upto (l := p) q.length ?_ rfl (by omega)) | (refine X.eqL (a := p.take q.length) (b := q) ?_ ?_ <;> intro hc <;> first | (exfalso; exact absurd hc h2) | skip) | (refine X.lenL ?_) | (refine X.lv H ?_) | (refine X.lw H ?_) | (refine X.lp H ?_) | (refine X.stR H ?_; clear H; (try clear w); intro w H) | (refine X.eqL ?_ ?_ <;> intro hc <;> first | (exfalso; first | exact absurd hc (by assumption) | exact absurd (by assumption) hc) | skip) | refine Z H ?_ | (refine Zc ?_ ?_ <;> intro hc <;> first | (exfalso; omega) | skip) | (refine Y ?_; try change C _ _ _ _ _ _) | (refine Zs H ?_; clear H; (try clear w); intro w H) | (refine Zn H ?_; clear H; (try clear w); intro _ w H) | (refine Ze H ?_; clear H; (try clear w); intro gv w H))
    exact ⟨_, resT rfl, by rw [decide_eq_false (fun h => h2 h.2.1)]; rfl, H⟩
  by_cases h3 : (((p[q.length]?.getD 0).toNat : Nat) : Int) = 47
  · have h3' : p[q.length]? = some 47 := by
      rw [List.getElem?_eq_getElem h1] at h3 ⊢
      simp at h3
      congr 1
      exact UInt8.toNat_inj.1 (by rw [show (47 : UInt8).toNat = 47 from rfl]; omega)
    repeat' (first | (refine X.upto (l := p) q.length ?_ rfl (by omega)) | (refine X.eqL (a := p.take q.length) (b := q) ?_ ?_ <;> intro hc <;> first | (exfalso; exact absurd h2 hc) | skip) | (refine X.sidx (l := p) q.length ?_) | (refine X.lenL ?_) | (refine X.lv H ?_) | (refine X.lw H ?_) | (refine X.lp H ?_) | (refine X.stR H ?_; clear H; (try clear w); intro w H) | (refine X.eqL ?_ ?_ <;> intro hc <;> first | (exfalso; first | exact absurd hc (by assumption) | exact absurd (by assumption) hc) | skip) | refine Z H ?_ | (refine Zc ?_ ?_ <;> intro hc <;> first | (exfalso; omega) | skip) | (refine Y ?_; try change C _ _ _ _ _ _) | (refine Zs H ?_; clear H; (try clear w); intro w H) | (refine Zn H ?_; clear H; (try clear w); intro _ w H) | (refine Ze H ?_; clear H; (try clear w); intro gv w H))
    exact ⟨_, resT rfl, by rw [decide_eq_true (show underP p q from ⟨h1, h2, h3'⟩)]; rfl, H⟩
  · repeat' (first | (refine X.upto (l := p) q.length ?_ rfl (by omega)) | (refine X.eqL (a := p.take q.length) (b := q) ?_ ?_ <;> intro hc <;> first | (exfalso; exact absurd h2 hc) | skip) | (refine X.sidx (l := p) q.length ?_) | (refine X.lenL ?_) | (refine X.lv H ?_) | (refine X.lw H ?_) | (refine X.lp H ?_) | (refine X.stR H ?_; clear H; (try clear w); intro w H) | (refine X.eqL ?_ ?_ <;> intro hc <;> first | (exfalso; first | exact absurd hc (by assumption) | exact absurd (by assumption) hc) | skip) | refine Z H ?_ | (refine Zc ?_ ?_ <;> intro hc <;> first | (exfalso; omega) | skip) | (refine Y ?_; try change C _ _ _ _ _ _) | (refine Zs H ?_; clear H; (try clear w); intro w H) | (refine Zn H ?_; clear H; (try clear w); intro _ w H) | (refine Ze H ?_; clear H; (try clear w); intro gv w H))
    exact ⟨_, resT rfl, by rw [decide_eq_false (fun h => h3 (by rw [h.2.2]; rfl))]; rfl, H⟩
set_option maxRecDepth 100000 in
set_option maxHeartbeats 1000000 in
theorem Cut_w {M : Nat} (H : Holds s w R) (hm : ROk s m M) (hl : p.length ≤ 140737488355328) : Calls Try.prog 36 #[.agg (rcells m).toArray, .string ⟨p.toArray⟩] w fun e w' => ∃ (m' : List RN) (er : Int), ROk s m' M ∧ e = .returned (.tuple #[.agg (rcells m').toArray, .int .i64 er]) ∧ Holds s w' R := by
  have hm8 := hm.l8
  have hm32 := rcells_len hm8
  have hz8 : (List.replicate 8 RN.zero).length = 8 := rfl
  refine enter Try.func36 rfl Try.ntmps36 rfl ?_
  repeat' (first | (refine X.lenL ?_) | (refine X.lv H ?_) | (refine X.lw H ?_) | (refine X.lp H ?_) | (refine X.stR H ?_; clear H; (try clear w); intro w H) | (refine X.eqL ?_ ?_ <;> intro hc <;> first | (exfalso; first | exact absurd hc (by assumption) | exact absurd (by assumption) hc) | skip) | refine Z H ?_ | (refine Zc ?_ ?_ <;> intro hc <;> first | (exfalso; omega) | skip) | (refine Y ?_; try change C _ _ _ _ _ _) | (refine Zs H ?_; clear H; (try clear w); intro w H) | (refine Zn H ?_; clear H; (try clear w); intro _ w H) | (refine Ze H ?_; clear H; (try clear w); intro gv w H))
  (refine X.call (File_w (p := p) H hm8 hl) ?_; (try clear H); rintro _ w ⟨k, er, hk, rfl, H⟩; refine ⟨_, rfl, ?_⟩)
  by_cases her : er = 0
  rotate_left
  · repeat' (first | (refine X.lenL ?_) | (refine X.lv H ?_) | (refine X.lw H ?_) | (refine X.lp H ?_) | (refine X.stR H ?_; clear H; (try clear w); intro w H) | (refine X.eqL ?_ ?_ <;> intro hc <;> first | (exfalso; first | exact absurd hc (by assumption) | exact absurd (by assumption) hc) | skip) | refine Z H ?_ | (refine Zc ?_ ?_ <;> intro hc <;> first | (exfalso; omega) | skip) | (refine Y ?_; try change C _ _ _ _ _ _) | (refine Zs H ?_; clear H; (try clear w); intro w H) | (refine Zn H ?_; clear H; (try clear w); intro _ w H) | (refine Ze H ?_; clear H; (try clear w); intro gv w H))
    exact ⟨_, resVT (cs := rcells m) H rfl rfl inferInstance hm32, m, er, hm, rfl, H.tail.tail⟩
  have hx := hm.at hk
  have hb1 : RB s { rn m k with data := [] } M := ⟨by simp, hx.pl, hx.few, hx.bs⟩
  have hs1 := hm.set k hb1
  have hm1 := hs1.l8
  have hs2 := hs1.set k (RB.nil (k := (rn m k).kind) hx.pl)
  have hm2 := hs2.l8
  have hn1 : rn (m.set k { rn m k with data := [] }) k = { rn m k with data := [] } := by
    unfold rn
    rw [List.getElem?_set_self (by omega)]
    rfl
  repeat' (first | (refine K.iaA (i := k) rfl rfl rfl rfl rfl hk ?_) | (refine X.stRc k 2 { rn m k with data := [] } hm8 hk (by decide) rfl H ?_; clear H; (try clear w); intro w H) | (refine X.stRc k 3 ⟨(rn m k).kind, (rn m k).path, [], none, 0, 0⟩ hm1 hk (by decide) (by rw [hn1]; rfl) H ?_; clear H; (try clear w); intro w H) | (refine X.lw H ?_ (hn := rcells_len hm2)) | (refine X.lenL ?_) | (refine X.lv H ?_) | (refine X.lw H ?_) | (refine X.lp H ?_) | (refine X.stR H ?_; clear H; (try clear w); intro w H) | (refine X.eqL ?_ ?_ <;> intro hc <;> first | (exfalso; first | exact absurd hc (by assumption) | exact absurd (by assumption) hc) | skip) | refine Z H ?_ | (refine Zc ?_ ?_ <;> intro hc <;> first | (exfalso; omega) | skip) | (refine Y ?_; try change C _ _ _ _ _ _) | (refine Zs H ?_; clear H; (try clear w); intro w H) | (refine Zn H ?_; clear H; (try clear w); intro _ w H) | (refine Ze H ?_; clear H; (try clear w); intro gv w H))
  exact ⟨_, resVT (cs := rcells ((m.set k { rn m k with data := [] }).set k ⟨(rn m k).kind, (rn m k).path, [], none, 0, 0⟩)) H rfl rfl inferInstance (rcells_len hm2), _, 0, hs2, by rw [her]; rfl, H.tail.tail⟩
end
end Go.Proofs.Ytlchnabnhimlcaa

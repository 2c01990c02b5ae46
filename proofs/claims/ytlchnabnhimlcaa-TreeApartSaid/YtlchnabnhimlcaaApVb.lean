/- nacelleref17, walked weakly: IsPath; its tree in memory; at. nacelleref17, walked weakly: its tree in memory; at, find, Find, dir, File. -/
import Derived.Test.YtlchnabnhimlcaaApUc
set_option linter.unusedSimpArgs false
set_option linter.unusedVariables false
namespace Go.Proofs.Ytlchnabnhimlcaa
open Go Go.RowKit Go.Own
theorem above_fst_lt {p : Str} {i : Nat} (hi : i < p.length) (h2 : 2 ≤ p.length) : (aboveM p i).1.length < p.length := by
  unfold aboveM
  split
  · show 1 < _; omega
  · simp only [List.length_take]; omega
theorem above_snd_le {p : Str} {i : Nat} : (aboveM p i).2.length ≤ p.length := by
  unfold aboveM
  split <;> simp
theorem above_fst_sl {p : Str} {i : Nat} (h : p[0]? = some 47) : (aboveM p i).1[0]? = some 47 := by
  unfold aboveM
  split
  · rfl
  · rename_i h0
    rw [List.getElem?_take_of_lt (by omega)]
    exact h
section
variable {n : Nat} {ops : Array Oper} {Q : Post} {rest : List Oper} {e : Env} {w : World} {s : Ro} {rs R : List Asn} {tt : Nat} {pp : String} {af : Array Edge} {g : Option (Nat × Bool)} {d : Nat}
set_option maxRecDepth 100000 in
set_option maxHeartbeats 1000000 in
theorem IsPath_n : ∀ (n : Nat) (p : Str) {w : World}, Holds s w R → p.length ≤ n → p.length ≤ 140737488355328 → Calls Try.prog 49 #[.string ⟨p.toArray⟩] w fun e w' => ∃ b : Bool, e = .returned (.bool b) ∧ (b = true → p[0]? = some 47 ∧ p.length ≤ 72) ∧ Holds s w' R := by
  intro n
  induction n with
  | zero =>
    intro p w H hn hl
    obtain rfl : p = [] := List.eq_nil_of_length_eq_zero (by omega)
    have h47 : ([] : Str) ≠ [47] := by decide
    have hl0 : ([] : Str).length = 0 := rfl
    refine enter Try.func49 rfl Try.ntmps49 rfl ?_
    repeat' (first | (refine X.eqL (a := []) (b := [47]) ?_ ?_ <;> intro hc <;> first | (exfalso; exact absurd hc h47) | skip) | (refine X.lenL (l := []) ?_) | (refine X.lenL ?_) | (refine X.lv H ?_) | (refine X.lp H ?_) | (refine X.eqL ?_ ?_ <;> intro hc <;> first | (exfalso; first | exact absurd hc (by assumption) | exact absurd (by assumption) hc) | skip) | refine Z H ?_ | (refine Zc ?_ ?_ <;> intro hc <;> first | (exfalso; omega) | skip) | (refine Y ?_; try change C _ _ _ _ _ _) | (refine Zs H ?_; clear H; (try clear w); intro w H) | (refine Zn H ?_; clear H; (try clear w); intro _ w H) | (refine Ze H ?_; clear H; (try clear w); intro gv w H))
    exact ⟨_, resT rfl, false, rfl, (fun h => by cases h), H⟩
  | succ n ih =>
    intro p w H hn hl
    refine enter Try.func49 rfl Try.ntmps49 rfl ?_
    by_cases hroot : p = [47]
    · repeat' (first | (refine X.eqL (a := p) (b := [47]) ?_ ?_ <;> intro hc <;> first | (exfalso; exact absurd hroot hc) | skip) | (refine X.lenL ?_) | (refine X.lv H ?_) | (refine X.lp H ?_) | (refine X.eqL ?_ ?_ <;> intro hc <;> first | (exfalso; first | exact absurd hc (by assumption) | exact absurd (by assumption) hc) | skip) | refine Z H ?_ | (refine Zc ?_ ?_ <;> intro hc <;> first | (exfalso; omega) | skip) | (refine Y ?_; try change C _ _ _ _ _ _) | (refine Zs H ?_; clear H; (try clear w); intro w H) | (refine Zn H ?_; clear H; (try clear w); intro _ w H) | (refine Ze H ?_; clear H; (try clear w); intro gv w H))
      exact ⟨_, resT rfl, true, rfl, fun _ => by rw [hroot]; exact ⟨rfl, by decide⟩, H⟩
    by_cases hlen : p.length < 2
    · repeat' (first | (refine X.eqL (a := p) (b := [47]) ?_ ?_ <;> intro hc <;> first | (exfalso; exact absurd hc hroot) | skip) | (refine X.lenL ?_) | (refine X.lv H ?_) | (refine X.lp H ?_) | (refine X.eqL ?_ ?_ <;> intro hc <;> first | (exfalso; first | exact absurd hc (by assumption) | exact absurd (by assumption) hc) | skip) | refine Z H ?_ | (refine Zc ?_ ?_ <;> intro hc <;> first | (exfalso; omega) | skip) | (refine Y ?_; try change C _ _ _ _ _ _) | (refine Zs H ?_; clear H; (try clear w); intro w H) | (refine Zn H ?_; clear H; (try clear w); intro _ w H) | (refine Ze H ?_; clear H; (try clear w); intro gv w H))
      exact ⟨_, resT rfl, false, rfl, (fun h => by cases h), H⟩
    by_cases h72 : 72 < p.length
    · repeat' (first | (refine X.eqL (a := p) (b := [47]) ?_ ?_ <;> intro hc <;> first | (exfalso; exact absurd hc hroot) | skip) | (refine X.lenL ?_) | (refine X.lv H ?_) | (refine X.lp H ?_) | (refine X.eqL ?_ ?_ <;> intro hc <;> first | (exfalso; first | exact absurd hc (by assumption) | exact absurd (by assumption) hc) | skip) | refine Z H ?_ | (refine Zc ?_ ?_ <;> intro hc <;> first | (exfalso; omega) | skip) | (refine Y ?_; try change C _ _ _ _ _ _) | (refine Zs H ?_; clear H; (try clear w); intro w H) | (refine Zn H ?_; clear H; (try clear w); intro _ w H) | (refine Ze H ?_; clear H; (try clear w); intro gv w H))
      exact ⟨_, resT rfl, false, rfl, (fun h => by cases h), H⟩
    by_cases h47 : (((p[0]?.getD 0).toNat : Nat) : Int) = 47
    rotate_left
    · repeat' (first | (refine X.eqL (a := p) (b := [47]) ?_ ?_ <;> intro hc <;> first | (exfalso; exact absurd hc hroot) | skip) | (refine X.sidx (l := p) 0 ?_) | (refine X.lenL ?_) | (refine X.lv H ?_) | (refine X.lp H ?_) | (refine X.eqL ?_ ?_ <;> intro hc <;> first | (exfalso; first | exact absurd hc (by assumption) | exact absurd (by assumption) hc) | skip) | refine Z H ?_ | (refine Zc ?_ ?_ <;> intro hc <;> first | (exfalso; omega) | skip) | (refine Y ?_; try change C _ _ _ _ _ _) | (refine Zs H ?_; clear H; (try clear w); intro w H) | (refine Zn H ?_; clear H; (try clear w); intro _ w H) | (refine Ze H ?_; clear H; (try clear w); intro gv w H))
      exact ⟨_, resT rfl, false, rfl, (fun h => by cases h), H⟩
    have hsl : p[0]? = some 47 := by
      rw [List.getElem?_eq_getElem (by omega)] at h47 ⊢
      simp at h47
      congr 1
      exact UInt8.toNat_inj.1 (by rw [show (47 : UInt8).toNat = 47 from rfl]; omega)
    repeat' (first | (refine X.eqL (a := p) (b := [47]) ?_ ?_ <;> intro hc <;> first | (exfalso; exact absurd hc hroot) | skip) | (refine X.sidx (l := p) 0 ?_) | (refine X.lenL ?_) | (refine X.lv H ?_) | (refine X.lp H ?_) | (refine X.eqL ?_ ?_ <;> intro hc <;> first | (exfalso; first | exact absurd hc (by assumption) | exact absurd (by assumption) hc) | skip) | refine Z H ?_ | (refine Zc ?_ ?_ <;> intro hc <;> first | (exfalso; omega) | skip) | (refine Y ?_; try change C _ _ _ _ _ _) | (refine Zs H ?_; clear H; (try clear w); intro w H) | (refine Zn H ?_; clear H; (try clear w); intro _ w H) | (refine Ze H ?_; clear H; (try clear w); intro gv w H))
    (refine X.call (Above_w (p := p) H (by omega) hl) ?_; (try clear H); rintro _ w ⟨i, hi, rfl, H⟩; refine ⟨_, rfl, ?_⟩)
    have hlt := above_fst_lt hi (by omega)
    have hle := above_snd_le (p := p) (i := i)
    generalize (aboveM p i).1 = ab at *
    generalize (aboveM p i).2 = nm at *
    by_cases hab : ab = [47]
    · by_cases hpl : p.length = 1 + nm.length
      · repeat' (first | (refine X.eqL (a := ab) (b := [47]) ?_ ?_ <;> intro hc <;> first | (exfalso; exact absurd hab hc) | skip) | (refine X.lenL ?_) | (refine X.lv H ?_) | (refine X.lp H ?_) | (refine X.eqL ?_ ?_ <;> intro hc <;> first | (exfalso; first | exact absurd hc (by assumption) | exact absurd (by assumption) hc) | skip) | refine Z H ?_ | (refine Zc ?_ ?_ <;> intro hc <;> first | (exfalso; omega) | skip) | (refine Y ?_; try change C _ _ _ _ _ _) | (refine Zs H ?_; clear H; (try clear w); intro w H) | (refine Zn H ?_; clear H; (try clear w); intro _ w H) | (refine Ze H ?_; clear H; (try clear w); intro gv w H))
        (refine X.call (IsName_w (p := nm) H (by omega)) ?_; (try clear H); rintro _ w ⟨b, rfl, H⟩; refine ⟨_, rfl, ?_⟩)
        cases b
        · repeat' (first | (refine X.lenL ?_) | (refine X.lv H ?_) | (refine X.lp H ?_) | (refine X.eqL ?_ ?_ <;> intro hc <;> first | (exfalso; first | exact absurd hc (by assumption) | exact absurd (by assumption) hc) | skip) | refine Z H ?_ | (refine Zc ?_ ?_ <;> intro hc <;> first | (exfalso; omega) | skip) | (refine Y ?_; try change C _ _ _ _ _ _) | (refine Zs H ?_; clear H; (try clear w); intro w H) | (refine Zn H ?_; clear H; (try clear w); intro _ w H) | (refine Ze H ?_; clear H; (try clear w); intro gv w H))
          exact ⟨_, resT rfl, false, rfl, (fun h => by cases h), H⟩
        · repeat' (first | (refine X.lenL ?_) | (refine X.lv H ?_) | (refine X.lp H ?_) | (refine X.eqL ?_ ?_ <;> intro hc <;> first | (exfalso; first | exact absurd hc (by assumption) | exact absurd (by assumption) hc) | skip) | refine Z H ?_ | (refine Zc ?_ ?_ <;> intro hc <;> first | (exfalso; omega) | skip) | (refine Y ?_; try change C _ _ _ _ _ _) | (refine Zs H ?_; clear H; (try clear w); intro w H) | (refine Zn H ?_; clear H; (try clear w); intro _ w H) | (refine Ze H ?_; clear H; (try clear w); intro gv w H))
          (refine X.call (ih ab H (by omega) (by omega)) ?_; (try clear H); rintro _ w ⟨b, rfl, _, H⟩; refine ⟨_, rfl, ?_⟩)
          repeat' (first | (refine X.lenL ?_) | (refine X.lv H ?_) | (refine X.lp H ?_) | (refine X.eqL ?_ ?_ <;> intro hc <;> first | (exfalso; first | exact absurd hc (by assumption) | exact absurd (by assumption) hc) | skip) | refine Z H ?_ | (refine Zc ?_ ?_ <;> intro hc <;> first | (exfalso; omega) | skip) | (refine Y ?_; try change C _ _ _ _ _ _) | (refine Zs H ?_; clear H; (try clear w); intro w H) | (refine Zn H ?_; clear H; (try clear w); intro _ w H) | (refine Ze H ?_; clear H; (try clear w); intro gv w H))
          exact ⟨_, resT rfl, b, rfl, (fun _ => ⟨hsl, by omega⟩), H⟩
      · repeat' (first | (refine X.eqL (a := ab) (b := [47]) ?_ ?_ <;> intro hc <;> first | (exfalso; exact absurd hab hc) | skip) | (refine X.lenL ?_) | (refine X.lv H ?_) | (refine X.lp H ?_) | (refine X.eqL ?_ ?_ <;> intro hc <;> first | (exfalso; first | exact absurd hc (by assumption) | exact absurd (by assumption) hc) | skip) | refine Z H ?_ | (refine Zc ?_ ?_ <;> intro hc <;> first | (exfalso; omega) | skip) | (refine Y ?_; try change C _ _ _ _ _ _) | (refine Zs H ?_; clear H; (try clear w); intro w H) | (refine Zn H ?_; clear H; (try clear w); intro _ w H) | (refine Ze H ?_; clear H; (try clear w); intro gv w H))
        exact ⟨_, resT rfl, false, rfl, (fun h => by cases h), H⟩
    · repeat' (first | (refine X.eqL (a := ab) (b := [47]) ?_ ?_ <;> intro hc <;> first | (exfalso; exact absurd hc hab) | skip) | (refine X.lenL ?_) | (refine X.lv H ?_) | (refine X.lp H ?_) | (refine X.eqL ?_ ?_ <;> intro hc <;> first | (exfalso; first | exact absurd hc (by assumption) | exact absurd (by assumption) hc) | skip) | refine Z H ?_ | (refine Zc ?_ ?_ <;> intro hc <;> first | (exfalso; omega) | skip) | (refine Y ?_; try change C _ _ _ _ _ _) | (refine Zs H ?_; clear H; (try clear w); intro w H) | (refine Zn H ?_; clear H; (try clear w); intro _ w H) | (refine Ze H ?_; clear H; (try clear w); intro gv w H))
      (refine X.call (IsName_w (p := nm) H (by omega)) ?_; (try clear H); rintro _ w ⟨b, rfl, H⟩; refine ⟨_, rfl, ?_⟩)
      cases b
      · repeat' (first | (refine X.lenL ?_) | (refine X.lv H ?_) | (refine X.lp H ?_) | (refine X.eqL ?_ ?_ <;> intro hc <;> first | (exfalso; first | exact absurd hc (by assumption) | exact absurd (by assumption) hc) | skip) | refine Z H ?_ | (refine Zc ?_ ?_ <;> intro hc <;> first | (exfalso; omega) | skip) | (refine Y ?_; try change C _ _ _ _ _ _) | (refine Zs H ?_; clear H; (try clear w); intro w H) | (refine Zn H ?_; clear H; (try clear w); intro _ w H) | (refine Ze H ?_; clear H; (try clear w); intro gv w H))
        exact ⟨_, resT rfl, false, rfl, (fun h => by cases h), H⟩
      · repeat' (first | (refine X.lenL ?_) | (refine X.lv H ?_) | (refine X.lp H ?_) | (refine X.eqL ?_ ?_ <;> intro hc <;> first | (exfalso; first | exact absurd hc (by assumption) | exact absurd (by assumption) hc) | skip) | refine Z H ?_ | (refine Zc ?_ ?_ <;> intro hc <;> first | (exfalso; omega) | skip) | (refine Y ?_; try change C _ _ _ _ _ _) | (refine Zs H ?_; clear H; (try clear w); intro w H) | (refine Zn H ?_; clear H; (try clear w); intro _ w H) | (refine Ze H ?_; clear H; (try clear w); intro gv w H))
        (refine X.call (ih ab H (by omega) (by omega)) ?_; (try clear H); rintro _ w ⟨b, rfl, _, H⟩; refine ⟨_, rfl, ?_⟩)
        repeat' (first | (refine X.lenL ?_) | (refine X.lv H ?_) | (refine X.lp H ?_) | (refine X.eqL ?_ ?_ <;> intro hc <;> first | (exfalso; first | exact absurd hc (by assumption) | exact absurd (by assumption) hc) | skip) | refine Z H ?_ | (refine Zc ?_ ?_ <;> intro hc <;> first | (exfalso; omega) | skip) | (refine Y ?_; try change C _ _ _ _ _ _) | (refine Zs H ?_; clear H; (try clear w); intro w H) | (refine Zn H ?_; clear H; (try clear w); intro _ w H) | (refine Ze H ?_; clear H; (try clear w); intro gv w H))
        exact ⟨_, resT rfl, b, rfl, (fun _ => ⟨hsl, by omega⟩), H⟩
theorem IsPath_w {p : Str} (H : Holds s w R) (hl : p.length ≤ 140737488355328) : Calls Try.prog 49 #[.string ⟨p.toArray⟩] w fun e w' => ∃ b : Bool, e = .returned (.bool b) ∧ (b = true → p[0]? = some 47 ∧ p.length ≤ 72) ∧ Holds s w' R := IsPath_n p.length p H (Nat.le_refl _) hl
end
end Go.Proofs.Ytlchnabnhimlcaa
set_option linter.unusedSimpArgs false
set_option linter.unusedVariables false
namespace Go.Proofs.Ytlchnabnhimlcaa
open Go Go.RowKit Go.Own
structure RN where
  kind : Int
  path : Str
  data : Str
  sa : Option Addr
  nb : Nat
  sc : Nat
def RN.zero : RN := ⟨0, [], [], none, 0, 0⟩
def RN.cells (x : RN) : List Value := [.int .i64 x.kind, .string ⟨x.path.toArray⟩, .string ⟨x.data.toArray⟩, .slice x.sa x.nb x.sc]
def rcells (m : List RN) : List Value := m.flatMap RN.cells
def rn (m : List RN) (i : Nat) : RN := m[i]?.getD RN.zero
theorem rcells_len {m : List RN} (h : m.length = 8) : (rcells m).length = 32 := by
  unfold rcells
  rw [flatS_len m (sz := 4) (fun x _ => rfl), h]
theorem rn_get {m : List RN} (h : m.length = 8) {i : Nat} (hi : i < 8) : rn m i = m[i]'(by omega) := by
  unfold rn
  rw [List.getElem?_eq_getElem (by omega)]
  rfl
theorem rcell {m : List RN} (h : m.length = 8) {i : Nat} (hi : i < 8) (k : Nat) (v : Value) (hv : (rn m i).cells[k]? = some v) : (rcells m)[0 + i * 4 + k]? = some v := by
  have hk : k < 4 := (List.getElem?_eq_some_iff.1 hv).1
  rw [Nat.zero_add, rcells, flat_get m (sz := 4) (fun x _ => rfl) i k (by omega) hk, ← rn_get h hi]
  exact hv
def atFrom (m : List RN) (p : Str) : Nat → Nat → Int
  | 0, _ => -1
  | f + 1, i => if (rn m i).kind ≠ 0 ∧ (rn m i).path = p then (i : Int) else atFrom m p f (i + 1)
def atM (m : List RN) (p : Str) : Int := atFrom m p 8 0
theorem atFrom_range {m : List RN} {p : Str} : ∀ (f i : Nat), atFrom m p f i < 0 ∨ ∃ k : Nat, k < i + f ∧ atFrom m p f i = k
  | 0, i => .inl (by rw [atFrom]; omega)
  | f + 1, i => by
    rw [atFrom]
    split
    · exact .inr ⟨i, by omega, rfl⟩
    · rcases atFrom_range f (i + 1) with h | ⟨k, h1, h2⟩
      · exact .inl h
      · exact .inr ⟨k, by omega, h2⟩
theorem atM_range {m : List RN} {p : Str} : atM m p < 0 ∨ ∃ k : Nat, k < 8 ∧ atM m p = k := by
  rcases atFrom_range (m := m) (p := p) 8 0 with h | ⟨k, h1, h2⟩
  · exact .inl h
  · exact .inr ⟨k, by omega, h2⟩
section
variable {n : Nat} {ops : Array Oper} {Q : Post} {rest : List Oper} {e : Env} {w : World} {s : Ro} {rs R : List Asn} {tt : Nat} {pp : String} {af : Array Edge} {g : Option (Nat × Bool)} {d : Nat}
variable {p : Str} {m : List RN}
set_option maxRecDepth 100000 in
set_option maxHeartbeats 1000000 in
theorem at_w (H : Holds s w R) (hm : m.length = 8) : Calls Try.prog 56 #[.agg (rcells m).toArray, .string ⟨p.toArray⟩] w fun e w' => e = .returned (.int .i64 (atM m p)) ∧ Holds s w' R := by
  refine enter Try.func56 rfl Try.ntmps56 rfl ?_
  repeat' (first | (refine X.lenL ?_) | (refine X.lv H ?_) | (refine X.lw H ?_) | (refine X.lp H ?_) | (refine X.eqL ?_ ?_ <;> intro hc <;> first | (exfalso; first | exact absurd hc (by assumption) | exact absurd (by assumption) hc) | skip) | refine Z H ?_ | (refine Zc ?_ ?_ <;> intro hc <;> first | (exfalso; omega) | skip) | (refine Y ?_; try change C _ _ _ _ _ _) | (refine Zs H ?_; clear H; (try clear w); intro w H) | (refine Zn H ?_; clear H; (try clear w); intro _ w H) | (refine Ze H ?_; clear H; (try clear w); intro gv w H))
  refine C.loopH H [4, 5, 6, 7, 8, 9, 10, 11, 12, 13, 14, 15, 16, 17, 18, 19, 20, 21, 22, 23] [5] rfl (fun f vs => ∃ i : Nat, f = 8 - i ∧ i ≤ 8 ∧ vs = [.int .i64 (i : Int)] ∧ atFrom m p (8 - i) i = atM m p) 8 ⟨0, rfl, by omega, rfl, rfl⟩ ?_
  clear H
  rintro f vs hv w ⟨i, rfl, hi, rfl, hr⟩ H
  by_cases hlt : i < 8
  rotate_left
  · obtain rfl : i = 8 := by omega
    repeat' (first | (refine X.lenL ?_) | (refine X.lv H ?_) | (refine X.lw H ?_) | (refine X.lp H ?_) | (refine X.eqL ?_ ?_ <;> intro hc <;> first | (exfalso; first | exact absurd hc (by assumption) | exact absurd (by assumption) hc) | skip) | refine Z H ?_ | (refine Zc ?_ ?_ <;> intro hc <;> first | (exfalso; omega) | skip) | (refine Y ?_; try change C _ _ _ _ _ _) | (refine Zs H ?_; clear H; (try clear w); intro w H) | (refine Zn H ?_; clear H; (try clear w); intro _ w H) | (refine Ze H ?_; clear H; (try clear w); intro gv w H))
    exact ⟨_, resT rfl, by rw [← hr]; rfl, H.tail⟩
  rw [show 8 - i = (7 - i) + 1 by omega, atFrom] at hr
  have c0 := rcell hm hlt 0 _ rfl
  have c1 := rcell hm hlt 1 _ rfl
  by_cases h1 : (rn m i).kind ≠ 0
  · by_cases h2 : (rn m i).path = p
    · rw [if_pos ⟨h1, h2⟩] at hr
      repeat' (first | (refine K.iaA (i := i) rfl rfl rfl rfl rfl hlt ?_) | (refine X.lenL ?_) | (refine X.lv H ?_) | (refine X.lw H ?_) | (refine X.lp H ?_) | (refine X.eqL ?_ ?_ <;> intro hc <;> first | (exfalso; first | exact absurd hc (by assumption) | exact absurd (by assumption) hc) | skip) | refine Z H ?_ | (refine Zc ?_ ?_ <;> intro hc <;> first | (exfalso; omega) | skip) | (refine Y ?_; try change C _ _ _ _ _ _) | (refine Zs H ?_; clear H; (try clear w); intro w H) | (refine Zn H ?_; clear H; (try clear w); intro _ w H) | (refine Ze H ?_; clear H; (try clear w); intro gv w H))
      exact ⟨_, resT rfl, by rw [← hr]; rfl, H.tail⟩
    · rw [if_neg (fun h => h2 h.2)] at hr
      repeat' (first | (refine K.iaA (i := i) rfl rfl rfl rfl rfl hlt ?_) | (refine X.lenL ?_) | (refine X.lv H ?_) | (refine X.lw H ?_) | (refine X.lp H ?_) | (refine X.eqL ?_ ?_ <;> intro hc <;> first | (exfalso; first | exact absurd hc (by assumption) | exact absurd (by assumption) hc) | skip) | refine Z H ?_ | (refine Zc ?_ ?_ <;> intro hc <;> first | (exfalso; omega) | skip) | (refine Y ?_; try change C _ _ _ _ _ _) | (refine Zs H ?_; clear H; (try clear w); intro w H) | (refine Zn H ?_; clear H; (try clear w); intro _ w H) | (refine Ze H ?_; clear H; (try clear w); intro gv w H))
      exact ⟨by (repeat (first | exact Agr.refl | exact Agr.hav | refine Agr.upd rfl ?_ | refine Agr.in rfl ?_)), 8 - (i + 1), by omega, ⟨i + 1, rfl, by omega, rfl, by rw [← hr]; congr 1; omega⟩, H⟩
  · rw [if_neg (fun h => h1 h.1)] at hr
    have h1' : (rn m i).kind = 0 := by omega
    repeat' (first | (refine K.iaA (i := i) rfl rfl rfl rfl rfl hlt ?_) | (refine X.lenL ?_) | (refine X.lv H ?_) | (refine X.lw H ?_) | (refine X.lp H ?_) | (refine X.eqL ?_ ?_ <;> intro hc <;> first | (exfalso; first | exact absurd hc (by assumption) | exact absurd (by assumption) hc) | skip) | refine Z H ?_ | (refine Zc ?_ ?_ <;> intro hc <;> first | (exfalso; omega) | skip) | (refine Y ?_; try change C _ _ _ _ _ _) | (refine Zs H ?_; clear H; (try clear w); intro w H) | (refine Zn H ?_; clear H; (try clear w); intro _ w H) | (refine Ze H ?_; clear H; (try clear w); intro gv w H))
    exact ⟨by (repeat (first | exact Agr.refl | exact Agr.hav | refine Agr.upd rfl ?_ | refine Agr.in rfl ?_)), 8 - (i + 1), by omega, ⟨i + 1, rfl, by omega, rfl, by rw [← hr]; congr 1; omega⟩, H⟩
set_option maxRecDepth 100000 in
set_option maxHeartbeats 1000000 in
theorem find_n (hm : m.length = 8) : ∀ (n : Nat) (p : Str) (w : World) (R : List Asn), Holds s w R → p.length ≤ n → p.length ≤ 140737488355328 → p[0]? = some 47 → Calls Try.prog 50 #[.agg (rcells m).toArray, .string ⟨p.toArray⟩] w fun e w' => ∃ (k : Nat) (er : Int), k < 8 ∧ e = .returned (.tuple #[.int .i64 (k : Int), .int .i64 er]) ∧ Holds s w' R := by
  have hm32 := rcells_len hm
  intro n
  induction n with
  | zero =>
    intro p w R H hn hl hsl
    rw [List.eq_nil_of_length_eq_zero (show p.length = 0 by omega)] at hsl
    cases hsl
  | succ n ih =>
    intro p w R H hn hl hsl
    refine enter Try.func50 rfl Try.ntmps50 rfl ?_
    by_cases hroot : p = [47]
    · repeat' (first | (refine X.eqL (a := p) (b := [47]) ?_ ?_ <;> intro hc <;> first | (exfalso; exact absurd hroot hc) | skip) | (refine X.lenL ?_) | (refine X.lv H ?_) | (refine X.lw H ?_) | (refine X.lp H ?_) | (refine X.eqL ?_ ?_ <;> intro hc <;> first | (exfalso; first | exact absurd hc (by assumption) | exact absurd (by assumption) hc) | skip) | refine Z H ?_ | (refine Zc ?_ ?_ <;> intro hc <;> first | (exfalso; omega) | skip) | (refine Y ?_; try change C _ _ _ _ _ _) | (refine Zs H ?_; clear H; (try clear w); intro w H) | (refine Zn H ?_; clear H; (try clear w); intro _ w H) | (refine Ze H ?_; clear H; (try clear w); intro gv w H))
      exact ⟨_, resTT rfl, 0, 0, by omega, rfl, H.tail⟩
    have hlen : 2 ≤ p.length := by
      rcases p with _ | ⟨a, _ | ⟨b, q⟩⟩
      · cases hsl
      · simp at hsl; subst hsl; exact absurd rfl hroot
      · simp
    repeat' (first | (refine X.eqL (a := p) (b := [47]) ?_ ?_ <;> intro hc <;> first | (exfalso; exact absurd hc hroot) | skip) | (refine X.lenL ?_) | (refine X.lv H ?_) | (refine X.lw H ?_) | (refine X.lp H ?_) | (refine X.eqL ?_ ?_ <;> intro hc <;> first | (exfalso; first | exact absurd hc (by assumption) | exact absurd (by assumption) hc) | skip) | refine Z H ?_ | (refine Zc ?_ ?_ <;> intro hc <;> first | (exfalso; omega) | skip) | (refine Y ?_; try change C _ _ _ _ _ _) | (refine Zs H ?_; clear H; (try clear w); intro w H) | (refine Zn H ?_; clear H; (try clear w); intro _ w H) | (refine Ze H ?_; clear H; (try clear w); intro gv w H))
    (refine X.call (Above_w (p := p) H (by omega) hl) ?_; (try clear H); rintro _ w ⟨i, hi, rfl, H⟩; refine ⟨_, rfl, ?_⟩)
    have hlt := above_fst_lt hi hlen
    have hasl := above_fst_sl (i := i) hsl
    generalize (aboveM p i).1 = ab at *
    generalize (aboveM p i).2 = nm at *
    repeat' (first | (refine X.lenL ?_) | (refine X.lv H ?_) | (refine X.lw H ?_) | (refine X.lp H ?_) | (refine X.eqL ?_ ?_ <;> intro hc <;> first | (exfalso; first | exact absurd hc (by assumption) | exact absurd (by assumption) hc) | skip) | refine Z H ?_ | (refine Zc ?_ ?_ <;> intro hc <;> first | (exfalso; omega) | skip) | (refine Y ?_; try change C _ _ _ _ _ _) | (refine Zs H ?_; clear H; (try clear w); intro w H) | (refine Zn H ?_; clear H; (try clear w); intro _ w H) | (refine Ze H ?_; clear H; (try clear w); intro gv w H))
    (refine X.call (ih ab _ _ H (by omega) (by omega) hasl) ?_; (try clear H); rintro _ w ⟨k, er, hk, rfl, H⟩; refine ⟨_, rfl, ?_⟩)
    by_cases her : er = 0
    rotate_left
    · repeat' (first | (refine X.lenL ?_) | (refine X.lv H ?_) | (refine X.lw H ?_) | (refine X.lp H ?_) | (refine X.eqL ?_ ?_ <;> intro hc <;> first | (exfalso; first | exact absurd hc (by assumption) | exact absurd (by assumption) hc) | skip) | refine Z H ?_ | (refine Zc ?_ ?_ <;> intro hc <;> first | (exfalso; omega) | skip) | (refine Y ?_; try change C _ _ _ _ _ _) | (refine Zs H ?_; clear H; (try clear w); intro w H) | (refine Zn H ?_; clear H; (try clear w); intro _ w H) | (refine Ze H ?_; clear H; (try clear w); intro gv w H))
      exact ⟨_, resTT rfl, 0, er, by omega, rfl, H.tail⟩
    have c0 := rcell hm hk 0 _ rfl
    by_cases hk2 : (rn m k).kind = 2
    · repeat' (first | (refine K.iaA (i := k) rfl rfl rfl rfl rfl hk ?_) | (refine X.lenL ?_) | (refine X.lv H ?_) | (refine X.lw H ?_) | (refine X.lp H ?_) | (refine X.eqL ?_ ?_ <;> intro hc <;> first | (exfalso; first | exact absurd hc (by assumption) | exact absurd (by assumption) hc) | skip) | refine Z H ?_ | (refine Zc ?_ ?_ <;> intro hc <;> first | (exfalso; omega) | skip) | (refine Y ?_; try change C _ _ _ _ _ _) | (refine Zs H ?_; clear H; (try clear w); intro w H) | (refine Zn H ?_; clear H; (try clear w); intro _ w H) | (refine Ze H ?_; clear H; (try clear w); intro gv w H))
      exact ⟨_, resTT rfl, 0, 170, by omega, rfl, H.tail⟩
    repeat' (first | (refine K.iaA (i := k) rfl rfl rfl rfl rfl hk ?_) | (refine X.lenL ?_) | (refine X.lv H ?_) | (refine X.lw H ?_) | (refine X.lp H ?_) | (refine X.eqL ?_ ?_ <;> intro hc <;> first | (exfalso; first | exact absurd hc (by assumption) | exact absurd (by assumption) hc) | skip) | refine Z H ?_ | (refine Zc ?_ ?_ <;> intro hc <;> first | (exfalso; omega) | skip) | (refine Y ?_; try change C _ _ _ _ _ _) | (refine Zs H ?_; clear H; (try clear w); intro w H) | (refine Zn H ?_; clear H; (try clear w); intro _ w H) | (refine Ze H ?_; clear H; (try clear w); intro gv w H))
    (refine X.call (at_w (p := p) H hm) ?_; (try clear H); rintro _ w ⟨rfl, H⟩; refine ⟨_, rfl, ?_⟩)
    rcases atM_range (m := m) (p := p) with hneg | ⟨k', hk', he⟩
    · repeat' (first | (refine X.lenL ?_) | (refine X.lv H ?_) | (refine X.lw H ?_) | (refine X.lp H ?_) | (refine X.eqL ?_ ?_ <;> intro hc <;> first | (exfalso; first | exact absurd hc (by assumption) | exact absurd (by assumption) hc) | skip) | refine Z H ?_ | (refine Zc ?_ ?_ <;> intro hc <;> first | (exfalso; omega) | skip) | (refine Y ?_; try change C _ _ _ _ _ _) | (refine Zs H ?_; clear H; (try clear w); intro w H) | (refine Zn H ?_; clear H; (try clear w); intro _ w H) | (refine Ze H ?_; clear H; (try clear w); intro gv w H))
      exact ⟨_, resTT rfl, 0, 6, by omega, rfl, H.tail⟩
    · repeat' (first | (refine X.lenL ?_) | (refine X.lv H ?_) | (refine X.lw H ?_) | (refine X.lp H ?_) | (refine X.eqL ?_ ?_ <;> intro hc <;> first | (exfalso; first | exact absurd hc (by assumption) | exact absurd (by assumption) hc) | skip) | refine Z H ?_ | (refine Zc ?_ ?_ <;> intro hc <;> first | (exfalso; omega) | skip) | (refine Y ?_; try change C _ _ _ _ _ _) | (refine Zs H ?_; clear H; (try clear w); intro w H) | (refine Zn H ?_; clear H; (try clear w); intro _ w H) | (refine Ze H ?_; clear H; (try clear w); intro gv w H))
      (refine X.call (at_w (p := p) H hm) ?_; (try clear H); rintro _ w ⟨rfl, H⟩; refine ⟨_, rfl, ?_⟩)
      repeat' (first | (refine X.lenL ?_) | (refine X.lv H ?_) | (refine X.lw H ?_) | (refine X.lp H ?_) | (refine X.eqL ?_ ?_ <;> intro hc <;> first | (exfalso; first | exact absurd hc (by assumption) | exact absurd (by assumption) hc) | skip) | refine Z H ?_ | (refine Zc ?_ ?_ <;> intro hc <;> first | (exfalso; omega) | skip) | (refine Y ?_; try change C _ _ _ _ _ _) | (refine Zs H ?_; clear H; (try clear w); intro w H) | (refine Zn H ?_; clear H; (try clear w); intro _ w H) | (refine Ze H ?_; clear H; (try clear w); intro gv w H))
      exact ⟨_, resTT rfl, k', 0, hk', by rw [← he]; rfl, H.tail⟩
set_option maxRecDepth 100000 in
set_option maxHeartbeats 1000000 in
theorem Find_w (H : Holds s w R) (hm : m.length = 8) (hl : p.length ≤ 140737488355328) : Calls Try.prog 20 #[.agg (rcells m).toArray, .string ⟨p.toArray⟩] w fun e w' => ∃ (k : Nat) (er : Int), k < 8 ∧ e = .returned (.tuple #[.int .i64 (k : Int), .int .i64 er]) ∧ Holds s w' R := by
  have hm32 := rcells_len hm
  refine enter Try.func20 rfl Try.ntmps20 rfl ?_
  repeat' (first | (refine X.lenL ?_) | (refine X.lv H ?_) | (refine X.lw H ?_) | (refine X.lp H ?_) | (refine X.eqL ?_ ?_ <;> intro hc <;> first | (exfalso; first | exact absurd hc (by assumption) | exact absurd (by assumption) hc) | skip) | refine Z H ?_ | (refine Zc ?_ ?_ <;> intro hc <;> first | (exfalso; omega) | skip) | (refine Y ?_; try change C _ _ _ _ _ _) | (refine Zs H ?_; clear H; (try clear w); intro w H) | (refine Zn H ?_; clear H; (try clear w); intro _ w H) | (refine Ze H ?_; clear H; (try clear w); intro gv w H))
  (refine X.call (IsPath_w (p := p) H hl) ?_; (try clear H); rintro _ w ⟨b, rfl, hb, H⟩; refine ⟨_, rfl, ?_⟩)
  cases b
  · repeat' (first | (refine X.lenL ?_) | (refine X.lv H ?_) | (refine X.lw H ?_) | (refine X.lp H ?_) | (refine X.eqL ?_ ?_ <;> intro hc <;> first | (exfalso; first | exact absurd hc (by assumption) | exact absurd (by assumption) hc) | skip) | refine Z H ?_ | (refine Zc ?_ ?_ <;> intro hc <;> first | (exfalso; omega) | skip) | (refine Y ?_; try change C _ _ _ _ _ _) | (refine Zs H ?_; clear H; (try clear w); intro w H) | (refine Zn H ?_; clear H; (try clear w); intro _ w H) | (refine Ze H ?_; clear H; (try clear w); intro gv w H))
    exact ⟨_, resTT rfl, 0, 1, by omega, rfl, H.tail⟩
  · repeat' (first | (refine X.lenL ?_) | (refine X.lv H ?_) | (refine X.lw H ?_) | (refine X.lp H ?_) | (refine X.eqL ?_ ?_ <;> intro hc <;> first | (exfalso; first | exact absurd hc (by assumption) | exact absurd (by assumption) hc) | skip) | refine Z H ?_ | (refine Zc ?_ ?_ <;> intro hc <;> first | (exfalso; omega) | skip) | (refine Y ?_; try change C _ _ _ _ _ _) | (refine Zs H ?_; clear H; (try clear w); intro w H) | (refine Zn H ?_; clear H; (try clear w); intro _ w H) | (refine Ze H ?_; clear H; (try clear w); intro gv w H))
    (refine X.call (find_n hm p.length p _ _ H (Nat.le_refl _) hl (hb rfl).1) ?_; (try clear H); rintro _ w ⟨k, er, hk, rfl, H⟩; refine ⟨_, rfl, ?_⟩)
    repeat' (first | (refine X.lenL ?_) | (refine X.lv H ?_) | (refine X.lw H ?_) | (refine X.lp H ?_) | (refine X.eqL ?_ ?_ <;> intro hc <;> first | (exfalso; first | exact absurd hc (by assumption) | exact absurd (by assumption) hc) | skip) | refine Z H ?_ | (refine Zc ?_ ?_ <;> intro hc <;> first | (exfalso; omega) | skip) | (refine Y ?_; try change C _ _ _ _ _ _) | (refine Zs H ?_; clear H; (try clear w); intro w H) | (refine Zn H ?_; clear H; (try clear w); intro _ w H) | (refine Ze H ?_; clear H; (try clear w); intro gv w H))
    exact ⟨_, resTT rfl, k, er, hk, rfl, H.tail⟩
set_option maxRecDepth 100000 in
set_option maxHeartbeats 1000000 in
theorem dir_w (H : Holds s w R) (hm : m.length = 8) (hl : p.length ≤ 140737488355328) (hsl : p[0]? = some 47) : Calls Try.prog 55 #[.agg (rcells m).toArray, .string ⟨p.toArray⟩] w fun e w' => ∃ (ab : Str) (er : Int), ab.length ≤ p.length ∧ e = .returned (.tuple #[.string ⟨ab.toArray⟩, .int .i64 er]) ∧ Holds s w' R := by
  have hm32 := rcells_len hm
  have hp1 : 1 ≤ p.length := by
    cases p with
    | nil => cases hsl
    | cons a q => simp
  refine enter Try.func55 rfl Try.ntmps55 rfl ?_
  repeat' (first | (refine X.lenL ?_) | (refine X.lv H ?_) | (refine X.lw H ?_) | (refine X.lp H ?_) | (refine X.eqL ?_ ?_ <;> intro hc <;> first | (exfalso; first | exact absurd hc (by assumption) | exact absurd (by assumption) hc) | skip) | refine Z H ?_ | (refine Zc ?_ ?_ <;> intro hc <;> first | (exfalso; omega) | skip) | (refine Y ?_; try change C _ _ _ _ _ _) | (refine Zs H ?_; clear H; (try clear w); intro w H) | (refine Zn H ?_; clear H; (try clear w); intro _ w H) | (refine Ze H ?_; clear H; (try clear w); intro gv w H))
  (refine X.call (Above_w (p := p) H hp1 hl) ?_; (try clear H); rintro _ w ⟨i, hi, rfl, H⟩; refine ⟨_, rfl, ?_⟩)
  have hasl := above_fst_sl (i := i) hsl
  have hal : (aboveM p i).1.length ≤ p.length := by
    unfold aboveM
    split
    · exact hp1
    · exact List.length_take_le' _ _
  generalize (aboveM p i).1 = ab at *
  generalize (aboveM p i).2 = nm at *
  repeat' (first | (refine X.lenL ?_) | (refine X.lv H ?_) | (refine X.lw H ?_) | (refine X.lp H ?_) | (refine X.eqL ?_ ?_ <;> intro hc <;> first | (exfalso; first | exact absurd hc (by assumption) | exact absurd (by assumption) hc) | skip) | refine Z H ?_ | (refine Zc ?_ ?_ <;> intro hc <;> first | (exfalso; omega) | skip) | (refine Y ?_; try change C _ _ _ _ _ _) | (refine Zs H ?_; clear H; (try clear w); intro w H) | (refine Zn H ?_; clear H; (try clear w); intro _ w H) | (refine Ze H ?_; clear H; (try clear w); intro gv w H))
  (refine X.call (find_n hm ab.length ab _ _ H (Nat.le_refl _) (by omega) hasl) ?_; (try clear H); rintro _ w ⟨k, er, hk, rfl, H⟩; refine ⟨_, rfl, ?_⟩)
  have c0 := rcell hm hk 0 _ rfl
  by_cases her : er = 0
  · by_cases hk2 : (rn m k).kind = 2
    · repeat' (first | (refine K.iaA (i := k) rfl rfl rfl rfl rfl hk ?_) | (refine X.lenL ?_) | (refine X.lv H ?_) | (refine X.lw H ?_) | (refine X.lp H ?_) | (refine X.eqL ?_ ?_ <;> intro hc <;> first | (exfalso; first | exact absurd hc (by assumption) | exact absurd (by assumption) hc) | skip) | refine Z H ?_ | (refine Zc ?_ ?_ <;> intro hc <;> first | (exfalso; omega) | skip) | (refine Y ?_; try change C _ _ _ _ _ _) | (refine Zs H ?_; clear H; (try clear w); intro w H) | (refine Zn H ?_; clear H; (try clear w); intro _ w H) | (refine Ze H ?_; clear H; (try clear w); intro gv w H))
      exact ⟨_, resTT rfl, ab, 170, hal, rfl, H.tail⟩
    · repeat' (first | (refine K.iaA (i := k) rfl rfl rfl rfl rfl hk ?_) | (refine X.lenL ?_) | (refine X.lv H ?_) | (refine X.lw H ?_) | (refine X.lp H ?_) | (refine X.eqL ?_ ?_ <;> intro hc <;> first | (exfalso; first | exact absurd hc (by assumption) | exact absurd (by assumption) hc) | skip) | refine Z H ?_ | (refine Zc ?_ ?_ <;> intro hc <;> first | (exfalso; omega) | skip) | (refine Y ?_; try change C _ _ _ _ _ _) | (refine Zs H ?_; clear H; (try clear w); intro w H) | (refine Zn H ?_; clear H; (try clear w); intro _ w H) | (refine Ze H ?_; clear H; (try clear w); intro gv w H))
      exact ⟨_, resTT rfl, ab, er, hal, rfl, H.tail⟩
  · repeat' (first | (refine X.lenL ?_) | (refine X.lv H ?_) | (refine X.lw H ?_) | (refine X.lp H ?_) | (refine X.eqL ?_ ?_ <;> intro hc <;> first | (exfalso; first | exact absurd hc (by assumption) | exact absurd (by assumption) hc) | skip) | refine Z H ?_ | (refine Zc ?_ ?_ <;> intro hc <;> first | (exfalso; omega) | skip) | (refine Y ?_; try change C _ _ _ _ _ _) | (refine Zs H ?_; clear H; (try clear w); intro w H) | (refine Zn H ?_; clear H; (try clear w); intro _ w H) | (refine Ze H ?_; clear H; (try clear w); intro gv w H))
    exact ⟨_, resTT rfl, ab, er, hal, rfl, H.tail⟩
set_option maxRecDepth 100000 in
set_option maxHeartbeats 1000000 in
theorem File_w (H : Holds s w R) (hm : m.length = 8) (hl : p.length ≤ 140737488355328) : Calls Try.prog 53 #[.agg (rcells m).toArray, .string ⟨p.toArray⟩] w fun e w' => ∃ (k : Nat) (er : Int), k < 8 ∧ e = .returned (.tuple #[.int .i64 (k : Int), .int .i64 er]) ∧ Holds s w' R := by
  have hm32 := rcells_len hm
  refine enter Try.func53 rfl Try.ntmps53 rfl ?_
  repeat' (first | (refine X.lenL ?_) | (refine X.lv H ?_) | (refine X.lw H ?_) | (refine X.lp H ?_) | (refine X.eqL ?_ ?_ <;> intro hc <;> first | (exfalso; first | exact absurd hc (by assumption) | exact absurd (by assumption) hc) | skip) | refine Z H ?_ | (refine Zc ?_ ?_ <;> intro hc <;> first | (exfalso; omega) | skip) | (refine Y ?_; try change C _ _ _ _ _ _) | (refine Zs H ?_; clear H; (try clear w); intro w H) | (refine Zn H ?_; clear H; (try clear w); intro _ w H) | (refine Ze H ?_; clear H; (try clear w); intro gv w H))
  (refine X.call (Find_w (p := p) H hm hl) ?_; (try clear H); rintro _ w ⟨k, er, hk, rfl, H⟩; refine ⟨_, rfl, ?_⟩)
  have c0 := rcell hm hk 0 _ rfl
  by_cases her : er = 0
  · by_cases hk2 : (rn m k).kind = 2
    · repeat' (first | (refine K.iaA (i := k) rfl rfl rfl rfl rfl hk ?_) | (refine X.lenL ?_) | (refine X.lv H ?_) | (refine X.lw H ?_) | (refine X.lp H ?_) | (refine X.eqL ?_ ?_ <;> intro hc <;> first | (exfalso; first | exact absurd hc (by assumption) | exact absurd (by assumption) hc) | skip) | refine Z H ?_ | (refine Zc ?_ ?_ <;> intro hc <;> first | (exfalso; omega) | skip) | (refine Y ?_; try change C _ _ _ _ _ _) | (refine Zs H ?_; clear H; (try clear w); intro w H) | (refine Zn H ?_; clear H; (try clear w); intro _ w H) | (refine Ze H ?_; clear H; (try clear w); intro gv w H))
      exact ⟨_, resTT rfl, k, er, hk, rfl, H.tail⟩
    · repeat' (first | (refine K.iaA (i := k) rfl rfl rfl rfl rfl hk ?_) | (refine X.lenL ?_) | (refine X.lv H ?_) | (refine X.lw H ?_) | (refine X.lp H ?_) | (refine X.eqL ?_ ?_ <;> intro hc <;> first | (exfalso; first | exact absurd hc (by assumption) | exact absurd (by assumption) hc) | skip) | refine Z H ?_ | (refine Zc ?_ ?_ <;> intro hc <;> first | (exfalso; omega) | skip) | (refine Y ?_; try change C _ _ _ _ _ _) | (refine Zs H ?_; clear H; (try clear w); intro w H) | (refine Zn H ?_; clear H; (try clear w); intro _ w H) | (refine Ze H ?_; clear H; (try clear w); intro gv w H))
      exact ⟨_, resTT rfl, k, 170, hk, rfl, H.tail⟩
  · repeat' (first | (refine X.lenL ?_) | (refine X.lv H ?_) | (refine X.lw H ?_) | (refine X.lp H ?_) | (refine X.eqL ?_ ?_ <;> intro hc <;> first | (exfalso; first | exact absurd hc (by assumption) | exact absurd (by assumption) hc) | skip) | refine Z H ?_ | (refine Zc ?_ ?_ <;> intro hc <;> first | (exfalso; omega) | skip) | (refine Y ?_; try change C _ _ _ _ _ _) | (refine Zs H ?_; clear H; (try clear w); intro w H) | (refine Zn H ?_; clear H; (try clear w); intro _ w H) | (refine Ze H ?_; clear H; (try clear w); intro gv w H))
    exact ⟨_, resTT rfl, k, er, hk, rfl, H.tail⟩
end
end Go.Proofs.Ytlchnabnhimlcaa

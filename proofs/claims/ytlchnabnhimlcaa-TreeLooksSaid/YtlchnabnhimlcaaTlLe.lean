/- nacelleref17, walked exactly: Above, IsName, IsPath. -/
import Derived.Test.YtlchnabnhimlcaaTlVd
import Derived.Test.YtlchnabnhimlcaaTlUc
set_option linter.unusedSimpArgs false
set_option linter.unusedVariables false
namespace Go.Proofs.Ytlchnabnhimlcaa
open Go Go.RowKit Go.Own
theorem aboveX_of {p : Str} {i : Nat} (h1 : i = 0 ∨ p[i]? = some 47) (h2 : ∀ k, i < k → p[k]? ≠ some 47) : aboveM p i = aboveX p := by
  rw [last_eq h1 h2]
  rfl
theorem byte_at {p : Str} {i : Nat} (hi : i < p.length) : p[i]? = some (p[i]?.getD 0) := by rw [List.getElem?_eq_getElem hi]; rfl
theorem byte_eq {p : Str} {i : Nat} {c : UInt8} (hi : i < p.length) : (((p[i]?.getD 0).toNat : Nat) : Int) = ((c.toNat : Nat) : Int) ↔ p[i]? = some c := by
  rw [byte_at hi]
  simp only [Option.getD_some]
  constructor
  · intro h
    congr 1
    exact UInt8.toNat_inj.1 (by omega)
  · intro h
    injection h with h
    rw [h]
section
variable {n : Nat} {ops : Array Oper} {Q : Post} {rest : List Oper} {e : Env} {w : World} {s : Ro} {rs R : List Asn} {tt : Nat} {pp : String} {af : Array Edge} {g : Option (Nat × Bool)} {d : Nat}
variable {p : Str}
set_option maxRecDepth 100000 in
set_option maxHeartbeats 1000000 in
theorem Above_x (H : Holds s w R) (hp : 1 ≤ p.length) (hl : p.length ≤ 140737488355328) : Calls Try.prog 52 #[.string ⟨p.toArray⟩] w fun e w' => e = .returned (.tuple #[.string ⟨(aboveX p).1.toArray⟩, .string ⟨(aboveX p).2.toArray⟩]) ∧ Holds s w' R := by
  refine enter Try.func52 rfl Try.ntmps52 rfl ?_
  repeat' (first | (refine X.lenL ?_) | (refine X.lv H ?_) | (refine X.lp H ?_) | (refine X.eqL ?_ ?_ <;> intro hc <;> first | (exfalso; first | exact absurd hc (by assumption) | exact absurd (by assumption) hc) | skip) | refine Z H ?_ | (refine Zc ?_ ?_ <;> intro hc <;> first | (exfalso; omega) | skip) | (refine Y ?_; try change C _ _ _ _ _ _) | (refine Zs H ?_; clear H; (try clear w); intro w H) | (refine Zn H ?_; clear H; (try clear w); intro _ w H) | (refine Ze H ?_; clear H; (try clear w); intro gv w H))
  refine C.loopH H [4, 8, 9, 10, 11, 12, 13, 14, 15, 16, 17] [4] rfl (fun m vs => ∃ i : Nat, m = i ∧ i < p.length ∧ vs = [.int .i64 (i : Int)] ∧ ∀ k, i < k → p[k]? ≠ some 47) (p.length - 1) ⟨p.length - 1, rfl, by omega, ?_, fun k hk => by rw [List.getElem?_eq_none (by omega)]; simp⟩ ?_
  · show [Value.int .i64 ((p.length : Int) - 1)] = _
    rw [show ((p.length : Int) - 1) = ((p.length - 1 : Nat) : Int) by omega]
  clear H
  rintro m vs hv w ⟨i, rfl, hi, rfl, hlast⟩ H
  by_cases h0 : m = 0
  · subst h0
    have hA := aboveX_of (.inl rfl) hlast
    repeat' (first | (refine X.lenL ?_) | (refine X.lv H ?_) | (refine X.lp H ?_) | (refine X.eqL ?_ ?_ <;> intro hc <;> first | (exfalso; first | exact absurd hc (by assumption) | exact absurd (by assumption) hc) | skip) | refine Z H ?_ | (refine Zc ?_ ?_ <;> intro hc <;> first | (exfalso; omega) | skip) | (refine Y ?_; try change C _ _ _ _ _ _) | (refine Zs H ?_; clear H; (try clear w); intro w H) | (refine Zn H ?_; clear H; (try clear w); intro _ w H) | (refine Ze H ?_; clear H; (try clear w); intro gv w H))
    refine C.drawn1 [0, 0, 0, 0] [0, 1, 0, 7] (by kernel_rfl) ?_; replace H := H.drew
    repeat' (first | (refine X.from (l := p) 1 ?_ rfl (by omega)) | (refine X.lenL ?_) | (refine X.lv H ?_) | (refine X.lp H ?_) | (refine X.eqL ?_ ?_ <;> intro hc <;> first | (exfalso; first | exact absurd hc (by assumption) | exact absurd (by assumption) hc) | skip) | refine Z H ?_ | (refine Zc ?_ ?_ <;> intro hc <;> first | (exfalso; omega) | skip) | (refine Y ?_; try change C _ _ _ _ _ _) | (refine Zs H ?_; clear H; (try clear w); intro w H) | (refine Zn H ?_; clear H; (try clear w); intro _ w H) | (refine Ze H ?_; clear H; (try clear w); intro gv w H))
    exact ⟨_, resTT rfl, by rw [← hA]; rfl, H⟩
  · by_cases hb : (((p[m]?.getD 0).toNat : Nat) : Int) = 47
    · have hA := aboveX_of (.inr ((byte_eq (c := 47) hi).1 hb)) hlast
      repeat' (first | (refine X.sidx (l := p) m ?_) | (refine X.lenL ?_) | (refine X.lv H ?_) | (refine X.lp H ?_) | (refine X.eqL ?_ ?_ <;> intro hc <;> first | (exfalso; first | exact absurd hc (by assumption) | exact absurd (by assumption) hc) | skip) | refine Z H ?_ | (refine Zc ?_ ?_ <;> intro hc <;> first | (exfalso; omega) | skip) | (refine Y ?_; try change C _ _ _ _ _ _) | (refine Zs H ?_; clear H; (try clear w); intro w H) | (refine Zn H ?_; clear H; (try clear w); intro _ w H) | (refine Ze H ?_; clear H; (try clear w); intro gv w H))
      refine C.drawn1 [0, 0, 0, 0, 0, 0, 0, 0, 0] [0, 0, 3, 0, 0, 16, 56, 7, 255] (by kernel_rfl) ?_; replace H := H.drew
      repeat' (first | (refine X.upto (l := p) m ?_ rfl (by omega)) | (refine X.from (l := p) (m + 1) ?_ rfl (by omega)) | (refine X.lenL ?_) | (refine X.lv H ?_) | (refine X.lp H ?_) | (refine X.eqL ?_ ?_ <;> intro hc <;> first | (exfalso; first | exact absurd hc (by assumption) | exact absurd (by assumption) hc) | skip) | refine Z H ?_ | (refine Zc ?_ ?_ <;> intro hc <;> first | (exfalso; omega) | skip) | (refine Y ?_; try change C _ _ _ _ _ _) | (refine Zs H ?_; clear H; (try clear w); intro w H) | (refine Zn H ?_; clear H; (try clear w); intro _ w H) | (refine Ze H ?_; clear H; (try clear w); intro gv w H))
      exact ⟨_, resTT rfl, by rw [← hA]; unfold aboveM; rw [if_neg h0]; rfl, H⟩
    · have hnb : p[m]? ≠ some 47 := fun h => hb ((byte_eq (c := 47) hi).2 h)
      repeat' (first | (refine X.sidx (l := p) m ?_) | (refine X.lenL ?_) | (refine X.lv H ?_) | (refine X.lp H ?_) | (refine X.eqL ?_ ?_ <;> intro hc <;> first | (exfalso; first | exact absurd hc (by assumption) | exact absurd (by assumption) hc) | skip) | refine Z H ?_ | (refine Zc ?_ ?_ <;> intro hc <;> first | (exfalso; omega) | skip) | (refine Y ?_; try change C _ _ _ _ _ _) | (refine Zs H ?_; clear H; (try clear w); intro w H) | (refine Zn H ?_; clear H; (try clear w); intro _ w H) | (refine Ze H ?_; clear H; (try clear w); intro gv w H))
      refine ⟨by (repeat (first | exact Agr.refl | exact Agr.hav | refine Agr.upd rfl ?_ | refine Agr.in rfl ?_)), m - 1, by omega, ⟨m - 1, rfl, by omega, ?_, fun k hk => ?_⟩, H⟩
      · show [Value.int .i64 ((m : Int) - 1)] = _
        rw [show ((m : Int) - 1) = ((m - 1 : Nat) : Int) by omega]
      · by_cases e : k = m
        · rw [e]; exact hnb
        · exact hlast k (by omega)
theorem alph_all : ∀ n, n < 256 → alph.contains (UInt8.ofNat n) = okc (UInt8.ofNat n) := by decide +kernel
theorem alph_ok (c : UInt8) : alph.contains c = okc c := by
  have := alph_all c.toNat c.toNat_lt
  rwa [UInt8.ofNat_toNat] at this
theorem alph_38 {c : UInt8} : (∃ j, j < 38 ∧ alph[j]? = some c) ↔ okc c = true := by
  rw [← alph_ok, List.contains_iff_mem]
  constructor
  · rintro ⟨j, _, h⟩
    exact List.mem_of_getElem? h
  · intro h
    obtain ⟨j, hj, h⟩ := List.getElem_of_mem h
    exact ⟨j, hj, by rw [List.getElem?_eq_getElem hj, h]⟩
set_option maxRecDepth 100000 in
set_option maxHeartbeats 1000000 in
theorem IsName_x (H : Holds s w R) (hl : p.length ≤ 140737488355328) : Calls Try.prog 70 #[.string ⟨p.toArray⟩] w fun e w' => e = .returned (.bool (isNameM p)) ∧ Holds s w' R := by
  refine enter Try.func70 rfl Try.ntmps70 rfl ?_
  repeat' (first | (refine X.lenL ?_) | (refine X.lv H ?_) | (refine X.lp H ?_) | (refine X.eqL ?_ ?_ <;> intro hc <;> first | (exfalso; first | exact absurd hc (by assumption) | exact absurd (by assumption) hc) | skip) | refine Z H ?_ | (refine Zc ?_ ?_ <;> intro hc <;> first | (exfalso; omega) | skip) | (refine Y ?_; try change C _ _ _ _ _ _) | (refine Zs H ?_; clear H; (try clear w); intro w H) | (refine Zn H ?_; clear H; (try clear w); intro _ w H) | (refine Ze H ?_; clear H; (try clear w); intro gv w H))
  refine C.loopH H [2, 3, 4, 5, 6, 7, 8, 9, 10, 11, 12, 13, 14, 15, 16, 17, 18, 19, 20, 21, 22, 23] [3] rfl (fun m vs => ∃ i : Nat, m = p.length - i ∧ i ≤ p.length ∧ vs = [.int .i64 (i : Int)] ∧ ∀ k c, k < i → p[k]? = some c → okc c = true) p.length ⟨0, rfl, by omega, rfl, fun k c h => absurd h (Nat.not_lt_zero _)⟩ ?_
  clear H
  rintro m vs hv w ⟨i, rfl, hi, rfl, hok⟩ H
  by_cases hlt : i < p.length
  rotate_left
  · have hall : p.all okc = true := List.all_eq_true.2 fun c hc => by
      obtain ⟨k, hk, h⟩ := List.getElem_of_mem hc
      exact hok k c (by omega) (by rw [List.getElem?_eq_getElem hk, h])
    have hM : isNameM p = decide (1 ≤ p.length ∧ p.length ≤ 8) := by unfold isNameM; rw [hall, Bool.and_true]
    by_cases h1 : 0 < p.length
    · by_cases h8 : p.length ≤ 8
      · repeat' (first | (refine X.lenL ?_) | (refine X.lv H ?_) | (refine X.lp H ?_) | (refine X.eqL ?_ ?_ <;> intro hc <;> first | (exfalso; first | exact absurd hc (by assumption) | exact absurd (by assumption) hc) | skip) | refine Z H ?_ | (refine Zc ?_ ?_ <;> intro hc <;> first | (exfalso; omega) | skip) | (refine Y ?_; try change C _ _ _ _ _ _) | (refine Zs H ?_; clear H; (try clear w); intro w H) | (refine Zn H ?_; clear H; (try clear w); intro _ w H) | (refine Ze H ?_; clear H; (try clear w); intro gv w H))
        exact ⟨_, resT rfl, by rw [hM, decide_eq_true ⟨h1, h8⟩]; rfl, H⟩
      · repeat' (first | (refine X.lenL ?_) | (refine X.lv H ?_) | (refine X.lp H ?_) | (refine X.eqL ?_ ?_ <;> intro hc <;> first | (exfalso; first | exact absurd hc (by assumption) | exact absurd (by assumption) hc) | skip) | refine Z H ?_ | (refine Zc ?_ ?_ <;> intro hc <;> first | (exfalso; omega) | skip) | (refine Y ?_; try change C _ _ _ _ _ _) | (refine Zs H ?_; clear H; (try clear w); intro w H) | (refine Zn H ?_; clear H; (try clear w); intro _ w H) | (refine Ze H ?_; clear H; (try clear w); intro gv w H))
        exact ⟨_, resT rfl, by rw [hM, decide_eq_false (fun h => h8 h.2)]; rfl, H⟩
    · repeat' (first | (refine X.lenL ?_) | (refine X.lv H ?_) | (refine X.lp H ?_) | (refine X.eqL ?_ ?_ <;> intro hc <;> first | (exfalso; first | exact absurd hc (by assumption) | exact absurd (by assumption) hc) | skip) | refine Z H ?_ | (refine Zc ?_ ?_ <;> intro hc <;> first | (exfalso; omega) | skip) | (refine Y ?_; try change C _ _ _ _ _ _) | (refine Zs H ?_; clear H; (try clear w); intro w H) | (refine Zn H ?_; clear H; (try clear w); intro _ w H) | (refine Ze H ?_; clear H; (try clear w); intro gv w H))
      exact ⟨_, resT rfl, by rw [hM, decide_eq_false (fun h => h1 h.1)]; rfl, H⟩
  repeat' (first | (refine X.lenL ?_) | (refine X.lv H ?_) | (refine X.lp H ?_) | (refine X.eqL ?_ ?_ <;> intro hc <;> first | (exfalso; first | exact absurd hc (by assumption) | exact absurd (by assumption) hc) | skip) | refine Z H ?_ | (refine Zc ?_ ?_ <;> intro hc <;> first | (exfalso; omega) | skip) | (refine Y ?_; try change C _ _ _ _ _ _) | (refine Zs H ?_; clear H; (try clear w); intro w H) | (refine Zn H ?_; clear H; (try clear w); intro _ w H) | (refine Ze H ?_; clear H; (try clear w); intro gv w H))
  refine C.loopH H [4, 5, 12, 13, 14, 15, 16, 17, 18, 19, 20, 21] [4, 5] rfl (fun m vs => ∃ (k : Nat) (b : Bool), m = 38 - k ∧ k ≤ 38 ∧ vs = [.bool b, .int .i64 (k : Int)] ∧ (b = true ↔ ∃ j, j < k ∧ alph[j]? = p[i]?)) 38 ⟨0, false, rfl, by omega, rfl, ⟨fun h => (by cases h), fun ⟨j, h, _⟩ => absurd h (Nat.not_lt_zero _)⟩⟩ ?_
  clear H
  rintro m vs hv2 w ⟨k, b, rfl, hk, rfl, hb⟩ H
  by_cases hkl : k < 38
  · by_cases hcc : alph[k]? = p[i]?
    · have hcv : (((p[i]?.getD 0).toNat : Nat) : Int) = (((alph[k]?.getD 0).toNat : Nat) : Int) := by rw [hcc]
      repeat' (first | (refine X.lenL ?_) | (refine X.lv H ?_) | (refine X.lp H ?_) | (refine X.eqL ?_ ?_ <;> intro hc <;> first | (exfalso; first | exact absurd hc (by assumption) | exact absurd (by assumption) hc) | skip) | refine Z H ?_ | (refine Zc ?_ ?_ <;> intro hc <;> first | (exfalso; omega) | skip) | (refine Y ?_; try change C _ _ _ _ _ _) | (refine Zs H ?_; clear H; (try clear w); intro w H) | (refine Zn H ?_; clear H; (try clear w); intro _ w H) | (refine Ze H ?_; clear H; (try clear w); intro gv w H))
      refine C.drawn1 [0, 0, 0, 0, 0, 0] [0, 0, 3, 0, 8, 31] (by kernel_rfl) ?_; replace H := H.drew
      repeat' (first | (refine X.sidx (l := p) i ?_) | (refine X.sidx (l := alph) k ?_ (hl := hkl)) | (refine X.lenL ?_) | (refine X.lv H ?_) | (refine X.lp H ?_) | (refine X.eqL ?_ ?_ <;> intro hc <;> first | (exfalso; first | exact absurd hc (by assumption) | exact absurd (by assumption) hc) | skip) | refine Z H ?_ | (refine Zc ?_ ?_ <;> intro hc <;> first | (exfalso; omega) | skip) | (refine Y ?_; try change C _ _ _ _ _ _) | (refine Zs H ?_; clear H; (try clear w); intro w H) | (refine Zn H ?_; clear H; (try clear w); intro _ w H) | (refine Ze H ?_; clear H; (try clear w); intro gv w H))
      exact ⟨by (repeat (first | exact Agr.refl | exact Agr.hav | refine Agr.upd rfl ?_ | refine Agr.in rfl ?_)), 38 - (k + 1), by omega, ⟨k + 1, true, rfl, by omega, rfl, ⟨fun _ => ⟨k, by omega, hcc⟩, fun _ => rfl⟩⟩, H⟩
    · have hcv : ¬ (((p[i]?.getD 0).toNat : Nat) : Int) = (((alph[k]?.getD 0).toNat : Nat) : Int) := by
        rw [byte_eq hlt]
        intro e
        apply hcc
        rw [e]
        exact byte_at (p := alph) hkl
      repeat' (first | (refine X.lenL ?_) | (refine X.lv H ?_) | (refine X.lp H ?_) | (refine X.eqL ?_ ?_ <;> intro hc <;> first | (exfalso; first | exact absurd hc (by assumption) | exact absurd (by assumption) hc) | skip) | refine Z H ?_ | (refine Zc ?_ ?_ <;> intro hc <;> first | (exfalso; omega) | skip) | (refine Y ?_; try change C _ _ _ _ _ _) | (refine Zs H ?_; clear H; (try clear w); intro w H) | (refine Zn H ?_; clear H; (try clear w); intro _ w H) | (refine Ze H ?_; clear H; (try clear w); intro gv w H))
      refine C.drawn1 [0, 0, 0, 0, 0, 0] [0, 0, 3, 0, 8, 31] (by kernel_rfl) ?_; replace H := H.drew
      repeat' (first | (refine X.sidx (l := p) i ?_) | (refine X.sidx (l := alph) k ?_ (hl := hkl)) | (refine X.lenL ?_) | (refine X.lv H ?_) | (refine X.lp H ?_) | (refine X.eqL ?_ ?_ <;> intro hc <;> first | (exfalso; first | exact absurd hc (by assumption) | exact absurd (by assumption) hc) | skip) | refine Z H ?_ | (refine Zc ?_ ?_ <;> intro hc <;> first | (exfalso; omega) | skip) | (refine Y ?_; try change C _ _ _ _ _ _) | (refine Zs H ?_; clear H; (try clear w); intro w H) | (refine Zn H ?_; clear H; (try clear w); intro _ w H) | (refine Ze H ?_; clear H; (try clear w); intro gv w H))
      exact ⟨by (repeat (first | exact Agr.refl | exact Agr.hav | refine Agr.upd rfl ?_ | refine Agr.in rfl ?_)), 38 - (k + 1), by omega, ⟨k + 1, b, rfl, by omega, rfl, hb.trans ⟨fun ⟨j, h1, h2⟩ => ⟨j, by omega, h2⟩, fun ⟨j, h1, h2⟩ => ⟨j, by
        have : j ≠ k := fun e => hcc (by rw [← e]; exact h2)
        omega, h2⟩⟩⟩, H⟩
  · obtain rfl : k = 38 := by omega
    have hbo : b = okc (p[i]?.getD 0) := by
      rw [Bool.eq_iff_iff, hb, ← alph_38]
      conv => lhs; rw [byte_at hlt]
    cases b
    · repeat' (first | (refine X.lenL ?_) | (refine X.lv H ?_) | (refine X.lp H ?_) | (refine X.eqL ?_ ?_ <;> intro hc <;> first | (exfalso; first | exact absurd hc (by assumption) | exact absurd (by assumption) hc) | skip) | refine Z H ?_ | (refine Zc ?_ ?_ <;> intro hc <;> first | (exfalso; omega) | skip) | (refine Y ?_; try change C _ _ _ _ _ _) | (refine Zs H ?_; clear H; (try clear w); intro w H) | (refine Zn H ?_; clear H; (try clear w); intro _ w H) | (refine Ze H ?_; clear H; (try clear w); intro gv w H))
      refine ⟨_, resT rfl, ?_, H⟩
      have : isNameM p = false := by
        unfold isNameM
        have h2 : p.all okc = false := by
          rw [List.all_eq_false]
          exact ⟨_, List.mem_of_getElem? (byte_at hlt), by rw [← hbo]; decide⟩
        rw [h2, Bool.and_false]
      rw [this]; rfl
    · repeat' (first | (refine X.lenL ?_) | (refine X.lv H ?_) | (refine X.lp H ?_) | (refine X.eqL ?_ ?_ <;> intro hc <;> first | (exfalso; first | exact absurd hc (by assumption) | exact absurd (by assumption) hc) | skip) | refine Z H ?_ | (refine Zc ?_ ?_ <;> intro hc <;> first | (exfalso; omega) | skip) | (refine Y ?_; try change C _ _ _ _ _ _) | (refine Zs H ?_; clear H; (try clear w); intro w H) | (refine Zn H ?_; clear H; (try clear w); intro _ w H) | (refine Ze H ?_; clear H; (try clear w); intro gv w H))
      refine ⟨by (repeat (first | exact Agr.refl | exact Agr.hav | refine Agr.upd rfl ?_ | refine Agr.in rfl ?_)), p.length - (i + 1), by omega, ⟨i + 1, rfl, by omega, rfl, fun k c hk hc => ?_⟩, H⟩
      by_cases e : k = i
      · rw [e, byte_at hlt] at hc
        injection hc with hc
        rw [← hc, ← hbo]
      · exact hok k c (by omega) hc
theorem above_lt {p : Str} (h : lastI p < p.length) (h2 : 2 ≤ p.length) : (aboveX p).1.length < p.length := above_fst_lt h h2
theorem lastI_lt {p : Str} (h : 1 ≤ p.length) : lastI p < p.length := by
  unfold lastI
  cases hp : lastM p with
  | none => exact h
  | some j => exact (List.getElem?_eq_some_iff.1 (lastM_spec hp).1).1
set_option maxRecDepth 100000 in
set_option maxHeartbeats 1000000 in
theorem IsPath_nx : ∀ (n : Nat) (p : Str) {w : World}, Holds s w R → p.length ≤ n → p.length ≤ 140737488355328 → Calls Try.prog 49 #[.string ⟨p.toArray⟩] w fun e w' => e = .returned (.bool (isPathM p)) ∧ Holds s w' R := by
  intro n
  induction n with
  | zero =>
    intro p w H hn hl
    obtain rfl : p = [] := List.eq_nil_of_length_eq_zero (by omega)
    have h47 : ([] : Str) ≠ [47] := by decide
    have hl0 : ([] : Str).length = 0 := rfl
    refine enter Try.func49 rfl Try.ntmps49 rfl ?_
    repeat' (first | (refine X.eqL (a := []) (b := [47]) ?_ ?_ <;> intro hc <;> first | (exfalso; exact absurd hc h47) | skip) | (refine X.lenL (l := []) ?_) | (refine X.lenL ?_) | (refine X.lv H ?_) | (refine X.lp H ?_) | (refine X.eqL ?_ ?_ <;> intro hc <;> first | (exfalso; first | exact absurd hc (by assumption) | exact absurd (by assumption) hc) | skip) | refine Z H ?_ | (refine Zc ?_ ?_ <;> intro hc <;> first | (exfalso; omega) | skip) | (refine Y ?_; try change C _ _ _ _ _ _) | (refine Zs H ?_; clear H; (try clear w); intro w H) | (refine Zn H ?_; clear H; (try clear w); intro _ w H) | (refine Ze H ?_; clear H; (try clear w); intro gv w H))
    exact ⟨_, resT rfl, rfl, H⟩
  | succ n ih =>
    intro p w H hn hl
    refine enter Try.func49 rfl Try.ntmps49 rfl ?_
    by_cases hroot : p = [47]
    · repeat' (first | (refine X.eqL (a := p) (b := [47]) ?_ ?_ <;> intro hc <;> first | (exfalso; exact absurd hroot hc) | skip) | (refine X.lenL ?_) | (refine X.lv H ?_) | (refine X.lp H ?_) | (refine X.eqL ?_ ?_ <;> intro hc <;> first | (exfalso; first | exact absurd hc (by assumption) | exact absurd (by assumption) hc) | skip) | refine Z H ?_ | (refine Zc ?_ ?_ <;> intro hc <;> first | (exfalso; omega) | skip) | (refine Y ?_; try change C _ _ _ _ _ _) | (refine Zs H ?_; clear H; (try clear w); intro w H) | (refine Zn H ?_; clear H; (try clear w); intro _ w H) | (refine Ze H ?_; clear H; (try clear w); intro gv w H))
      exact ⟨_, resT rfl, by rw [hroot]; rfl, H⟩
    have hst := isPath_step hroot
    have hno : ∀ {P : Prop}, (isPathM p = true ↔ P) → ¬ P → isPathM p = false := fun h1 h2 => by
      rw [Bool.eq_false_iff]; exact fun h => h2 (h1.1 h)
    by_cases hlen : p.length < 2
    · repeat' (first | (refine X.eqL (a := p) (b := [47]) ?_ ?_ <;> intro hc <;> first | (exfalso; exact absurd hc hroot) | skip) | (refine X.lenL ?_) | (refine X.lv H ?_) | (refine X.lp H ?_) | (refine X.eqL ?_ ?_ <;> intro hc <;> first | (exfalso; first | exact absurd hc (by assumption) | exact absurd (by assumption) hc) | skip) | refine Z H ?_ | (refine Zc ?_ ?_ <;> intro hc <;> first | (exfalso; omega) | skip) | (refine Y ?_; try change C _ _ _ _ _ _) | (refine Zs H ?_; clear H; (try clear w); intro w H) | (refine Zn H ?_; clear H; (try clear w); intro _ w H) | (refine Ze H ?_; clear H; (try clear w); intro gv w H))
      exact ⟨_, resT rfl, by rw [hno hst (fun h => by omega)]; rfl, H⟩
    by_cases h72 : 72 < p.length
    · repeat' (first | (refine X.eqL (a := p) (b := [47]) ?_ ?_ <;> intro hc <;> first | (exfalso; exact absurd hc hroot) | skip) | (refine X.lenL ?_) | (refine X.lv H ?_) | (refine X.lp H ?_) | (refine X.eqL ?_ ?_ <;> intro hc <;> first | (exfalso; first | exact absurd hc (by assumption) | exact absurd (by assumption) hc) | skip) | refine Z H ?_ | (refine Zc ?_ ?_ <;> intro hc <;> first | (exfalso; omega) | skip) | (refine Y ?_; try change C _ _ _ _ _ _) | (refine Zs H ?_; clear H; (try clear w); intro w H) | (refine Zn H ?_; clear H; (try clear w); intro _ w H) | (refine Ze H ?_; clear H; (try clear w); intro gv w H))
      exact ⟨_, resT rfl, by rw [hno hst (fun h => by omega)]; rfl, H⟩
    by_cases h47 : (((p[0]?.getD 0).toNat : Nat) : Int) = 47
    rotate_left
    · repeat' (first | (refine X.eqL (a := p) (b := [47]) ?_ ?_ <;> intro hc <;> first | (exfalso; exact absurd hc hroot) | skip) | (refine X.sidx (l := p) 0 ?_) | (refine X.lenL ?_) | (refine X.lv H ?_) | (refine X.lp H ?_) | (refine X.eqL ?_ ?_ <;> intro hc <;> first | (exfalso; first | exact absurd hc (by assumption) | exact absurd (by assumption) hc) | skip) | refine Z H ?_ | (refine Zc ?_ ?_ <;> intro hc <;> first | (exfalso; omega) | skip) | (refine Y ?_; try change C _ _ _ _ _ _) | (refine Zs H ?_; clear H; (try clear w); intro w H) | (refine Zn H ?_; clear H; (try clear w); intro _ w H) | (refine Ze H ?_; clear H; (try clear w); intro gv w H))
      exact ⟨_, resT rfl, by rw [hno hst (fun h => h47 ((byte_eq (c := 47) (by omega)).2 h.1.2.2))]; rfl, H⟩
    have hsl : p[0]? = some 47 := (byte_eq (c := 47) (by omega)).1 h47
    have hst' : isPathM p = true ↔ ¬ ((aboveX p).1 = [47] ∧ p.length ≠ 1 + (aboveX p).2.length) ∧ isNameM (aboveX p).2 = true ∧ isPathM (aboveX p).1 = true := hst.trans ⟨fun h => h.2, fun h => ⟨⟨by omega, by omega, hsl⟩, h⟩⟩
    clear hst
    repeat' (first | (refine X.eqL (a := p) (b := [47]) ?_ ?_ <;> intro hc <;> first | (exfalso; exact absurd hc hroot) | skip) | (refine X.sidx (l := p) 0 ?_) | (refine X.lenL ?_) | (refine X.lv H ?_) | (refine X.lp H ?_) | (refine X.eqL ?_ ?_ <;> intro hc <;> first | (exfalso; first | exact absurd hc (by assumption) | exact absurd (by assumption) hc) | skip) | refine Z H ?_ | (refine Zc ?_ ?_ <;> intro hc <;> first | (exfalso; omega) | skip) | (refine Y ?_; try change C _ _ _ _ _ _) | (refine Zs H ?_; clear H; (try clear w); intro w H) | (refine Zn H ?_; clear H; (try clear w); intro _ w H) | (refine Ze H ?_; clear H; (try clear w); intro gv w H))
    (refine X.call (Above_x (p := p) H (by omega) hl) ?_; (try clear H); rintro _ w ⟨rfl, H⟩; refine ⟨_, rfl, ?_⟩)
    have hlt := above_lt (lastI_lt (p := p) (by omega)) (by omega)
    have hle : (aboveX p).2.length ≤ p.length := above_snd_le (p := p) (i := lastI p)
    generalize (aboveX p).1 = ab at *
    generalize (aboveX p).2 = nm at *
    have hfin : ¬ (ab = [47] ∧ p.length ≠ 1 + nm.length) → isPathM p = (isNameM nm && isPathM ab) := fun h => by
      rw [Bool.eq_iff_iff, hst', Bool.and_eq_true]
      exact ⟨fun h => h.2, fun h' => ⟨h, h'⟩⟩
    by_cases hab : ab = [47]
    · by_cases hpl : p.length = 1 + nm.length
      · have hf := hfin (fun h => h.2 hpl)
        repeat' (first | (refine X.eqL (a := ab) (b := [47]) ?_ ?_ <;> intro hc <;> first | (exfalso; exact absurd hab hc) | skip) | (refine X.lenL ?_) | (refine X.lv H ?_) | (refine X.lp H ?_) | (refine X.eqL ?_ ?_ <;> intro hc <;> first | (exfalso; first | exact absurd hc (by assumption) | exact absurd (by assumption) hc) | skip) | refine Z H ?_ | (refine Zc ?_ ?_ <;> intro hc <;> first | (exfalso; omega) | skip) | (refine Y ?_; try change C _ _ _ _ _ _) | (refine Zs H ?_; clear H; (try clear w); intro w H) | (refine Zn H ?_; clear H; (try clear w); intro _ w H) | (refine Ze H ?_; clear H; (try clear w); intro gv w H))
        (refine X.call (IsName_x (p := nm) H (by omega)) ?_; (try clear H); rintro _ w ⟨rfl, H⟩; refine ⟨_, rfl, ?_⟩)
        generalize isNameM nm = b at *
        cases b
        · repeat' (first | (refine X.lenL ?_) | (refine X.lv H ?_) | (refine X.lp H ?_) | (refine X.eqL ?_ ?_ <;> intro hc <;> first | (exfalso; first | exact absurd hc (by assumption) | exact absurd (by assumption) hc) | skip) | refine Z H ?_ | (refine Zc ?_ ?_ <;> intro hc <;> first | (exfalso; omega) | skip) | (refine Y ?_; try change C _ _ _ _ _ _) | (refine Zs H ?_; clear H; (try clear w); intro w H) | (refine Zn H ?_; clear H; (try clear w); intro _ w H) | (refine Ze H ?_; clear H; (try clear w); intro gv w H))
          exact ⟨_, resT rfl, by rw [hf]; rfl, H⟩
        · repeat' (first | (refine X.lenL ?_) | (refine X.lv H ?_) | (refine X.lp H ?_) | (refine X.eqL ?_ ?_ <;> intro hc <;> first | (exfalso; first | exact absurd hc (by assumption) | exact absurd (by assumption) hc) | skip) | refine Z H ?_ | (refine Zc ?_ ?_ <;> intro hc <;> first | (exfalso; omega) | skip) | (refine Y ?_; try change C _ _ _ _ _ _) | (refine Zs H ?_; clear H; (try clear w); intro w H) | (refine Zn H ?_; clear H; (try clear w); intro _ w H) | (refine Ze H ?_; clear H; (try clear w); intro gv w H))
          (refine X.call (ih ab H (by omega) (by omega)) ?_; (try clear H); rintro _ w ⟨rfl, H⟩; refine ⟨_, rfl, ?_⟩)
          repeat' (first | (refine X.lenL ?_) | (refine X.lv H ?_) | (refine X.lp H ?_) | (refine X.eqL ?_ ?_ <;> intro hc <;> first | (exfalso; first | exact absurd hc (by assumption) | exact absurd (by assumption) hc) | skip) | refine Z H ?_ | (refine Zc ?_ ?_ <;> intro hc <;> first | (exfalso; omega) | skip) | (refine Y ?_; try change C _ _ _ _ _ _) | (refine Zs H ?_; clear H; (try clear w); intro w H) | (refine Zn H ?_; clear H; (try clear w); intro _ w H) | (refine Ze H ?_; clear H; (try clear w); intro gv w H))
          exact ⟨_, resT rfl, by rw [hf]; rfl, H⟩
      · repeat' (first | (refine X.eqL (a := ab) (b := [47]) ?_ ?_ <;> intro hc <;> first | (exfalso; exact absurd hab hc) | skip) | (refine X.lenL ?_) | (refine X.lv H ?_) | (refine X.lp H ?_) | (refine X.eqL ?_ ?_ <;> intro hc <;> first | (exfalso; first | exact absurd hc (by assumption) | exact absurd (by assumption) hc) | skip) | refine Z H ?_ | (refine Zc ?_ ?_ <;> intro hc <;> first | (exfalso; omega) | skip) | (refine Y ?_; try change C _ _ _ _ _ _) | (refine Zs H ?_; clear H; (try clear w); intro w H) | (refine Zn H ?_; clear H; (try clear w); intro _ w H) | (refine Ze H ?_; clear H; (try clear w); intro gv w H))
        exact ⟨_, resT rfl, by rw [hno hst' (fun h => h.1 ⟨hab, hpl⟩)]; rfl, H⟩
    · have hf := hfin (fun h => hab h.1)
      repeat' (first | (refine X.eqL (a := ab) (b := [47]) ?_ ?_ <;> intro hc <;> first | (exfalso; exact absurd hc hab) | skip) | (refine X.lenL ?_) | (refine X.lv H ?_) | (refine X.lp H ?_) | (refine X.eqL ?_ ?_ <;> intro hc <;> first | (exfalso; first | exact absurd hc (by assumption) | exact absurd (by assumption) hc) | skip) | refine Z H ?_ | (refine Zc ?_ ?_ <;> intro hc <;> first | (exfalso; omega) | skip) | (refine Y ?_; try change C _ _ _ _ _ _) | (refine Zs H ?_; clear H; (try clear w); intro w H) | (refine Zn H ?_; clear H; (try clear w); intro _ w H) | (refine Ze H ?_; clear H; (try clear w); intro gv w H))
      (refine X.call (IsName_x (p := nm) H (by omega)) ?_; (try clear H); rintro _ w ⟨rfl, H⟩; refine ⟨_, rfl, ?_⟩)
      generalize isNameM nm = b at *
      cases b
      · repeat' (first | (refine X.lenL ?_) | (refine X.lv H ?_) | (refine X.lp H ?_) | (refine X.eqL ?_ ?_ <;> intro hc <;> first | (exfalso; first | exact absurd hc (by assumption) | exact absurd (by assumption) hc) | skip) | refine Z H ?_ | (refine Zc ?_ ?_ <;> intro hc <;> first | (exfalso; omega) | skip) | (refine Y ?_; try change C _ _ _ _ _ _) | (refine Zs H ?_; clear H; (try clear w); intro w H) | (refine Zn H ?_; clear H; (try clear w); intro _ w H) | (refine Ze H ?_; clear H; (try clear w); intro gv w H))
        exact ⟨_, resT rfl, by rw [hf]; rfl, H⟩
      · repeat' (first | (refine X.lenL ?_) | (refine X.lv H ?_) | (refine X.lp H ?_) | (refine X.eqL ?_ ?_ <;> intro hc <;> first | (exfalso; first | exact absurd hc (by assumption) | exact absurd (by assumption) hc) | skip) | refine Z H ?_ | (refine Zc ?_ ?_ <;> intro hc <;> first | (exfalso; omega) | skip) | (refine Y ?_; try change C _ _ _ _ _ _) | (refine Zs H ?_; clear H; (try clear w); intro w H) | (refine Zn H ?_; clear H; (try clear w); intro _ w H) | (refine Ze H ?_; clear H; (try clear w); intro gv w H))
        (refine X.call (ih ab H (by omega) (by omega)) ?_; (try clear H); rintro _ w ⟨rfl, H⟩; refine ⟨_, rfl, ?_⟩)
        repeat' (first | (refine X.lenL ?_) | (refine X.lv H ?_) | (refine X.lp H ?_) | (refine X.eqL ?_ ?_ <;> intro hc <;> first | (exfalso; first | exact absurd hc (by assumption) | exact absurd (by assumption) hc) | skip) | refine Z H ?_ | (refine Zc ?_ ?_ <;> intro hc <;> first | (exfalso; omega) | skip) | (refine Y ?_; try change C _ _ _ _ _ _) | (refine Zs H ?_; clear H; (try clear w); intro w H) | (refine Zn H ?_; clear H; (try clear w); intro _ w H) | (refine Ze H ?_; clear H; (try clear w); intro gv w H))
        exact ⟨_, resT rfl, by rw [hf]; rfl, H⟩
theorem IsPath_x {p : Str} (H : Holds s w R) (hl : p.length ≤ 140737488355328) : Calls Try.prog 49 #[.string ⟨p.toArray⟩] w fun e w' => e = .returned (.bool (isPathM p)) ∧ Holds s w' R := IsPath_nx p.length p H (Nat.le_refl _) hl
end
end Go.Proofs.Ytlchnabnhimlcaa

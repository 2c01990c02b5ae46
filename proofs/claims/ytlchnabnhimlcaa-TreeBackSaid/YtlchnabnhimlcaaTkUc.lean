/- Trees, plain: Write, whole: what is read behind it, how many blocks there are. Trees, plain: a node's path is its own alone; what is done elsewhere leaves it. Trees, plain: what is done to one path leaves what is read by another. nacelleref17, walked weakly: paths. nacelleref17, walked weakly: IsPath; its tree in memory; at. -/
import Derived.Test.YtlchnabnhimlcaaTkTk
set_option linter.unusedSimpArgs false
set_option linter.unusedVariables false
namespace Go.Proofs.Ytlchnabnhimlcaa
open Go Go.RowKit Go.Own
theorem sum_set : ∀ (l : List Nat) (i x : Nat) (h : i < l.length), (l.set i x).sum + l[i] = l.sum + x
  | a :: l, 0, x, _ => by simp only [List.set_cons_zero, List.sum_cons, List.getElem_cons_zero]; omega
  | a :: l, i + 1, x, h => by
    have := sum_set l i x (by simpa using h)
    simp only [List.set_cons_succ, List.sum_cons, List.getElem_cons_succ]
    omega
theorem used_set {t : TR} (ht : t.Ok) {f : Nat} (hf : f < 8) (x : Nd) : usedN (t.set f x) + (t.n f).nblk = usedN t + x.nblk := by
  have := sum_set (t.nd.map Nd.nblk) f x.nblk (by rw [List.length_map, ht.n8]; exact hf)
  rw [← List.map_set, List.getElem_map, ← TR.n_get ht hf] at this
  exact this
theorem pokes_nd {f : Nat} : ∀ {l : Str} {u : TR} {p : Nat}, (pokesM u f p l).nd = u.nd
  | [], u, p => rfl
  | c :: l, u, p => by rw [pokesM, pokes_nd]; rfl
theorem growJ_used {t v : TR} (ht : t.Ok) {f : Nat} (hf : f < 8) {size quota : Int} {j : Nat} (hj : j < 2) (h : growJ t f size quota j = some v) : v.Ok ∧ ((usedN v : Int) ≤ usedN t ∨ (usedN v : Int) ≤ quota) := by
  unfold growJ at h
  split at h
  · cases h; exact ⟨ht, .inl (Int.le_refl _)⟩
  · rename_i hc
    split at h
    · cases h
    · rename_i hc2
      cases h
      refine ⟨TR.ok_set ht _ _, .inr ?_⟩
      have h1 := used_set ht hf ((t.n f).setBlk j (unusedM t))
      have h2 : ((t.n f).setBlk j (unusedM t)).nblk ≤ (t.n f).nblk + 1 := by
        unfold Nd.setBlk Nd.nblk
        split <;> dsimp only <;> split <;> split <;> omega
      omega
theorem growM_used {t u : TR} (ht : t.Ok) {f : Nat} (hf : f < 8) {size quota : Int} (h : growM t f size quota = some u) : (usedN u : Int) ≤ usedN t ∨ (usedN u : Int) ≤ quota := by
  rw [growM_eq] at h
  unfold growTo growTo growTo at h
  simp only [Option.bind_some] at h
  cases h0 : growJ t f size quota 0 with
  | none => rw [h0] at h; cases h
  | some a =>
    rw [h0, Option.bind_some] at h
    cases h1 : growJ a f size quota 1 with
    | none => rw [h1] at h; cases h
    | some b =>
      rw [h1, Option.map_some] at h
      cases h
      obtain ⟨a1, a2⟩ := growJ_used ht hf (by omega) h0
      obtain ⟨b1, b2⟩ := growJ_used a1 hf (by omega) h1
      have h3 := used_set b1 hf ⟨(b.n f).kind, (b.n f).parent, (b.n f).name, size, (b.n f).b0, (b.n f).b1⟩
      have h4 : (⟨(b.n f).kind, (b.n f).parent, (b.n f).name, size, (b.n f).b0, (b.n f).b1⟩ : Nd).nblk = (b.n f).nblk := rfl
      change (usedN (b.set f ⟨(b.n f).kind, (b.n f).parent, (b.n f).name, size, (b.n f).b0, (b.n f).b1⟩) : Int) ≤ _ ∨ _
      omega
/-- what Write has done, when it answers OK -/
structure Written (t w : TR) (p : Str) (o : Nat) (l : Str) (quota : Int) : Prop where
  chk : checkM w = true
  rd : (readM w p 0 80).2 = 0
  used : (usedN w : Int) ≤ usedN t ∨ (usedN w : Int) ≤ quota
  len : (readM w p 0 80).1.length = if l.length = 0 ∨ o + l.length < (readM t p 0 80).1.length then (readM t p 0 80).1.length else o + l.length
  byte : ∀ i : Nat, i < (readM w p 0 80).1.length → (readM w p 0 80).1[i]? = some (if o ≤ i ∧ i - o < l.length then l[i - o]?.getD 0 else if i < (readM t p 0 80).1.length then (readM t p 0 80).1[i]?.getD 0 else 0)
theorem file_size {t : TR} (h : WF t) {f : Nat} (hf : f < 8) (hk : (t.n f).kind = 2) : 0 ≤ (t.n f).size ∧ (t.n f).size ≤ 80 := by
  have := ((h.nd f (file_pos h.root hk) hf).resolve_left (kind_nz (by rw [hk]; decide))).sh
  unfold Shaped at this
  omega
theorem written {t : TR} (ht : t.Ok) {p : Str} {a : Int} {l : Str} {qu : Int} (h : (writeM t p a l qu).2 = 0) : ∃ o : Nat, a = o ∧ o ≤ 80 ∧ Written t (writeM t p a l qu).1 p o l qu := by
  have hcw := check_write ht h
  obtain ⟨hc, f, o, hfd, hf, hk, rfl, ho, hcase⟩ := write_ok h
  have hw := (check_wf ht).1 hc
  have hf1 := file_pos hw.root hk
  have hsz := file_size hw hf hk
  have hrt := read_all hc hfd hk hsz.2
  refine ⟨o, rfl, by omega, ?_⟩
  rcases hcase with ⟨hl, e⟩ | ⟨hl, u, hg, e⟩
  · rw [e]
    refine ⟨hc, by rw [hrt], .inl (Int.le_refl _), by rw [hrt, if_pos (.inl hl)], fun i hi => ?_⟩
    rw [hrt] at hi ⊢
    dsimp only at hi ⊢
    rw [if_neg (by omega), if_pos hi, List.getElem?_eq_getElem hi]
    rfl
  · rw [e] at hcw ⊢
    have hg' := growM_facts ht hf (bksJ_iff.2 (hw.bks f hf)) hg
    have hmo : most (t.n f).size ((o : Int) + l.length) ≤ 80 := by unfold most; split <;> omega
    obtain ⟨x0, x1, G⟩ := grown_of ht hf hg
    have hsame : SameP t (pokesM u f o l) := fun j => by
      rw [pokes_n, G.eq, TR.n_set ht hf]
      split
      · rename_i e'; subst e'; exact ⟨rfl, rfl, rfl⟩
      · exact ⟨rfl, rfl, rfl⟩
    have hfw : findM (pokesM u f o l) p = ((f : Int), 0) := by rw [find_same hsame, hfd]
    have hkw : ((pokesM u f o l).n f).kind = 2 := by rw [(hsame f).2.2, hk]
    have hsw : ((pokesM u f o l).n f).size = most (t.n f).size ((o : Int) + l.length) := by rw [pokes_n]; exact hg'.2.2.1
    have hrw := read_all hcw hfw hkw (by rw [hsw]; exact hmo)
    have hlw : (bytesOf (pokesM u f o l) f).length = (most (t.n f).size ((o : Int) + l.length)).toNat := by rw [bytesOf_len, hsw]
    have hlt : (bytesOf t f).length = (t.n f).size.toNat := bytesOf_len
    refine ⟨hcw, by rw [hrw], ?_, ?_, fun i hi => ?_⟩
    · have := growM_used ht hf hg
      unfold usedN at this ⊢
      rw [pokes_nd]
      exact this
    · rw [hrw, hrt]
      dsimp only
      rw [hlw, hlt]
      unfold most
      split <;> split <;> omega
    · rw [hrw] at hi ⊢
      rw [hrt]
      dsimp only at hi ⊢
      rw [hlw] at hi
      rw [bytesOf_get (by rw [hsw]; exact hi), write_peek hw hf1 hf hk hg (by unfold most; split <;> omega) hmo (by unfold most; split <;> omega) (by omega), hlt]
      by_cases h1 : o ≤ i ∧ i < o + l.length
      · rw [if_pos h1, if_pos (by omega)]
      · have e1 : ¬ (o ≤ i ∧ i - o < l.length) := by omega
        rw [if_neg h1, if_neg e1]
        by_cases h2 : (i : Int) < (t.n f).size
        · rw [if_pos h2, if_pos (by omega), bytesOf_get (by omega)]
          rfl
        · rw [if_neg h2, if_neg (by omega)]
end Go.Proofs.Ytlchnabnhimlcaa
set_option linter.unusedSimpArgs false
set_option linter.unusedVariables false
namespace Go.Proofs.Ytlchnabnhimlcaa
open Go Go.RowKit Go.Own
/-- does a path lie within another one's? -/
def underP (p d : Str) : Prop := d.length < p.length ∧ p.take d.length = d ∧ p[d.length]? = some 47
end Go.Proofs.Ytlchnabnhimlcaa
set_option linter.unusedSimpArgs false
set_option linter.unusedVariables false
namespace Go.Proofs.Ytlchnabnhimlcaa
open Go Go.RowKit Go.Own
section
variable {t : TR} (ht : t.Ok) {p q r : Str} (hr : (readM t p 0 80).2 = 0)
include ht hr
end
end Go.Proofs.Ytlchnabnhimlcaa
set_option linter.unusedSimpArgs false
set_option linter.unusedVariables false
namespace Go.Proofs.Ytlchnabnhimlcaa
open Go Go.RowKit Go.Own
/-- a path without its last name, and that -/
def aboveM (s : Str) (i : Nat) : Str × Str := if i = 0 then ([47], s.drop 1) else (s.take i, s.drop (i + 1))
section
variable {n : Nat} {ops : Array Oper} {Q : Post} {rest : List Oper} {e : Env} {w : World} {s : Ro} {rs R : List Asn} {tt : Nat} {pp : String} {af : Array Edge} {g : Option (Nat × Bool)} {d : Nat}
variable {p : Str}
set_option maxRecDepth 100000 in
set_option maxHeartbeats 1000000 in
theorem Above_w (H : Holds s w R) (hp : 1 ≤ p.length) (hl : p.length ≤ 140737488355328) : Calls Try.prog 52 #[.string ⟨p.toArray⟩] w fun e w' => ∃ i : Nat, i < p.length ∧ e = .returned (.tuple #[.string ⟨(aboveM p i).1.toArray⟩, .string ⟨(aboveM p i).2.toArray⟩]) ∧ Holds s w' R := by
  refine enter Try.func52 rfl Try.ntmps52 rfl ?_
  repeat' (first | (refine X.lenL ?_) | (refine X.lv H ?_) | (refine X.lp H ?_) | (refine X.eqL ?_ ?_ <;> intro hc <;> first | (exfalso; first | exact absurd hc (by assumption) | exact absurd (by assumption) hc) | skip) | refine Z H ?_ | (refine Zc ?_ ?_ <;> intro hc <;> first | (exfalso; omega) | skip) | (refine Y ?_; try change C _ _ _ _ _ _) | (refine Zs H ?_; clear H; (try clear w); intro w H) | (refine Zn H ?_; clear H; (try clear w); intro _ w H) | (refine Ze H ?_; clear H; (try clear w); intro gv w H))
  refine C.loopH H [4, 8, 9, 10, 11, 12, 13, 14, 15, 16, 17] [4] rfl (fun m vs => ∃ i : Nat, m = i ∧ i < p.length ∧ vs = [.int .i64 (i : Int)]) (p.length - 1) ⟨p.length - 1, rfl, by omega, ?_⟩ ?_
  · show [Value.int .i64 ((p.length : Int) - 1)] = _
    rw [show ((p.length : Int) - 1) = ((p.length - 1 : Nat) : Int) by omega]
  clear H
  rintro m vs hv w ⟨i, rfl, hi, rfl⟩ H
  by_cases h0 : m = 0
  · subst h0
    repeat' (first | (refine X.lenL ?_) | (refine X.lv H ?_) | (refine X.lp H ?_) | (refine X.eqL ?_ ?_ <;> intro hc <;> first | (exfalso; first | exact absurd hc (by assumption) | exact absurd (by assumption) hc) | skip) | refine Z H ?_ | (refine Zc ?_ ?_ <;> intro hc <;> first | (exfalso; omega) | skip) | (refine Y ?_; try change C _ _ _ _ _ _) | (refine Zs H ?_; clear H; (try clear w); intro w H) | (refine Zn H ?_; clear H; (try clear w); intro _ w H) | (refine Ze H ?_; clear H; (try clear w); intro gv w H))
    refine C.drawn1 [0, 0, 0, 0] [0, 1, 0, 7] (by kernel_rfl) ?_; replace H := H.drew
    repeat' (first | (refine X.from (l := p) 1 ?_ rfl (by omega)) | (refine X.lenL ?_) | (refine X.lv H ?_) | (refine X.lp H ?_) | (refine X.eqL ?_ ?_ <;> intro hc <;> first | (exfalso; first | exact absurd hc (by assumption) | exact absurd (by assumption) hc) | skip) | refine Z H ?_ | (refine Zc ?_ ?_ <;> intro hc <;> first | (exfalso; omega) | skip) | (refine Y ?_; try change C _ _ _ _ _ _) | (refine Zs H ?_; clear H; (try clear w); intro w H) | (refine Zn H ?_; clear H; (try clear w); intro _ w H) | (refine Ze H ?_; clear H; (try clear w); intro gv w H))
    exact ⟨_, resTT rfl, 0, hi, rfl, H⟩
  · by_cases hb : (((p[m]?.getD 0).toNat : Nat) : Int) = 47
    · repeat' (first | (refine X.sidx (l := p) m ?_) | (refine X.lenL ?_) | (refine X.lv H ?_) | (refine X.lp H ?_) | (refine X.eqL ?_ ?_ <;> intro hc <;> first | (exfalso; first | exact absurd hc (by assumption) | exact absurd (by assumption) hc) | skip) | refine Z H ?_ | (refine Zc ?_ ?_ <;> intro hc <;> first | (exfalso; omega) | skip) | (refine Y ?_; try change C _ _ _ _ _ _) | (refine Zs H ?_; clear H; (try clear w); intro w H) | (refine Zn H ?_; clear H; (try clear w); intro _ w H) | (refine Ze H ?_; clear H; (try clear w); intro gv w H))
      refine C.drawn1 [0, 0, 0, 0, 0, 0, 0, 0, 0] [0, 0, 3, 0, 0, 16, 56, 7, 255] (by kernel_rfl) ?_; replace H := H.drew
      repeat' (first | (refine X.upto (l := p) m ?_ rfl (by omega)) | (refine X.from (l := p) (m + 1) ?_ rfl (by omega)) | (refine X.lenL ?_) | (refine X.lv H ?_) | (refine X.lp H ?_) | (refine X.eqL ?_ ?_ <;> intro hc <;> first | (exfalso; first | exact absurd hc (by assumption) | exact absurd (by assumption) hc) | skip) | refine Z H ?_ | (refine Zc ?_ ?_ <;> intro hc <;> first | (exfalso; omega) | skip) | (refine Y ?_; try change C _ _ _ _ _ _) | (refine Zs H ?_; clear H; (try clear w); intro w H) | (refine Zn H ?_; clear H; (try clear w); intro _ w H) | (refine Ze H ?_; clear H; (try clear w); intro gv w H))
      exact ⟨_, resTT rfl, m, hi, by unfold aboveM; rw [if_neg h0]; rfl, H⟩
    · repeat' (first | (refine X.sidx (l := p) m ?_) | (refine X.lenL ?_) | (refine X.lv H ?_) | (refine X.lp H ?_) | (refine X.eqL ?_ ?_ <;> intro hc <;> first | (exfalso; first | exact absurd hc (by assumption) | exact absurd (by assumption) hc) | skip) | refine Z H ?_ | (refine Zc ?_ ?_ <;> intro hc <;> first | (exfalso; omega) | skip) | (refine Y ?_; try change C _ _ _ _ _ _) | (refine Zs H ?_; clear H; (try clear w); intro w H) | (refine Zn H ?_; clear H; (try clear w); intro _ w H) | (refine Ze H ?_; clear H; (try clear w); intro gv w H))
      refine ⟨by (repeat (first | exact Agr.refl | exact Agr.hav | refine Agr.upd rfl ?_ | refine Agr.in rfl ?_)), m - 1, by omega, ⟨m - 1, rfl, by omega, ?_⟩, H⟩
      show [Value.int .i64 ((m : Int) - 1)] = _
      rw [show ((m : Int) - 1) = ((m - 1 : Nat) : Int) by omega]
def alph : Str := [97, 98, 99, 100, 101, 102, 103, 104, 105, 106, 107, 108, 109, 110, 111, 112, 113, 114, 115, 116, 117, 118, 119, 120, 121, 122, 48, 49, 50, 51, 52, 53, 54, 55, 56, 57, 46, 95]
set_option maxRecDepth 100000 in
set_option maxHeartbeats 1000000 in
theorem IsName_w (H : Holds s w R) (hl : p.length ≤ 140737488355328) : Calls Try.prog 70 #[.string ⟨p.toArray⟩] w fun e w' => ∃ b : Bool, e = .returned (.bool b) ∧ Holds s w' R := by
  refine enter Try.func70 rfl Try.ntmps70 rfl ?_
  repeat' (first | (refine X.lenL ?_) | (refine X.lv H ?_) | (refine X.lp H ?_) | (refine X.eqL ?_ ?_ <;> intro hc <;> first | (exfalso; first | exact absurd hc (by assumption) | exact absurd (by assumption) hc) | skip) | refine Z H ?_ | (refine Zc ?_ ?_ <;> intro hc <;> first | (exfalso; omega) | skip) | (refine Y ?_; try change C _ _ _ _ _ _) | (refine Zs H ?_; clear H; (try clear w); intro w H) | (refine Zn H ?_; clear H; (try clear w); intro _ w H) | (refine Ze H ?_; clear H; (try clear w); intro gv w H))
  refine C.loopH H [2, 3, 4, 5, 6, 7, 8, 9, 10, 11, 12, 13, 14, 15, 16, 17, 18, 19, 20, 21, 22, 23] [3] rfl (fun m vs => ∃ i : Nat, m = p.length - i ∧ i ≤ p.length ∧ vs = [.int .i64 (i : Int)]) p.length ⟨0, rfl, by omega, rfl⟩ ?_
  clear H
  rintro m vs hv w ⟨i, rfl, hi, rfl⟩ H
  by_cases hlt : i < p.length
  rotate_left
  · repeat' (first | (refine X.lenL ?_) | (refine X.lv H ?_) | (refine X.lp H ?_) | (refine X.eqL ?_ ?_ <;> intro hc <;> first | (exfalso; first | exact absurd hc (by assumption) | exact absurd (by assumption) hc) | skip) | refine Z H ?_ | (refine Zc ?_ ?_ <;> intro hc <;> first | (exfalso; omega) | skip) | (refine Y ?_; try change C _ _ _ _ _ _) | (refine Zs H ?_; clear H; (try clear w); intro w H) | (refine Zn H ?_; clear H; (try clear w); intro _ w H) | (refine Ze H ?_; clear H; (try clear w); intro gv w H))
    all_goals exact ⟨_, resT rfl, _, rfl, H⟩
  repeat' (first | (refine X.lenL ?_) | (refine X.lv H ?_) | (refine X.lp H ?_) | (refine X.eqL ?_ ?_ <;> intro hc <;> first | (exfalso; first | exact absurd hc (by assumption) | exact absurd (by assumption) hc) | skip) | refine Z H ?_ | (refine Zc ?_ ?_ <;> intro hc <;> first | (exfalso; omega) | skip) | (refine Y ?_; try change C _ _ _ _ _ _) | (refine Zs H ?_; clear H; (try clear w); intro w H) | (refine Zn H ?_; clear H; (try clear w); intro _ w H) | (refine Ze H ?_; clear H; (try clear w); intro gv w H))
  refine C.loopH H [4, 5, 12, 13, 14, 15, 16, 17, 18, 19, 20, 21] [4, 5] rfl (fun m vs => ∃ (k : Nat) (b : Bool), m = 38 - k ∧ k ≤ 38 ∧ vs = [.bool b, .int .i64 (k : Int)]) 38 ⟨0, false, rfl, by omega, rfl⟩ ?_
  clear H
  rintro m vs hv2 w ⟨k, b, rfl, hk, rfl⟩ H
  by_cases hkl : k < 38
  · repeat' (first | (refine X.lenL ?_) | (refine X.lv H ?_) | (refine X.lp H ?_) | (refine X.eqL ?_ ?_ <;> intro hc <;> first | (exfalso; first | exact absurd hc (by assumption) | exact absurd (by assumption) hc) | skip) | refine Z H ?_ | (refine Zc ?_ ?_ <;> intro hc <;> first | (exfalso; omega) | skip) | (refine Y ?_; try change C _ _ _ _ _ _) | (refine Zs H ?_; clear H; (try clear w); intro w H) | (refine Zn H ?_; clear H; (try clear w); intro _ w H) | (refine Ze H ?_; clear H; (try clear w); intro gv w H))
    refine C.drawn1 [0, 0, 0, 0, 0, 0] [0, 0, 3, 0, 8, 31] (by kernel_rfl) ?_; replace H := H.drew
    repeat' (first | (refine X.sidx (l := p) i ?_) | (refine X.sidx (l := alph) k ?_ (hl := hkl)) | (refine X.lenL ?_) | (refine X.lv H ?_) | (refine X.lp H ?_) | (refine X.eqL ?_ ?_ <;> intro hc <;> first | (exfalso; first | exact absurd hc (by assumption) | exact absurd (by assumption) hc) | skip) | refine Z H ?_ | (refine Zc ?_ ?_ <;> intro hc <;> first | (exfalso; omega) | skip) | (refine Y ?_; try change C _ _ _ _ _ _) | (refine Zs H ?_; clear H; (try clear w); intro w H) | (refine Zn H ?_; clear H; (try clear w); intro _ w H) | (refine Ze H ?_; clear H; (try clear w); intro gv w H))
    · exact ⟨by (repeat (first | exact Agr.refl | exact Agr.hav | refine Agr.upd rfl ?_ | refine Agr.in rfl ?_)), 38 - (k + 1), by omega, ⟨k + 1, true, rfl, by omega, rfl⟩, H⟩
    · exact ⟨by (repeat (first | exact Agr.refl | exact Agr.hav | refine Agr.upd rfl ?_ | refine Agr.in rfl ?_)), 38 - (k + 1), by omega, ⟨k + 1, b, rfl, by omega, rfl⟩, H⟩
  · cases b
    · repeat' (first | (refine X.lenL ?_) | (refine X.lv H ?_) | (refine X.lp H ?_) | (refine X.eqL ?_ ?_ <;> intro hc <;> first | (exfalso; first | exact absurd hc (by assumption) | exact absurd (by assumption) hc) | skip) | refine Z H ?_ | (refine Zc ?_ ?_ <;> intro hc <;> first | (exfalso; omega) | skip) | (refine Y ?_; try change C _ _ _ _ _ _) | (refine Zs H ?_; clear H; (try clear w); intro w H) | (refine Zn H ?_; clear H; (try clear w); intro _ w H) | (refine Ze H ?_; clear H; (try clear w); intro gv w H))
      exact ⟨_, resT rfl, _, rfl, H⟩
    · repeat' (first | (refine X.lenL ?_) | (refine X.lv H ?_) | (refine X.lp H ?_) | (refine X.eqL ?_ ?_ <;> intro hc <;> first | (exfalso; first | exact absurd hc (by assumption) | exact absurd (by assumption) hc) | skip) | refine Z H ?_ | (refine Zc ?_ ?_ <;> intro hc <;> first | (exfalso; omega) | skip) | (refine Y ?_; try change C _ _ _ _ _ _) | (refine Zs H ?_; clear H; (try clear w); intro w H) | (refine Zn H ?_; clear H; (try clear w); intro _ w H) | (refine Ze H ?_; clear H; (try clear w); intro gv w H))
      exact ⟨by (repeat (first | exact Agr.refl | exact Agr.hav | refine Agr.upd rfl ?_ | refine Agr.in rfl ?_)), p.length - (i + 1), by omega, ⟨i + 1, rfl, by omega, rfl⟩, H⟩
end
end Go.Proofs.Ytlchnabnhimlcaa
set_option linter.unusedSimpArgs false
set_option linter.unusedVariables false
namespace Go.Proofs.Ytlchnabnhimlcaa
open Go Go.RowKit Go.Own
theorem above_fst_lt {p : Str} {i : Nat} (hi : i < p.length) (h2 : 2 ≤ p.length) : (aboveM p i).1.length < p.length := by
  unfold aboveM
  split
  · show 1 < _; omega
  · simp only [List.length_take]; omega
theorem above_snd_le {p : Str} {i : Nat} : (aboveM p i).2.length ≤ p.length := by
  unfold aboveM
  split <;> simp
theorem above_fst_sl {p : Str} {i : Nat} (h : p[0]? = some 47) : (aboveM p i).1[0]? = some 47 := by
  unfold aboveM
  split
  · rfl
  · rename_i h0
    rw [List.getElem?_take_of_lt (by omega)]
    exact h
section
variable {n : Nat} {ops : Array Oper} {Q : Post} {rest : List Oper} {e : Env} {w : World} {s : Ro} {rs R : List Asn} {tt : Nat} {pp : String} {af : Array Edge} {g : Option (Nat × Bool)} {d : Nat}
set_option maxRecDepth 100000 in
set_option maxHeartbeats 1000000 in
theorem IsPath_n : ∀ (n : Nat) (p : Str) {w : World}, Holds s w R → p.length ≤ n → p.length ≤ 140737488355328 → Calls Try.prog 49 #[.string ⟨p.toArray⟩] w fun e w' => ∃ b : Bool, e = .returned (.bool b) ∧ (b = true → p[0]? = some 47 ∧ p.length ≤ 72) ∧ Holds s w' R := by
  intro n
  induction n with
  | zero =>
    intro p w H hn hl
    obtain rfl : p = [] := List.eq_nil_of_length_eq_zero (by omega)
    have h47 : ([] : Str) ≠ [47] := by decide
    have hl0 : ([] : Str).length = 0 := rfl
    refine enter Try.func49 rfl Try.ntmps49 rfl ?_
    repeat' (first | (refine X.eqL (a := []) (b := [47]) ?_ ?_ <;> intro hc <;> first | (exfalso; exact absurd hc h47) | skip) | (refine X.lenL (l := []) ?_) | (refine X.lenL ?_) | (refine X.lv H ?_) | (refine X.lp H ?_) | (refine X.eqL ?_ ?_ <;> intro hc <;> first | (exfalso; first | exact absurd hc (by assumption) | exact absurd (by assumption) hc) | skip) | refine Z H ?_ | (refine Zc ?_ ?_ <;> intro hc <;> first | (exfalso; omega) | skip) | (refine Y ?_; try change C _ _ _ _ _ _) | (refine Zs H ?_; clear H; (try clear w); intro w H) | (refine Zn H ?_; clear H; (try clear w); intro _ w H) | (refine Ze H ?_; clear H; (try clear w); intro gv w H))
    exact ⟨_, resT rfl, false, rfl, (fun h => by cases h), H⟩
  | succ n ih =>
    intro p w H hn hl
    refine enter Try.func49 rfl Try.ntmps49 rfl ?_
    by_cases hroot : p = [47]
    · repeat' (first | (refine X.eqL (a := p) (b := [47]) ?_ ?_ <;> intro hc <;> first | (exfalso; exact absurd hroot hc) | skip) | (refine X.lenL ?_) | (refine X.lv H ?_) | (refine X.lp H ?_) | (refine X.eqL ?_ ?_ <;> intro hc <;> first | (exfalso; first | exact absurd hc (by assumption) | exact absurd (by assumption) hc) | skip) | refine Z H ?_ | (refine Zc ?_ ?_ <;> intro hc <;> first | (exfalso; omega) | skip) | (refine Y ?_; try change C _ _ _ _ _ _) | (refine Zs H ?_; clear H; (try clear w); intro w H) | (refine Zn H ?_; clear H; (try clear w); intro _ w H) | (refine Ze H ?_; clear H; (try clear w); intro gv w H))
      exact ⟨_, resT rfl, true, rfl, fun _ => by rw [hroot]; exact ⟨rfl, by decide⟩, H⟩
    by_cases hlen : p.length < 2
    · repeat' (first | (refine X.eqL (a := p) (b := [47]) ?_ ?_ <;> intro hc <;> first | (exfalso; exact absurd hc hroot) | skip) | (refine X.lenL ?_) | (refine X.lv H ?_) | (refine X.lp H ?_) | (refine X.eqL ?_ ?_ <;> intro hc <;> first | (exfalso; first | exact absurd hc (by assumption) | exact absurd (by assumption) hc) | skip) | refine Z H ?_ | (refine Zc ?_ ?_ <;> intro hc <;> first | (exfalso; omega) | skip) | (refine Y ?_; try change C _ _ _ _ _ _) | (refine Zs H ?_; clear H; (try clear w); intro w H) | (refine Zn H ?_; clear H; (try clear w); intro _ w H) | (refine Ze H ?_; clear H; (try clear w); intro gv w H))
      exact ⟨_, resT rfl, false, rfl, (fun h => by cases h), H⟩
    by_cases h72 : 72 < p.length
    · repeat' (first | (refine X.eqL (a := p) (b := [47]) ?_ ?_ <;> intro hc <;> first | (exfalso; exact absurd hc hroot) | skip) | (refine X.lenL ?_) | (refine X.lv H ?_) | (refine X.lp H ?_) | (refine X.eqL ?_ ?_ <;> intro hc <;> first | (exfalso; first | exact absurd hc (by assumption) | exact absurd (by assumption) hc) | skip) | refine Z H ?_ | (refine Zc ?_ ?_ <;> intro hc <;> first | (exfalso; omega) | skip) | (refine Y ?_; try change C _ _ _ _ _ _) | (refine Zs H ?_; clear H; (try clear w); intro w H) | (refine Zn H ?_; clear H; (try clear w); intro _ w H) | (refine Ze H ?_; clear H; (try clear w); intro gv w H))
      exact ⟨_, resT rfl, false, rfl, (fun h => by cases h), H⟩
    by_cases h47 : (((p[0]?.getD 0).toNat : Nat) : Int) = 47
    rotate_left
    · repeat' (first | (refine X.eqL (a := p) (b := [47]) ?_ ?_ <;> intro hc <;> first | (exfalso; exact absurd hc hroot) | skip) | (refine X.sidx (l := p) 0 ?_) | (refine X.lenL ?_) | (refine X.lv H ?_) | (refine X.lp H ?_) | (refine X.eqL ?_ ?_ <;> intro hc <;> first | (exfalso; first | exact absurd hc (by assumption) | exact absurd (by assumption) hc) | skip) | refine Z H ?_ | (refine Zc ?_ ?_ <;> intro hc <;> first | (exfalso; omega) | skip) | (refine Y ?_; try change C _ _ _ _ _ _) | (refine Zs H ?_; clear H; (try clear w); intro w H) | (refine Zn H ?_; clear H; (try clear w); intro _ w H) | (refine Ze H ?_; clear H; (try clear w); intro gv w H))
      exact ⟨_, resT rfl, false, rfl, (fun h => by cases h), H⟩
    have hsl : p[0]? = some 47 := by
      rw [List.getElem?_eq_getElem (by omega)] at h47 ⊢
      simp at h47
      congr 1
      exact UInt8.toNat_inj.1 (by rw [show (47 : UInt8).toNat = 47 from rfl]; omega)
    repeat' (first | (refine X.eqL (a := p) (b := [47]) ?_ ?_ <;> intro hc <;> first | (exfalso; exact absurd hc hroot) | skip) | (refine X.sidx (l := p) 0 ?_) | (refine X.lenL ?_) | (refine X.lv H ?_) | (refine X.lp H ?_) | (refine X.eqL ?_ ?_ <;> intro hc <;> first | (exfalso; first | exact absurd hc (by assumption) | exact absurd (by assumption) hc) | skip) | refine Z H ?_ | (refine Zc ?_ ?_ <;> intro hc <;> first | (exfalso; omega) | skip) | (refine Y ?_; try change C _ _ _ _ _ _) | (refine Zs H ?_; clear H; (try clear w); intro w H) | (refine Zn H ?_; clear H; (try clear w); intro _ w H) | (refine Ze H ?_; clear H; (try clear w); intro gv w H))
    (refine X.call (Above_w (p := p) H (by omega) hl) ?_; (try clear H); rintro _ w ⟨i, hi, rfl, H⟩; refine ⟨_, rfl, ?_⟩)
    have hlt := above_fst_lt hi (by omega)
    have hle := above_snd_le (p := p) (i := i)
    generalize (aboveM p i).1 = ab at *
    generalize (aboveM p i).2 = nm at *
    by_cases hab : ab = [47]
    · by_cases hpl : p.length = 1 + nm.length
      · repeat' (first | (refine X.eqL (a := ab) (b := [47]) ?_ ?_ <;> intro hc <;> first | (exfalso; exact absurd hab hc) | skip) | (refine X.lenL ?_) | (refine X.lv H ?_) | (refine X.lp H ?_) | (refine X.eqL ?_ ?_ <;> intro hc <;> first | (exfalso; first | exact absurd hc (by assumption) | exact absurd (by assumption) hc) | skip) | refine Z H ?_ | (refine Zc ?_ ?_ <;> intro hc <;> first | (exfalso; omega) | skip) | (refine Y ?_; try change C _ _ _ _ _ _) | (refine Zs H ?_; clear H; (try clear w); intro w H) | (refine Zn H ?_; clear H; (try clear w); intro _ w H) | (refine Ze H ?_; clear H; (try clear w); intro gv w H))
        (refine X.call (IsName_w (p := nm) H (by omega)) ?_; (try clear H); rintro _ w ⟨b, rfl, H⟩; refine ⟨_, rfl, ?_⟩)
        cases b
        · repeat' (first | (refine X.lenL ?_) | (refine X.lv H ?_) | (refine X.lp H ?_) | (refine X.eqL ?_ ?_ <;> intro hc <;> first | (exfalso; first | exact absurd hc (by assumption) | exact absurd (by assumption) hc) | skip) | refine Z H ?_ | (refine Zc ?_ ?_ <;> intro hc <;> first | (exfalso; omega) | skip) | (refine Y ?_; try change C _ _ _ _ _ _) | (refine Zs H ?_; clear H; (try clear w); intro w H) | (refine Zn H ?_; clear H; (try clear w); intro _ w H) | (refine Ze H ?_; clear H; (try clear w); intro gv w H))
          exact ⟨_, resT rfl, false, rfl, (fun h => by cases h), H⟩
        · repeat' (first | (refine X.lenL ?_) | (refine X.lv H ?_) | (refine X.lp H ?_) | (refine X.eqL ?_ ?_ <;> intro hc <;> first | (exfalso; first | exact absurd hc (by assumption) | exact absurd (by assumption) hc) | skip) | refine Z H ?_ | (refine Zc ?_ ?_ <;> intro hc <;> first | (exfalso; omega) | skip) | (refine Y ?_; try change C _ _ _ _ _ _) | (refine Zs H ?_; clear H; (try clear w); intro w H) | (refine Zn H ?_; clear H; (try clear w); intro _ w H) | (refine Ze H ?_; clear H; (try clear w); intro gv w H))
          (refine X.call (ih ab H (by omega) (by omega)) ?_; (try clear H); rintro _ w ⟨b, rfl, _, H⟩; refine ⟨_, rfl, ?_⟩)
          repeat' (first | (refine X.lenL ?_) | (refine X.lv H ?_) | (refine X.lp H ?_) | (refine X.eqL ?_ ?_ <;> intro hc <;> first | (exfalso; first | exact absurd hc (by assumption) | exact absurd (by assumption) hc) | skip) | refine Z H ?_ | (refine Zc ?_ ?_ <;> intro hc <;> first | (exfalso; omega) | skip) | (refine Y ?_; try change C _ _ _ _ _ _) | (refine Zs H ?_; clear H; (try clear w); intro w H) | (refine Zn H ?_; clear H; (try clear w); intro _ w H) | (refine Ze H ?_; clear H; (try clear w); intro gv w H))
          exact ⟨_, resT rfl, b, rfl, (fun _ => ⟨hsl, by omega⟩), H⟩
      · repeat' (first | (refine X.eqL (a := ab) (b := [47]) ?_ ?_ <;> intro hc <;> first | (exfalso; exact absurd hab hc) | skip) | (refine X.lenL ?_) | (refine X.lv H ?_) | (refine X.lp H ?_) | (refine X.eqL ?_ ?_ <;> intro hc <;> first | (exfalso; first | exact absurd hc (by assumption) | exact absurd (by assumption) hc) | skip) | refine Z H ?_ | (refine Zc ?_ ?_ <;> intro hc <;> first | (exfalso; omega) | skip) | (refine Y ?_; try change C _ _ _ _ _ _) | (refine Zs H ?_; clear H; (try clear w); intro w H) | (refine Zn H ?_; clear H; (try clear w); intro _ w H) | (refine Ze H ?_; clear H; (try clear w); intro gv w H))
        exact ⟨_, resT rfl, false, rfl, (fun h => by cases h), H⟩
    · repeat' (first | (refine X.eqL (a := ab) (b := [47]) ?_ ?_ <;> intro hc <;> first | (exfalso; exact absurd hc hab) | skip) | (refine X.lenL ?_) | (refine X.lv H ?_) | (refine X.lp H ?_) | (refine X.eqL ?_ ?_ <;> intro hc <;> first | (exfalso; first | exact absurd hc (by assumption) | exact absurd (by assumption) hc) | skip) | refine Z H ?_ | (refine Zc ?_ ?_ <;> intro hc <;> first | (exfalso; omega) | skip) | (refine Y ?_; try change C _ _ _ _ _ _) | (refine Zs H ?_; clear H; (try clear w); intro w H) | (refine Zn H ?_; clear H; (try clear w); intro _ w H) | (refine Ze H ?_; clear H; (try clear w); intro gv w H))
      (refine X.call (IsName_w (p := nm) H (by omega)) ?_; (try clear H); rintro _ w ⟨b, rfl, H⟩; refine ⟨_, rfl, ?_⟩)
      cases b
      · repeat' (first | (refine X.lenL ?_) | (refine X.lv H ?_) | (refine X.lp H ?_) | (refine X.eqL ?_ ?_ <;> intro hc <;> first | (exfalso; first | exact absurd hc (by assumption) | exact absurd (by assumption) hc) | skip) | refine Z H ?_ | (refine Zc ?_ ?_ <;> intro hc <;> first | (exfalso; omega) | skip) | (refine Y ?_; try change C _ _ _ _ _ _) | (refine Zs H ?_; clear H; (try clear w); intro w H) | (refine Zn H ?_; clear H; (try clear w); intro _ w H) | (refine Ze H ?_; clear H; (try clear w); intro gv w H))
        exact ⟨_, resT rfl, false, rfl, (fun h => by cases h), H⟩
      · repeat' (first | (refine X.lenL ?_) | (refine X.lv H ?_) | (refine X.lp H ?_) | (refine X.eqL ?_ ?_ <;> intro hc <;> first | (exfalso; first | exact absurd hc (by assumption) | exact absurd (by assumption) hc) | skip) | refine Z H ?_ | (refine Zc ?_ ?_ <;> intro hc <;> first | (exfalso; omega) | skip) | (refine Y ?_; try change C _ _ _ _ _ _) | (refine Zs H ?_; clear H; (try clear w); intro w H) | (refine Zn H ?_; clear H; (try clear w); intro _ w H) | (refine Ze H ?_; clear H; (try clear w); intro gv w H))
        (refine X.call (ih ab H (by omega) (by omega)) ?_; (try clear H); rintro _ w ⟨b, rfl, _, H⟩; refine ⟨_, rfl, ?_⟩)
        repeat' (first | (refine X.lenL ?_) | (refine X.lv H ?_) | (refine X.lp H ?_) | (refine X.eqL ?_ ?_ <;> intro hc <;> first | (exfalso; first | exact absurd hc (by assumption) | exact absurd (by assumption) hc) | skip) | refine Z H ?_ | (refine Zc ?_ ?_ <;> intro hc <;> first | (exfalso; omega) | skip) | (refine Y ?_; try change C _ _ _ _ _ _) | (refine Zs H ?_; clear H; (try clear w); intro w H) | (refine Zn H ?_; clear H; (try clear w); intro _ w H) | (refine Ze H ?_; clear H; (try clear w); intro gv w H))
        exact ⟨_, resT rfl, b, rfl, (fun _ => ⟨hsl, by omega⟩), H⟩
theorem IsPath_w {p : Str} (H : Holds s w R) (hl : p.length ≤ 140737488355328) : Calls Try.prog 49 #[.string ⟨p.toArray⟩] w fun e w' => ∃ b : Bool, e = .returned (.bool b) ∧ (b = true → p[0]? = some 47 ∧ p.length ≤ 72) ∧ Holds s w' R := IsPath_n p.length p H (Nat.le_refl _) hl
end
end Go.Proofs.Ytlchnabnhimlcaa

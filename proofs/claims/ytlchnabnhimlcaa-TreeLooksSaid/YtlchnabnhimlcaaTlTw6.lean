/- The library's strings: Cut at a slash, the last slash; a path cut into the directory's and the last name. -/
import Derived.Test.YtlchnabnhimlcaaTlK7
import Derived.Test.YtlchnabnhimlcaaTlKd
import Derived.Lib.Bytealg
import Derived.Laws.Externs
set_option linter.unusedSimpArgs false
set_option linter.unusedVariables false
namespace Go.Proofs.Ytlchnabnhimlcaa
open Go Go.RowKit Go.Own
theorem cutS_none : ∀ {s : Str}, (cutS s).2 = none → (cutS s).1 = s ∧ Lib.indexByte s 47 = -1
  | [], _ => ⟨rfl, rfl⟩
  | c :: s, h => by
    unfold cutS at h ⊢
    unfold Lib.indexByte
    by_cases hc : c = 47
    · rw [if_pos hc] at h; cases h
    · rw [if_neg hc] at h ⊢
      obtain ⟨h1, h2⟩ := cutS_none (s := s) h
      have hb : (c == (47 : UInt8)) = false := by simpa using hc
      rw [hb, h2]
      exact ⟨by simp only; rw [h1], rfl⟩
theorem cutS_some : ∀ {s r : Str}, (cutS s).2 = some r → s = (cutS s).1 ++ 47 :: r ∧ Lib.indexByte s 47 = ((cutS s).1.length : Int)
  | [], r, h => by simp [cutS] at h
  | c :: s, r, h => by
    unfold cutS at h ⊢
    unfold Lib.indexByte
    by_cases hc : c = 47
    · subst hc
      rw [if_pos rfl] at h ⊢
      cases h
      exact ⟨rfl, rfl⟩
    · rw [if_neg hc] at h ⊢
      obtain ⟨h1, h2⟩ := cutS_some (s := s) h
      have hb : (c == (47 : UInt8)) = false := by simpa using hc
      rw [hb, h2]
      refine ⟨by simp only [List.cons_append]; rw [← h1], ?_⟩
      have hn : (((cutS s).1.length : Int) == -1) = false := by
        rw [beq_eq_false_iff_ne]; omega
      rw [hn]
      simp
theorem lastM_none : ∀ {l : Str}, (∀ j : Nat, l[j]? ≠ some 47) → lastM l = none
  | [], _ => rfl
  | c :: l, h => by
    have h1 := lastM_none (l := l) (fun j => by have := h (j + 1); simpa using this)
    have h2 : c ≠ 47 := fun e => h 0 (by simp [e])
    rw [lastM, h1]
    simp [h2]
theorem lastM_at : ∀ {l : Str} {i : Nat}, l[i]? = some 47 → (∀ j : Nat, i < j → l[j]? ≠ some 47) → lastM l = some i
  | [], i, h, _ => by simp at h
  | c :: l, 0, h, hn => by
    have h1 := lastM_none (l := l) (fun j => by have := hn (j + 1) (by omega); simpa using this)
    simp at h
    rw [lastM, h1]
    simp [h]
  | c :: l, i + 1, h, hn => by
    have h1 := lastM_at (l := l) (i := i) (by simpa using h) (fun j hj => by have := hn (j + 1) (by omega); simpa using this)
    rw [lastM, h1]
theorem lastM_lt : ∀ {l : Str} {i : Nat}, lastM l = some i → l[i]? = some 47
  | [], i, h => by simp [lastM] at h
  | c :: l, i, h => by
    unfold lastM at h
    split at h
    · rename_i j hj
      cases h
      simpa using lastM_lt hj
    · split at h
      · cases h; simpa using ‹c = 47›
      · cases h
def lastV (l : Str) : Int := match lastM l with
  | some i => (i : Int)
  | none => -1
section
variable {n : Nat} {ops : Array Oper} {Q : Post} {rest : List Oper} {e : Env} {w : World} {s : Ro} {R : List Asn} {tt : Nat} {pp : String} {af : Array Edge} {g : Option (Nat × Bool)} {d : Nat} {l : Str}
theorem X.ibs {x y : Operand} {ts : Array TypeId} {c : Int} (h : L Try.prog n ops Q rest (upd e d (.int .i64 (Lib.indexByte l c.toNat.toUInt8))) w) (hw : wg n ops g e = true := by rfl) (hd : Nat.blt d n = true := by rfl) (hx : ev e x = .string ⟨l.toArray⟩ := by rfl) (hy : ev e y = .int .u8 c := by rfl) : L Try.prog n ops Q (⟨some d, .call { callee := .value (.func 104), args := #[x, y], argTypes := ts }, tt, pp, af, g⟩ :: rest) e w :=
  L.val (o := ⟨some d, .call { callee := .value (.func 104), args := #[x, y], argTypes := ts }, tt, pp, af, g⟩) _ w hw hd (by
    have hr := run_callFunc_extern (P := Try.prog) Try.func104 (by kernel_rfl) (by kernel_rfl) (by kernel_rfl) (e := Extern.BytealgIndexByte.indexByte) (by kernel_rfl) #[.string ⟨l.toArray⟩, .int .u8 c] w
    rw [Lib.run_indexByteString] at hr
    have hd : (⟨l.toArray⟩ : ByteArray).data.toList = l := by simp
    rw [hd] at hr
    have hf : ev e (.func 104) = .func (.func 104) #[] #[] := rfl
    unfold execOp
    simp [resolve, hx, hy, hf, Deferred.ofValue, invoke, hr]) h
set_option maxRecDepth 100000 in
set_option maxHeartbeats 1000000 in
theorem IndexByte_s (H : Holds s w R) : Calls Try.prog 100 #[.string ⟨l.toArray⟩, .int .u8 47] w fun e w' => e = .returned (.int .i64 (Lib.indexByte l 47)) ∧ Holds s w' R := by
  refine enter Try.func100 rfl Try.ntmps100 rfl ?_
  repeat' (first | (refine X.ibs (l := l) ?_) | (refine X.lenL ?_) | (refine X.lv H ?_) | (refine X.lp H ?_) | (refine X.eqL ?_ ?_ <;> intro hc <;> first | (exfalso; first | exact absurd hc (by assumption) | exact absurd (by assumption) hc) | skip) | refine Z H ?_ | (refine Zc ?_ ?_ <;> intro hc <;> first | (exfalso; omega) | skip) | (refine Y ?_; try change C _ _ _ _ _ _) | (refine Zs H ?_; clear H; (try clear w); intro w H) | (refine Zn H ?_; clear H; (try clear w); intro _ w H) | (refine Ze H ?_; clear H; (try clear w); intro gv w H))
  exact ⟨_, resT rfl, rfl, H⟩
theorem X.len47 {x : Operand} {t : TypeId} [T : StrC Try.prog t] (h : L Try.prog n ops Q rest (upd e d (.int .i64 1)) w) (hw : wg n ops g e = true := by rfl) (hd : Nat.blt d n = true := by rfl) (hx : ev e x = .string ⟨#[47]⟩ := by rfl) : L Try.prog n ops Q (⟨some d, .call { callee := .builtin .len, args := #[x], argTypes := #[t] }, tt, pp, af, g⟩ :: rest) e w :=
  J.lenS (b := ⟨#[47]⟩) h hw hd hx
set_option maxRecDepth 100000 in
set_option maxHeartbeats 1000000 in
theorem Index_s (H : Holds s w R) : Calls Try.prog 98 #[.string ⟨l.toArray⟩, .string ⟨#[47]⟩] w fun e w' => e = .returned (.int .i64 (Lib.indexByte l 47)) ∧ Holds s w' R := by
  refine enter Try.func98 rfl Try.ntmps98 rfl ?_
  by_cases hl : l = [47]
  · subst hl
    repeat' (first | (refine X.sidx (l := [47]) 0 ?_) | (refine X.len47 ?_) | (refine X.eqL (a := [47]) (b := [47]) ?_ ?_ <;> intro hc <;> first | (exfalso; exact hc rfl) | skip) | (refine X.lenL ?_) | (refine X.lv H ?_) | (refine X.lp H ?_) | (refine X.eqL ?_ ?_ <;> intro hc <;> first | (exfalso; first | exact absurd hc (by assumption) | exact absurd (by assumption) hc) | skip) | refine Z H ?_ | (refine Zc ?_ ?_ <;> intro hc <;> first | (exfalso; omega) | skip) | (refine Y ?_; try change C _ _ _ _ _ _) | (refine Zs H ?_; clear H; (try clear w); intro w H) | (refine Zn H ?_; clear H; (try clear w); intro _ w H) | (refine Ze H ?_; clear H; (try clear w); intro gv w H))
    exact ⟨_, resT rfl, rfl, H⟩
  · have hl' : ¬ [47] = l := fun h => hl h.symm
    repeat' (first | (refine X.sidx (l := [47]) 0 ?_) | (refine X.len47 ?_) | (refine X.eqL (a := [47]) (b := l) ?_ ?_ <;> intro hc <;> first | (exfalso; exact hl' hc) | skip) | (refine X.lenL ?_) | (refine X.lv H ?_) | (refine X.lp H ?_) | (refine X.eqL ?_ ?_ <;> intro hc <;> first | (exfalso; first | exact absurd hc (by assumption) | exact absurd (by assumption) hc) | skip) | refine Z H ?_ | (refine Zc ?_ ?_ <;> intro hc <;> first | (exfalso; omega) | skip) | (refine Y ?_; try change C _ _ _ _ _ _) | (refine Zs H ?_; clear H; (try clear w); intro w H) | (refine Zn H ?_; clear H; (try clear w); intro _ w H) | (refine Ze H ?_; clear H; (try clear w); intro gv w H))
    (refine X.call (IndexByte_s (l := l) H) ?_; (try clear H); rintro _ w ⟨rfl, H⟩; refine ⟨_, rfl, ?_⟩)
    repeat' (first | (refine X.lenL ?_) | (refine X.lv H ?_) | (refine X.lp H ?_) | (refine X.eqL ?_ ?_ <;> intro hc <;> first | (exfalso; first | exact absurd hc (by assumption) | exact absurd (by assumption) hc) | skip) | refine Z H ?_ | (refine Zc ?_ ?_ <;> intro hc <;> first | (exfalso; omega) | skip) | (refine Y ?_; try change C _ _ _ _ _ _) | (refine Zs H ?_; clear H; (try clear w); intro w H) | (refine Zn H ?_; clear H; (try clear w); intro _ w H) | (refine Ze H ?_; clear H; (try clear w); intro gv w H))
    exact ⟨_, resT rfl, rfl, H⟩
def cutV (l : Str) : Value := .tuple #[.string ⟨(cutS l).1.toArray⟩, .string ⟨((cutS l).2.getD []).toArray⟩, .bool (cutS l).2.isSome]
set_option maxRecDepth 100000 in
set_option maxHeartbeats 1000000 in
theorem cut_s (H : Holds s w R) (hb : l.length ≤ 1000000) : Calls Try.prog 91 #[.string ⟨l.toArray⟩, .string ⟨#[47]⟩] w fun e w' => e = .returned (cutV l) ∧ Holds s w' R := by
  refine enter Try.func91 rfl Try.ntmps91 rfl ?_
  repeat' (first | (refine X.lenL ?_) | (refine X.lv H ?_) | (refine X.lp H ?_) | (refine X.eqL ?_ ?_ <;> intro hc <;> first | (exfalso; first | exact absurd hc (by assumption) | exact absurd (by assumption) hc) | skip) | refine Z H ?_ | (refine Zc ?_ ?_ <;> intro hc <;> first | (exfalso; omega) | skip) | (refine Y ?_; try change C _ _ _ _ _ _) | (refine Zs H ?_; clear H; (try clear w); intro w H) | (refine Zn H ?_; clear H; (try clear w); intro _ w H) | (refine Ze H ?_; clear H; (try clear w); intro gv w H))
  have hI := Index_s (l := l) H
  cases hcut : (cutS l).2 with
  | none =>
    obtain ⟨h1, h2⟩ := cutS_none hcut
    rw [h2] at hI
    (refine X.call (hI) ?_; (try clear H); rintro _ w ⟨rfl, H⟩; refine ⟨_, rfl, ?_⟩)
    clear hI
    repeat' (first | (refine X.lenL ?_) | (refine X.lv H ?_) | (refine X.lp H ?_) | (refine X.eqL ?_ ?_ <;> intro hc <;> first | (exfalso; first | exact absurd hc (by assumption) | exact absurd (by assumption) hc) | skip) | refine Z H ?_ | (refine Zc ?_ ?_ <;> intro hc <;> first | (exfalso; omega) | skip) | (refine Y ?_; try change C _ _ _ _ _ _) | (refine Zs H ?_; clear H; (try clear w); intro w H) | (refine Zn H ?_; clear H; (try clear w); intro _ w H) | (refine Ze H ?_; clear H; (try clear w); intro gv w H))
    exact ⟨_, resTTT rfl, by unfold cutV; rw [h1, hcut]; rfl, H⟩
  | some r =>
    obtain ⟨h1, h2⟩ := cutS_some hcut
    rw [h2] at hI
    have hlen : (cutS l).1.length + 1 + r.length = l.length := by
      have := congrArg List.length h1
      simp at this
      omega
    have hgen : ∀ a : Str, l = a ++ 47 :: r → l.take a.length = a ∧ l.drop (a.length + 1) = r := by
      rintro a rfl
      exact ⟨by simp, by rw [← List.drop_drop]; simp⟩
    obtain ⟨e1, e2⟩ := hgen _ h1
    (refine X.call (hI) ?_; (try clear H); rintro _ w ⟨rfl, H⟩; refine ⟨_, rfl, ?_⟩)
    clear hI
    repeat' (first | (refine X.lenL ?_) | (refine X.lv H ?_) | (refine X.lp H ?_) | (refine X.eqL ?_ ?_ <;> intro hc <;> first | (exfalso; first | exact absurd hc (by assumption) | exact absurd (by assumption) hc) | skip) | refine Z H ?_ | (refine Zc ?_ ?_ <;> intro hc <;> first | (exfalso; omega) | skip) | (refine Y ?_; try change C _ _ _ _ _ _) | (refine Zs H ?_; clear H; (try clear w); intro w H) | (refine Zn H ?_; clear H; (try clear w); intro _ w H) | (refine Ze H ?_; clear H; (try clear w); intro gv w H))
    refine C.drawn1 [0, 0, 0, 0, 0, 0, 0, 0, 0, 0, 0, 0] [0, 0, 3, 0, 0, 0, 32, 112, 248, 7, 1023, 2047] (by kernel_rfl) ?_; replace H := H.drew
    repeat' (first | (refine X.len47 ?_) | (refine X.upto (l := l) (cutS l).1.length ?_ rfl (by omega)) | (refine X.from (l := l) ((cutS l).1.length + 1) ?_ rfl (by omega)) | (refine X.lenL ?_) | (refine X.lv H ?_) | (refine X.lp H ?_) | (refine X.eqL ?_ ?_ <;> intro hc <;> first | (exfalso; first | exact absurd hc (by assumption) | exact absurd (by assumption) hc) | skip) | refine Z H ?_ | (refine Zc ?_ ?_ <;> intro hc <;> first | (exfalso; omega) | skip) | (refine Y ?_; try change C _ _ _ _ _ _) | (refine Zs H ?_; clear H; (try clear w); intro w H) | (refine Zn H ?_; clear H; (try clear w); intro _ w H) | (refine Ze H ?_; clear H; (try clear w); intro gv w H))
    refine ⟨_, resTTT rfl, ?_, H⟩
    show Ending.returned (Value.tuple #[.string ⟨(l.take (cutS l).1.length).toArray⟩, .string ⟨(l.drop ((cutS l).1.length + 1)).toArray⟩, .bool true]) = _
    rw [e1, e2, cutV, hcut]
    rfl
set_option maxRecDepth 100000 in
set_option maxHeartbeats 1000000 in
theorem Cut_s (H : Holds s w R) (hb : l.length ≤ 1000000) : Calls Try.prog 77 #[.string ⟨l.toArray⟩, .string ⟨#[47]⟩] w fun e w' => e = .returned (cutV l) ∧ Holds s w' R := by
  refine enter Try.func77 rfl Try.ntmps77 rfl ?_
  repeat' (first | (refine X.lenL ?_) | (refine X.lv H ?_) | (refine X.lp H ?_) | (refine X.eqL ?_ ?_ <;> intro hc <;> first | (exfalso; first | exact absurd hc (by assumption) | exact absurd (by assumption) hc) | skip) | refine Z H ?_ | (refine Zc ?_ ?_ <;> intro hc <;> first | (exfalso; omega) | skip) | (refine Y ?_; try change C _ _ _ _ _ _) | (refine Zs H ?_; clear H; (try clear w); intro w H) | (refine Zn H ?_; clear H; (try clear w); intro _ w H) | (refine Ze H ?_; clear H; (try clear w); intro gv w H))
  (refine X.call (cut_s H hb) ?_; (try clear H); rintro _ w ⟨rfl, H⟩; refine ⟨_, rfl, ?_⟩)
  repeat' (first | (refine X.lenL ?_) | (refine X.lv H ?_) | (refine X.lp H ?_) | (refine X.eqL ?_ ?_ <;> intro hc <;> first | (exfalso; first | exact absurd hc (by assumption) | exact absurd (by assumption) hc) | skip) | refine Z H ?_ | (refine Zc ?_ ?_ <;> intro hc <;> first | (exfalso; omega) | skip) | (refine Y ?_; try change C _ _ _ _ _ _) | (refine Zs H ?_; clear H; (try clear w); intro w H) | (refine Zn H ?_; clear H; (try clear w); intro _ w H) | (refine Ze H ?_; clear H; (try clear w); intro gv w H))
  exact ⟨_, resTTT rfl, rfl, H⟩
set_option maxRecDepth 100000 in
set_option maxHeartbeats 1000000 in
theorem LastIndexByteString_s (H : Holds s w R) (hb : l.length ≤ 1000000) : Calls Try.prog 78 #[.string ⟨l.toArray⟩, .int .u8 47] w fun e w' => e = .returned (.int .i64 (lastV l)) ∧ Holds s w' R := by
  refine enter Try.func78 rfl Try.ntmps78 rfl ?_
  repeat' (first | (refine X.lenL ?_) | (refine X.lv H ?_) | (refine X.lp H ?_) | (refine X.eqL ?_ ?_ <;> intro hc <;> first | (exfalso; first | exact absurd hc (by assumption) | exact absurd (by assumption) hc) | skip) | refine Z H ?_ | (refine Zc ?_ ?_ <;> intro hc <;> first | (exfalso; omega) | skip) | (refine Y ?_; try change C _ _ _ _ _ _) | (refine Zs H ?_; clear H; (try clear w); intro w H) | (refine Zn H ?_; clear H; (try clear w); intro _ w H) | (refine Ze H ?_; clear H; (try clear w); intro gv w H))
  refine C.loopH H [4, 5, 9, 10, 11, 12, 13, 14, 15, 16, 17, 18] [5] rfl (fun k vs => ∃ i : Nat, k = i ∧ i ≤ l.length ∧ vs = [.int .i64 ((i : Int) - 1)] ∧ ∀ j, i ≤ j → l[j]? ≠ some 47) l.length ⟨l.length, rfl, Nat.le_refl _, rfl, fun j hj => by rw [List.getElem?_eq_none hj]; simp⟩ ?_
  clear H
  rintro k vs hv w ⟨i, rfl, hi, rfl, hn⟩ H
  cases k with
  | zero =>
    repeat' (first | (refine X.lenL ?_) | (refine X.lv H ?_) | (refine X.lp H ?_) | (refine X.eqL ?_ ?_ <;> intro hc <;> first | (exfalso; first | exact absurd hc (by assumption) | exact absurd (by assumption) hc) | skip) | refine Z H ?_ | (refine Zc ?_ ?_ <;> intro hc <;> first | (exfalso; omega) | skip) | (refine Y ?_; try change C _ _ _ _ _ _) | (refine Zs H ?_; clear H; (try clear w); intro w H) | (refine Zn H ?_; clear H; (try clear w); intro _ w H) | (refine Ze H ?_; clear H; (try clear w); intro gv w H))
    exact ⟨_, resT rfl, by rw [lastV, lastM_none (fun j => hn j (by omega))]; rfl, H⟩
  | succ i =>
    have hlt : i < l.length := by omega
    have hg : l[i]? = some (l[i]?.getD 0) := by rw [List.getElem?_eq_getElem hlt]; rfl
    by_cases hx : (l[i]?.getD 0).toNat = 47
    · have hx' : l[i]?.getD 0 = 47 := UInt8.toNat_inj.1 hx
      repeat' (first | (refine X.sidx i ?_) | (refine X.lenL ?_) | (refine X.lv H ?_) | (refine X.lp H ?_) | (refine X.eqL ?_ ?_ <;> intro hc <;> first | (exfalso; first | exact absurd hc (by assumption) | exact absurd (by assumption) hc) | skip) | refine Z H ?_ | (refine Zc ?_ ?_ <;> intro hc <;> first | (exfalso; omega) | skip) | (refine Y ?_; try change C _ _ _ _ _ _) | (refine Zs H ?_; clear H; (try clear w); intro w H) | (refine Zn H ?_; clear H; (try clear w); intro _ w H) | (refine Ze H ?_; clear H; (try clear w); intro gv w H))
      refine ⟨_, resT rfl, ?_, H⟩
      rw [lastV, lastM_at (i := i) (by rw [hg, hx']) (fun j hj => hn j (by omega))]
      have e1 : ((i + 1 : Nat) : Int) - 1 = (i : Int) := by omega
      show Ending.returned (Value.int _ (((i + 1 : Nat) : Int) - 1)) = _
      rw [e1]
    · have hx' : l[i]?.getD 0 ≠ 47 := fun h => hx (by rw [h]; rfl)
      repeat' (first | (refine X.sidx i ?_) | (refine X.lenL ?_) | (refine X.lv H ?_) | (refine X.lp H ?_) | (refine X.eqL ?_ ?_ <;> intro hc <;> first | (exfalso; first | exact absurd hc (by assumption) | exact absurd (by assumption) hc) | skip) | refine Z H ?_ | (refine Zc ?_ ?_ <;> intro hc <;> first | (exfalso; omega) | skip) | (refine Y ?_; try change C _ _ _ _ _ _) | (refine Zs H ?_; clear H; (try clear w); intro w H) | (refine Zn H ?_; clear H; (try clear w); intro _ w H) | (refine Ze H ?_; clear H; (try clear w); intro gv w H))
      refine ⟨by (repeat (first | exact Agr.refl | exact Agr.hav | refine Agr.upd rfl ?_ | refine Agr.in rfl ?_)), i, by omega, ⟨i, rfl, by omega, ?_, fun j hj => ?_⟩, H⟩
      · have e1 : ((i + 1 : Nat) : Int) - 1 - 1 = (i : Int) - 1 := by omega
        show [Value.int .i64 (((i + 1 : Nat) : Int) - 1 - 1)] = _
        rw [e1]
      · by_cases hji : j = i
        · subst hji; rw [hg]; simpa using hx'
        · exact hn j (by omega)
set_option maxRecDepth 100000 in
set_option maxHeartbeats 1000000 in
theorem LastIndexByte_s (H : Holds s w R) (hb : l.length ≤ 1000000) : Calls Try.prog 69 #[.string ⟨l.toArray⟩, .int .u8 47] w fun e w' => e = .returned (.int .i64 (lastV l)) ∧ Holds s w' R := by
  refine enter Try.func69 rfl Try.ntmps69 rfl ?_
  repeat' (first | (refine X.lenL ?_) | (refine X.lv H ?_) | (refine X.lp H ?_) | (refine X.eqL ?_ ?_ <;> intro hc <;> first | (exfalso; first | exact absurd hc (by assumption) | exact absurd (by assumption) hc) | skip) | refine Z H ?_ | (refine Zc ?_ ?_ <;> intro hc <;> first | (exfalso; omega) | skip) | (refine Y ?_; try change C _ _ _ _ _ _) | (refine Zs H ?_; clear H; (try clear w); intro w H) | (refine Zn H ?_; clear H; (try clear w); intro _ w H) | (refine Ze H ?_; clear H; (try clear w); intro gv w H))
  (refine X.call (LastIndexByteString_s H hb) ?_; (try clear H); rintro _ w ⟨rfl, H⟩; refine ⟨_, rfl, ?_⟩)
  repeat' (first | (refine X.lenL ?_) | (refine X.lv H ?_) | (refine X.lp H ?_) | (refine X.eqL ?_ ?_ <;> intro hc <;> first | (exfalso; first | exact absurd hc (by assumption) | exact absurd (by assumption) hc) | skip) | refine Z H ?_ | (refine Zc ?_ ?_ <;> intro hc <;> first | (exfalso; omega) | skip) | (refine Y ?_; try change C _ _ _ _ _ _) | (refine Zs H ?_; clear H; (try clear w); intro w H) | (refine Zn H ?_; clear H; (try clear w); intro _ w H) | (refine Ze H ?_; clear H; (try clear w); intro gv w H))
  exact ⟨_, resT rfl, rfl, H⟩
set_option maxRecDepth 100000 in
set_option maxHeartbeats 1000000 in
theorem split_s (H : Holds s w R) (hb : l.length ≤ 1000000) {i : Nat} (hi : lastM l = some i) : Calls Try.prog 47 #[.string ⟨l.toArray⟩] w fun e w' => e = .returned (.tuple #[.string ⟨(splitM l).1.toArray⟩, .string ⟨(splitM l).2.toArray⟩]) ∧ Holds s w' R := by
  refine enter Try.func47 rfl Try.ntmps47 rfl ?_
  have hlt : i < l.length := (List.getElem?_eq_some_iff.1 (lastM_lt hi)).1
  repeat' (first | (refine X.lenL ?_) | (refine X.lv H ?_) | (refine X.lp H ?_) | (refine X.eqL ?_ ?_ <;> intro hc <;> first | (exfalso; first | exact absurd hc (by assumption) | exact absurd (by assumption) hc) | skip) | refine Z H ?_ | (refine Zc ?_ ?_ <;> intro hc <;> first | (exfalso; omega) | skip) | (refine Y ?_; try change C _ _ _ _ _ _) | (refine Zs H ?_; clear H; (try clear w); intro w H) | (refine Zn H ?_; clear H; (try clear w); intro _ w H) | (refine Ze H ?_; clear H; (try clear w); intro gv w H))
  have hL := LastIndexByte_s H hb
  rw [lastV, hi] at hL
  dsimp only at hL
  (refine X.call (hL) ?_; (try clear H); rintro _ w ⟨rfl, H⟩; refine ⟨_, rfl, ?_⟩)
  clear hL
  by_cases h0 : i = 0
  · subst h0
    repeat' (first | (refine X.lenL ?_) | (refine X.lv H ?_) | (refine X.lp H ?_) | (refine X.eqL ?_ ?_ <;> intro hc <;> first | (exfalso; first | exact absurd hc (by assumption) | exact absurd (by assumption) hc) | skip) | refine Z H ?_ | (refine Zc ?_ ?_ <;> intro hc <;> first | (exfalso; omega) | skip) | (refine Y ?_; try change C _ _ _ _ _ _) | (refine Zs H ?_; clear H; (try clear w); intro w H) | (refine Zn H ?_; clear H; (try clear w); intro _ w H) | (refine Ze H ?_; clear H; (try clear w); intro gv w H))
    refine C.drawn1 [0, 0, 0, 0] [0, 1, 0, 7] (by kernel_rfl) ?_; replace H := H.drew
    repeat' (first | (refine X.from (l := l) 1 ?_ rfl (by omega)) | (refine X.lenL ?_) | (refine X.lv H ?_) | (refine X.lp H ?_) | (refine X.eqL ?_ ?_ <;> intro hc <;> first | (exfalso; first | exact absurd hc (by assumption) | exact absurd (by assumption) hc) | skip) | refine Z H ?_ | (refine Zc ?_ ?_ <;> intro hc <;> first | (exfalso; omega) | skip) | (refine Y ?_; try change C _ _ _ _ _ _) | (refine Zs H ?_; clear H; (try clear w); intro w H) | (refine Zn H ?_; clear H; (try clear w); intro _ w H) | (refine Ze H ?_; clear H; (try clear w); intro gv w H))
    exact ⟨_, resTT rfl, by rw [splitM, hi]; rfl, H⟩
  · repeat' (first | (refine X.lenL ?_) | (refine X.lv H ?_) | (refine X.lp H ?_) | (refine X.eqL ?_ ?_ <;> intro hc <;> first | (exfalso; first | exact absurd hc (by assumption) | exact absurd (by assumption) hc) | skip) | refine Z H ?_ | (refine Zc ?_ ?_ <;> intro hc <;> first | (exfalso; omega) | skip) | (refine Y ?_; try change C _ _ _ _ _ _) | (refine Zs H ?_; clear H; (try clear w); intro w H) | (refine Zn H ?_; clear H; (try clear w); intro _ w H) | (refine Ze H ?_; clear H; (try clear w); intro gv w H))
    refine C.drawn1 [0, 0, 0, 0, 0, 0, 0, 0, 0] [0, 0, 3, 0, 0, 16, 56, 7, 255] (by kernel_rfl) ?_; replace H := H.drew
    repeat' (first | (refine X.upto (l := l) i ?_ rfl (by omega)) | (refine X.from (l := l) (i + 1) ?_ rfl (by omega)) | (refine X.lenL ?_) | (refine X.lv H ?_) | (refine X.lp H ?_) | (refine X.eqL ?_ ?_ <;> intro hc <;> first | (exfalso; first | exact absurd hc (by assumption) | exact absurd (by assumption) hc) | skip) | refine Z H ?_ | (refine Zc ?_ ?_ <;> intro hc <;> first | (exfalso; omega) | skip) | (refine Y ?_; try change C _ _ _ _ _ _) | (refine Zs H ?_; clear H; (try clear w); intro w H) | (refine Zn H ?_; clear H; (try clear w); intro _ w H) | (refine Ze H ?_; clear H; (try clear w); intro gv w H))
    exact ⟨_, resTT rfl, by
      have : splitM l = (l.take i, l.drop (i + 1)) := by
        unfold splitM
        rw [hi]
        cases i with
        | zero => exact absurd rfl h0
        | succ i => rfl
      rw [this]; rfl, H⟩
end
end Go.Proofs.Ytlchnabnhimlcaa

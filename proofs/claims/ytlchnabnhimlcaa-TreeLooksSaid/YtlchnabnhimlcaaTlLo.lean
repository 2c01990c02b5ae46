/- nacelleref17, walked exactly: Names. -/
import Derived.Test.YtlchnabnhimlcaaTlLn
set_option linter.unusedSimpArgs false
set_option linter.unusedVariables false
namespace Go.Proofs.Ytlchnabnhimlcaa
open Go Go.RowKit Go.Own
theorem X.lssB {P : Program} {n : Nat} {ops : Array Oper} {Q : Post} {rest : List Oper} {e : Env} {w : World} {tt : Nat} {pp : String} {af : Array Edge} {g : Option (Nat × Bool)} {d : Nat} {x y : Operand} {t u : TypeId} {a b : List UInt8} {r : Bool} (h : L P n ops Q rest (upd e d (.bool r)) w) (hw : wg n ops g e = true := by rfl) (hd : Nat.blt d n = true := by rfl) (hx : ev e x = .string ⟨a.toArray⟩ := by rfl) (hy : ev e y = .string ⟨b.toArray⟩ := by rfl) (hr : ltB a b = r := by assumption) : L P n ops Q (⟨some d, .binOp .lss t x y u, tt, pp, af, g⟩ :: rest) e w :=
  X.lssL (by rw [hr]; exact h) hw hd hx hy
def namFS (o : Value) (k : Nat) (nm : Str) (l : List Str) : List FS := [
/-  0 -/ FS.row 61 [] [] 9 1 0 [],
/-  1 -/ FS.v 62 [] o,
/-  2 -/ FS.v 63 [] (.int .i64 (k : Int)),
/-  3 -/ FS.sl 64 [1, 2] 1 k (strL (l.take k)),
/-  4 -/ FS.row 65 [0, 3] [0] 9 1 k (strL (l.take k)),
/-  5 -/ FS.v 66 [] (.string ⟨nm.toArray⟩),
/-  6 -/ FS.sl 67 [5] 1 1 [.string ⟨nm.toArray⟩],
/-  7 -/ FS.row 68 [4, 6] [4] 9 1 (k + 1) (strL (l.take k) ++ [.string ⟨nm.toArray⟩]),
/-  8 -/ FS.v 69 [] o,
/-  9 -/ FS.v 70 [] (.int .i64 (k : Int)),
/- 10 -/ FS.sl 71 [8, 9] 1 (l.length - k) (strL (l.drop k)),
/- 11 -/ FS.row 72 [7, 10] [7] 9 1 (k + 1 + (l.length - k)) (strL (l.take k) ++ [.string ⟨nm.toArray⟩] ++ strL (l.drop k))]
section
variable {w : World} {s : Ro} {R : List Asn} {p : Str} {m : List RN} {t : TR}
set_option maxRecDepth 100000 in
set_option maxHeartbeats 1000000 in
theorem Names_x (H : Holds s w R) (hD : Doc s m t) (hW : WF t) (hl : p.length ≤ 140737488355328) : Calls Try.prog 22 #[.agg (rcells m).toArray, .string ⟨p.toArray⟩] w fun e w' => ∃ (s' : Ro) (aa : Option Addr) (cc : Nat), s.Le s' ∧ e = .returned (.tuple #[.slice aa (namesL t p).1.length cc, .int .i64 (namesL t p).2]) ∧ SlS s' (.slice aa (namesL t p).1.length cc) 1 (namesL t p).1.length (strL (namesL t p).1) ∧ Holds s' w' R := by
  have hm8 := hD.l8
  have hm32 := rcells_len hm8
  have hko := kindOf_is (t := t) (p := p) (k := 1)
  have hnl : namesL t p = namesL t p := rfl
  conv at hnl => rhs; unfold namesL
  refine enter Try.func22 rfl Try.ntmps22 rfl ?_
  repeat' (first | (refine X.lenL ?_) | (refine X.lv H ?_) | (refine X.lw H ?_) | (refine X.lp H ?_) | (refine X.ldM H ?_) | (refine X.eqL ?_ ?_ <;> intro hc <;> first | (exfalso; first | exact absurd hc (by assumption) | exact absurd (by assumption) hc) | skip) | (refine X.neL ?_ ?_ <;> intro hc <;> first | (exfalso; first | exact absurd hc (by assumption) | exact absurd (by assumption) hc) | skip) | (refine X.lssB ?_) | refine Z H ?_ | (refine Zc ?_ ?_ <;> intro hc <;> first | (exfalso; omega) | skip) | (refine Y ?_; try change C _ _ _ _ _ _) | (refine Zs H ?_; clear H; (try clear w); intro w H) | (refine Zn H ?_; clear H; (try clear w); (first | ((fail_if_success (have := bl1)); intro bl1 w H) | intro _ w H)) | (refine Ze H ?_; clear H; (try clear w); intro gv w H))
  (refine X.call (Find_x (p := p) H hD hW hl) ?_; (try clear H); rintro _ w ⟨rfl, H⟩; refine ⟨_, rfl, ?_⟩)
  by_cases her : (findM t p).2 = 0
  rotate_left
  · rw [if_pos her] at hko
    rw [if_pos (by rw [hko]; exact her), hko] at hnl
    repeat' (first | (refine X.lenL ?_) | (refine X.lv H ?_) | (refine X.lw H ?_) | (refine X.lp H ?_) | (refine X.ldM H ?_) | (refine X.eqL ?_ ?_ <;> intro hc <;> first | (exfalso; first | exact absurd hc (by assumption) | exact absurd (by assumption) hc) | skip) | (refine X.neL ?_ ?_ <;> intro hc <;> first | (exfalso; first | exact absurd hc (by assumption) | exact absurd (by assumption) hc) | skip) | (refine X.lssB ?_) | refine Z H ?_ | (refine Zc ?_ ?_ <;> intro hc <;> first | (exfalso; omega) | skip) | (refine Y ?_; try change C _ _ _ _ _ _) | (refine Zs H ?_; clear H; (try clear w); intro w H) | (refine Zn H ?_; clear H; (try clear w); (first | ((fail_if_success (have := bl1)); intro bl1 w H) | intro _ w H)) | (refine Ze H ?_; clear H; (try clear w); intro gv w H))
    exact ⟨_, resTT rfl, s, none, 0, Ro.Le.refl s, by rw [hnl]; rfl, by rw [hnl]; exact SlS.nil s 1, H.tail⟩
  rw [if_neg (by simpa using her)] at hko
  obtain ⟨g, hg, hgk, hfg⟩ := find_nat hW her
  have hpg := find_full hW hfg
  rw [hfg] at hko her ⊢
  rw [Int.toNat_natCast] at hko
  have c0 := rcell hm8 hg 0 _ rfl
  have hkd := hD.kind hg
  have h12 := kind12 hW hg hgk
  by_cases hk2 : (rn m g).kind = 2
  · rw [if_pos (by omega)] at hko
    rw [if_pos (by rw [hko]; decide), hko] at hnl
    repeat' (first | (refine K.iaA (i := g) rfl rfl rfl rfl rfl hg ?_) | (refine X.lenL ?_) | (refine X.lv H ?_) | (refine X.lw H ?_) | (refine X.lp H ?_) | (refine X.ldM H ?_) | (refine X.eqL ?_ ?_ <;> intro hc <;> first | (exfalso; first | exact absurd hc (by assumption) | exact absurd (by assumption) hc) | skip) | (refine X.neL ?_ ?_ <;> intro hc <;> first | (exfalso; first | exact absurd hc (by assumption) | exact absurd (by assumption) hc) | skip) | (refine X.lssB ?_) | refine Z H ?_ | (refine Zc ?_ ?_ <;> intro hc <;> first | (exfalso; omega) | skip) | (refine Y ?_; try change C _ _ _ _ _ _) | (refine Zs H ?_; clear H; (try clear w); intro w H) | (refine Zn H ?_; clear H; (try clear w); (first | ((fail_if_success (have := bl1)); intro bl1 w H) | intro _ w H)) | (refine Ze H ?_; clear H; (try clear w); intro gv w H))
    exact ⟨_, resTT rfl, s, none, 0, Ro.Le.refl s, by rw [hnl]; rfl, by rw [hnl]; exact SlS.nil s 1, H.tail⟩
  rw [if_neg (by omega)] at hko
  have hkg : kindOfM t p 1 = ((g : Int), 0) := by
    unfold kindOfM
    rw [hfg, if_neg (by simp), Int.toNat_natCast, if_neg (by omega)]
  rw [hkg, if_neg (by simp)] at hnl
  repeat' (first | (refine K.iaA (i := g) rfl rfl rfl rfl rfl hg ?_) | (refine X.lenL ?_) | (refine X.lv H ?_) | (refine X.lw H ?_) | (refine X.lp H ?_) | (refine X.ldM H ?_) | (refine X.eqL ?_ ?_ <;> intro hc <;> first | (exfalso; first | exact absurd hc (by assumption) | exact absurd (by assumption) hc) | skip) | (refine X.neL ?_ ?_ <;> intro hc <;> first | (exfalso; first | exact absurd hc (by assumption) | exact absurd (by assumption) hc) | skip) | (refine X.lssB ?_) | refine Z H ?_ | (refine Zc ?_ ?_ <;> intro hc <;> first | (exfalso; omega) | skip) | (refine Y ?_; try change C _ _ _ _ _ _) | (refine Zs H ?_; clear H; (try clear w); intro w H) | (refine Zn H ?_; clear H; (try clear w); (first | ((fail_if_success (have := bl1)); intro bl1 w H) | intro _ w H)) | (refine Ze H ?_; clear H; (try clear w); intro gv w H))
  refine C.loopS [8, 9, 10, 11, 12, 27, 28, 29, 30, 31, 32, 33, 34, 35, 36, 37, 38, 39, 40, 41, 42, 43, 44, 45, 46, 47, 48, 49, 50, 51, 52, 53, 54, 55, 56, 57, 58, 59, 60, 61, 62, 63, 64, 65, 66, 67, 68, 69, 70, 71, 72] [8, 9] rfl (fun f vs w => ∃ (i : Nat) (s1 : Ro) (oa : Option Addr) (oc : Nat), f = 8 - i ∧ 1 ≤ i ∧ i ≤ 8 ∧ vs = [.slice oa (sortB (pickN t (g : Int) i)).length oc, .int .i64 (i : Int)] ∧ s.Le s1 ∧ SlS s1 (.slice oa (sortB (pickN t (g : Int) i)).length oc) 1 (sortB (pickN t (g : Int) i)).length (strL (sortB (pickN t (g : Int) i))) ∧ Holds s1 w (var bl1 39 (rcells m) :: R)) 7 ⟨1, s, none, 0, rfl, by omega, by omega, rfl, Ro.Le.refl s, SlS.nil s 1, H⟩ ?_
  clear H
  rintro f vs hv w ⟨i, s1, oa, oc, rfl, hi1, hi, rfl, hs1, hout, H⟩
  have hs1' := hs1
  have hlen := len_pickN (t := t) (d := (g : Int)) i
  have hlen2 := len_sortB (pickN t (g : Int) i)
  by_cases hlt : i < 8
  rotate_left
  · obtain rfl : i = 8 := by omega
    repeat' (first | (refine X.lenL ?_) | (refine X.lv H ?_) | (refine X.lw H ?_) | (refine X.lp H ?_) | (refine X.ldM H ?_) | (refine X.eqL ?_ ?_ <;> intro hc <;> first | (exfalso; first | exact absurd hc (by assumption) | exact absurd (by assumption) hc) | skip) | (refine X.neL ?_ ?_ <;> intro hc <;> first | (exfalso; first | exact absurd hc (by assumption) | exact absurd (by assumption) hc) | skip) | (refine X.lssB ?_) | refine Z H ?_ | (refine Zc ?_ ?_ <;> intro hc <;> first | (exfalso; omega) | skip) | (refine Y ?_; try change C _ _ _ _ _ _) | (refine Zs H ?_; clear H; (try clear w); intro w H) | (refine Zn H ?_; clear H; (try clear w); (first | ((fail_if_success (have := bl1)); intro bl1 w H) | intro _ w H)) | (refine Ze H ?_; clear H; (try clear w); intro gv w H))
    exact ⟨_, resTT rfl, s1, oa, oc, hs1, by rw [hnl]; rfl, by rw [hnl]; exact hout, H.tail⟩
  have hD1 := hD.mono hs1
  have c0 := rcell hm8 hlt 0 _ rfl
  have c1 := rcell hm8 hlt 1 _ rfl
  have hki := hD.kind hlt
  have hpk : pickN t (g : Int) (i + 1) = pickN t (g : Int) i ++ (if 1 ≤ i ∧ (t.n i).kind ≠ 0 ∧ (t.n i).parent = (g : Int) then [(t.n i).name] else []) := rfl
  by_cases hk0 : (rn m i).kind = 0
  · rw [if_neg (fun h => h.2.1 (by omega)), List.append_nil] at hpk
    repeat' (first | (refine K.iaA (i := i) rfl rfl rfl rfl rfl hlt ?_) | (refine X.lenL ?_) | (refine X.lv H ?_) | (refine X.lw H ?_) | (refine X.lp H ?_) | (refine X.ldM H ?_) | (refine X.eqL ?_ ?_ <;> intro hc <;> first | (exfalso; first | exact absurd hc (by assumption) | exact absurd (by assumption) hc) | skip) | (refine X.neL ?_ ?_ <;> intro hc <;> first | (exfalso; first | exact absurd hc (by assumption) | exact absurd (by assumption) hc) | skip) | (refine X.lssB ?_) | refine Z H ?_ | (refine Zc ?_ ?_ <;> intro hc <;> first | (exfalso; omega) | skip) | (refine Y ?_; try change C _ _ _ _ _ _) | (refine Zs H ?_; clear H; (try clear w); intro w H) | (refine Zn H ?_; clear H; (try clear w); (first | ((fail_if_success (have := bl1)); intro bl1 w H) | intro _ w H)) | (refine Ze H ?_; clear H; (try clear w); intro gv w H))
    exact ⟨by (repeat (first | exact Agr.refl | exact Agr.hav | refine Agr.upd rfl ?_ | refine Agr.in rfl ?_)), 8 - (i + 1), by omega, i + 1, s1, oa, oc, rfl, by omega, by omega, by rw [hpk]; rfl, hs1, by rw [hpk]; exact hout, H⟩
  have hkn : (t.n i).kind ≠ 0 := by omega
  have hpi := hD.path hlt hkn
  have hpl := full_len hW hlt
  rw [hpi] at c1
  have hpar := hW.par i hlt
  have hup8 := hW.up8 i hlt
  have hupk := hW.up_alive hlt (by omega) hkn
  have hp1 : 1 ≤ (full t i).length := by
    unfold full
    rw [if_neg (by omega), sp_step hW hlt (by omega) hkn]
    simp only [List.length_append, List.length_cons]
    omega
  repeat' (first | (refine K.iaA (i := i) rfl rfl rfl rfl rfl hlt ?_) | (refine X.lenL ?_) | (refine X.lv H ?_) | (refine X.lw H ?_) | (refine X.lp H ?_) | (refine X.ldM H ?_) | (refine X.eqL ?_ ?_ <;> intro hc <;> first | (exfalso; first | exact absurd hc (by assumption) | exact absurd (by assumption) hc) | skip) | (refine X.neL ?_ ?_ <;> intro hc <;> first | (exfalso; first | exact absurd hc (by assumption) | exact absurd (by assumption) hc) | skip) | (refine X.lssB ?_) | refine Z H ?_ | (refine Zc ?_ ?_ <;> intro hc <;> first | (exfalso; omega) | skip) | (refine Y ?_; try change C _ _ _ _ _ _) | (refine Zs H ?_; clear H; (try clear w); intro w H) | (refine Zn H ?_; clear H; (try clear w); (first | ((fail_if_success (have := bl1)); intro bl1 w H) | intro _ w H)) | (refine Ze H ?_; clear H; (try clear w); intro gv w H))
  have hA := Above_x (p := full t i) H hp1 (by omega)
  rw [above_full hW hlt (by omega) hkn] at hA
  (refine X.call (hA) ?_; (try clear H); rintro _ w ⟨rfl, H⟩; refine ⟨_, rfl, ?_⟩)
  clear hA
  by_cases hu : full t (up t i) = p
  rotate_left
  · have hne : ¬ (t.n i).parent = (g : Int) := fun e => hu (by rw [← hpg]; congr 1; unfold up; omega)
    rw [if_neg (fun h => hne h.2.2), List.append_nil] at hpk
    repeat' (first | (refine X.lenL ?_) | (refine X.lv H ?_) | (refine X.lw H ?_) | (refine X.lp H ?_) | (refine X.ldM H ?_) | (refine X.eqL ?_ ?_ <;> intro hc <;> first | (exfalso; first | exact absurd hc (by assumption) | exact absurd (by assumption) hc) | skip) | (refine X.neL ?_ ?_ <;> intro hc <;> first | (exfalso; first | exact absurd hc (by assumption) | exact absurd (by assumption) hc) | skip) | (refine X.lssB ?_) | refine Z H ?_ | (refine Zc ?_ ?_ <;> intro hc <;> first | (exfalso; omega) | skip) | (refine Y ?_; try change C _ _ _ _ _ _) | (refine Zs H ?_; clear H; (try clear w); intro w H) | (refine Zn H ?_; clear H; (try clear w); (first | ((fail_if_success (have := bl1)); intro bl1 w H) | intro _ w H)) | (refine Ze H ?_; clear H; (try clear w); intro gv w H))
    exact ⟨by (repeat (first | exact Agr.refl | exact Agr.hav | refine Agr.upd rfl ?_ | refine Agr.in rfl ?_)), 8 - (i + 1), by omega, i + 1, s1, oa, oc, rfl, by omega, by omega, by rw [hpk]; rfl, hs1, by rw [hpk]; exact hout, H⟩
  have hpe : (t.n i).parent = (g : Int) := by
    have := full_inj hW hup8 (by rw [hupk]; decide) hg hgk (by rw [hu, hpg])
    unfold up at this
    omega
  rw [if_pos ⟨hi1, hkn, hpe⟩] at hpk
  have hsn : sortB (pickN t (g : Int) (i + 1)) = insB (t.n i).name (sortB (pickN t (g : Int) i)) := by rw [hpk, sort_snoc]
  have hso : Sorted (sortB (pickN t (g : Int) i)) := by
    have := sort_take (nodup_pickN hW (d := (g : Int)) i (by omega)) (pickN t (g : Int) i).length (Nat.le_refl _)
    rwa [List.take_length] at this
  generalize (t.n i).name = nm at *
  generalize hle : sortB (pickN t (g : Int) i) = l at *
  repeat' (first | (refine X.lenL ?_) | (refine X.lv H ?_) | (refine X.lw H ?_) | (refine X.lp H ?_) | (refine X.ldM H ?_) | (refine X.eqL ?_ ?_ <;> intro hc <;> first | (exfalso; first | exact absurd hc (by assumption) | exact absurd (by assumption) hc) | skip) | (refine X.neL ?_ ?_ <;> intro hc <;> first | (exfalso; first | exact absurd hc (by assumption) | exact absurd (by assumption) hc) | skip) | (refine X.lssB ?_) | refine Z H ?_ | (refine Zc ?_ ?_ <;> intro hc <;> first | (exfalso; omega) | skip) | (refine Y ?_; try change C _ _ _ _ _ _) | (refine Zs H ?_; clear H; (try clear w); intro w H) | (refine Zn H ?_; clear H; (try clear w); (first | ((fail_if_success (have := bl1)); intro bl1 w H) | intro _ w H)) | (refine Ze H ?_; clear H; (try clear w); intro gv w H))
  refine C.loopH H [12, 47, 48, 49, 50, 51, 52, 53, 54, 55, 56, 57, 58, 59, 60] [12] rfl (fun f vs => ∃ j : Nat, f = l.length - j ∧ j ≤ l.length ∧ vs = [.int .i64 (j : Int)] ∧ ∀ y ∈ l.take j, ltB y nm = true) l.length ⟨0, rfl, Nat.zero_le _, rfl, fun y hy => by cases hy⟩ ?_
  clear H
  rintro f vs hv2 w ⟨j, rfl, hj, rfl, hal⟩ H
  have hgo : (∃ y, l[j]? = some y ∧ ltB y nm = true) ∨ ∀ y, (l.drop j)[0]? = some y → ltB y nm = false := by
    by_cases hjl : j < l.length
    · by_cases hb : ltB l[j] nm = true
      · exact .inl ⟨l[j], List.getElem?_eq_getElem hjl, hb⟩
      · refine .inr (fun y hy => ?_)
        rw [List.getElem?_drop, Nat.add_zero, List.getElem?_eq_getElem hjl] at hy
        injection hy with hy
        rw [← hy]
        simpa using hb
    · exact .inr (fun y hy => by rw [List.drop_of_length_le (by omega)] at hy; cases hy)
  rcases hgo with ⟨y, hy, hb⟩ | hstop
  · have hjl : j < l.length := (List.getElem?_eq_some_iff.1 hy).1
    obtain ⟨gb, o, c', hv', _, _, hp⟩ := posS hout (by omega) (by decide)
    have hpn : Pin s1 gb (o + j * 1) (.string ⟨y.toArray⟩) := by
      rw [Nat.mul_one]
      exact hp j _ (by unfold strL; rw [List.getElem?_map, hy]; rfl)
    have hsa : oa = some ⟨gb, o, none⟩ := by injection hv'
    subst hsa
    repeat' (first | (refine X.lenL ?_) | (refine X.lv H ?_) | (refine X.lw H ?_) | (refine X.lp H ?_) | (refine X.ldM H ?_) | (refine X.eqL ?_ ?_ <;> intro hc <;> first | (exfalso; first | exact absurd hc (by assumption) | exact absurd (by assumption) hc) | skip) | (refine X.neL ?_ ?_ <;> intro hc <;> first | (exfalso; first | exact absurd hc (by assumption) | exact absurd (by assumption) hc) | skip) | (refine X.lssB ?_) | refine Z H ?_ | (refine Zc ?_ ?_ <;> intro hc <;> first | (exfalso; omega) | skip) | (refine Y ?_; try change C _ _ _ _ _ _) | (refine Zs H ?_; clear H; (try clear w); intro w H) | (refine Zn H ?_; clear H; (try clear w); (first | ((fail_if_success (have := bl1)); intro bl1 w H) | intro _ w H)) | (refine Ze H ?_; clear H; (try clear w); intro gv w H))
    refine ⟨by (repeat (first | exact Agr.refl | exact Agr.hav | refine Agr.upd rfl ?_ | refine Agr.in rfl ?_)), l.length - (j + 1), by omega, ⟨j + 1, rfl, by omega, rfl, fun z hz => ?_⟩, H⟩
    rw [List.take_add_one, hy] at hz
    rcases List.mem_append.1 hz with hz | hz
    · exact hal z hz
    · rw [List.mem_singleton.1 hz]; exact hb
  have hins : insB nm l = l.take j ++ nm :: l.drop j := by
    conv => lhs; rw [← List.take_append_drop j l]
    exact insB_at hal hstop
  have hnext : ∀ {w : World} {A : List Asn} {s2 : Ro} {aa : Option Addr} {cc : Nat}, s1.Le s2 → Holds s2 w (row 9 1 (.slice aa (j + 1 + (l.length - j)) cc) (j + 1 + (l.length - j)) (strL (l.take j) ++ [.string ⟨nm.toArray⟩] ++ strL (l.drop j)) :: A) → ∃ s3, s2.Le s3 ∧ SlS s3 (.slice aa (insB nm l).length cc) 1 (insB nm l).length (strL (insB nm l)) ∧ Holds s3 w A := fun hs2 H => by
    obtain ⟨s3, hs3, H1, hr⟩ := H.fixRow
    refine ⟨s3, hs3, ?_, H1⟩
    have e1 : strL (insB nm l) = strL (l.take j) ++ [.string ⟨nm.toArray⟩] ++ strL (l.drop j) := by
      rw [hins, strL_app, List.append_assoc]
      rfl
    have e2 : (insB nm l).length = j + 1 + (l.length - j) := by rw [len_insB]; omega
    rw [e1, e2]
    exact hr
  have hl8 : l.length ≤ 8 := by omega
  have hlone := strL_one l
  have htone : ∀ v ∈ strL (l.take j), v.oneCell' = true := strL_one _
  have hdone : ∀ v ∈ strL (l.drop j), v.oneCell' = true := strL_one _
  have hx : (j = l.length) ∨ (j < l.length ∧ ∃ gb o, oa = some ⟨gb, o, none⟩ ∧ ∃ y, ltB y nm = false ∧ Pin s1 gb (o + j * 1) (.string ⟨y.toArray⟩)) := by
    by_cases e : j = l.length
    · exact .inl e
    · have hjl : j < l.length := by omega
      obtain ⟨gb, o, c', hv', _, _, hp⟩ := posS hout (by omega) (by decide)
      refine .inr ⟨hjl, gb, o, by injection hv', l[j], hstop _ (by rw [List.getElem?_drop, Nat.add_zero, List.getElem?_eq_getElem hjl]), ?_⟩
      rw [Nat.mul_one]
      exact hp j _ (by unfold strL; rw [List.getElem?_map, List.getElem?_eq_getElem hjl]; rfl)
  have hoc : l.length ≤ oc := by
    obtain ⟨_, _, hv', _, hlc, _⟩ := hout
    cases hv'
    exact hlc
  rcases hx with hjl | ⟨hjl, gb, o, hoa, y, hyb, hpn⟩
  · repeat' (first | (refine X.lenL ?_) | (refine X.lv H ?_) | (refine X.lw H ?_) | (refine X.lp H ?_) | (refine X.ldM H ?_) | (refine X.eqL ?_ ?_ <;> intro hc <;> first | (exfalso; first | exact absurd hc (by assumption) | exact absurd (by assumption) hc) | skip) | (refine X.neL ?_ ?_ <;> intro hc <;> first | (exfalso; first | exact absurd hc (by assumption) | exact absurd (by assumption) hc) | skip) | (refine X.lssB ?_) | refine Z H ?_ | (refine Zc ?_ ?_ <;> intro hc <;> first | (exfalso; omega) | skip) | (refine Y ?_; try change C _ _ _ _ _ _) | (refine Zs H ?_; clear H; (try clear w); intro w H) | (refine Zn H ?_; clear H; (try clear w); (first | ((fail_if_success (have := bl1)); intro bl1 w H) | intro _ w H)) | (refine Ze H ?_; clear H; (try clear w); intro gv w H))
    refine C.flowU (namFS (.slice oa l.length oc) j nm l) [11] [1, 2, 3, 5, 6, 8, 9, 10, 11] H (by kernel_rfl) rfl rfl ?_ ?_
    · repeat' (first | exact StepsF.nil | refine StepsF.cons ?_ ?_)
      · intro s1 h w E hs1; (conv => whnf); intro H; replace H : Holds s1 w (var bl1 39 (rcells m) :: (R ++ E)) := H
        repeat' (first | (refine X.lenL ?_) | (refine X.lv H ?_) | (refine X.lw H ?_) | (refine X.lp H ?_) | (refine X.ldM H ?_) | (refine X.eqL ?_ ?_ <;> intro hc <;> first | (exfalso; first | exact absurd hc (by assumption) | exact absurd (by assumption) hc) | skip) | (refine X.neL ?_ ?_ <;> intro hc <;> first | (exfalso; first | exact absurd hc (by assumption) | exact absurd (by assumption) hc) | skip) | (refine X.lssB ?_) | refine Z H ?_ | (refine Zc ?_ ?_ <;> intro hc <;> first | (exfalso; omega) | skip) | (refine Y ?_; try change C _ _ _ _ _ _) | (refine Zs H ?_; clear H; (try clear w); intro w H) | (refine Zn H ?_; clear H; (try clear w); (first | ((fail_if_success (have := bl1)); intro bl1 w H) | intro _ w H)) | (refine Ze H ?_; clear H; (try clear w); intro gv w H))
        exact ⟨rfl, by (repeat (first | exact Agr.refl | exact Agr.hav | refine Agr.upd rfl ?_ | refine Agr.in rfl ?_)), s1, Ro.Le.refl _, ⟨_, _, rfl⟩, H⟩
      · intro s1 h w E hs1; (conv => whnf); intro H; replace H : Holds s1 w (var bl1 39 (rcells m) :: (R ++ E)) := H
        repeat' (first | (refine X.lenL ?_) | (refine X.lv H ?_) | (refine X.lw H ?_) | (refine X.lp H ?_) | (refine X.ldM H ?_) | (refine X.eqL ?_ ?_ <;> intro hc <;> first | (exfalso; first | exact absurd hc (by assumption) | exact absurd (by assumption) hc) | skip) | (refine X.neL ?_ ?_ <;> intro hc <;> first | (exfalso; first | exact absurd hc (by assumption) | exact absurd (by assumption) hc) | skip) | (refine X.lssB ?_) | refine Z H ?_ | (refine Zc ?_ ?_ <;> intro hc <;> first | (exfalso; omega) | skip) | (refine Y ?_; try change C _ _ _ _ _ _) | (refine Zs H ?_; clear H; (try clear w); intro w H) | (refine Zn H ?_; clear H; (try clear w); (first | ((fail_if_success (have := bl1)); intro bl1 w H) | intro _ w H)) | (refine Ze H ?_; clear H; (try clear w); intro gv w H))
        exact ⟨rfl, by (repeat (first | exact Agr.refl | exact Agr.hav | refine Agr.upd rfl ?_ | refine Agr.in rfl ?_)), s1, Ro.Le.refl _, rfl, H⟩
      · intro s1 h w E hs1; (conv => whnf); intro H; replace H : Holds s1 w (var bl1 39 (rcells m) :: (R ++ E)) := H
        repeat' (first | (refine X.lenL ?_) | (refine X.lv H ?_) | (refine X.lw H ?_) | (refine X.lp H ?_) | (refine X.ldM H ?_) | (refine X.eqL ?_ ?_ <;> intro hc <;> first | (exfalso; first | exact absurd hc (by assumption) | exact absurd (by assumption) hc) | skip) | (refine X.neL ?_ ?_ <;> intro hc <;> first | (exfalso; first | exact absurd hc (by assumption) | exact absurd (by assumption) hc) | skip) | (refine X.lssB ?_) | refine Z H ?_ | (refine Zc ?_ ?_ <;> intro hc <;> first | (exfalso; omega) | skip) | (refine Y ?_; try change C _ _ _ _ _ _) | (refine Zs H ?_; clear H; (try clear w); intro w H) | (refine Zn H ?_; clear H; (try clear w); (first | ((fail_if_success (have := bl1)); intro bl1 w H) | intro _ w H)) | (refine Ze H ?_; clear H; (try clear w); intro gv w H))
        exact ⟨rfl, by (repeat (first | exact Agr.refl | exact Agr.hav | refine Agr.upd rfl ?_ | refine Agr.in rfl ?_)), s1, Ro.Le.refl _, rfl, H⟩
      · intro s1 h w E hs1; (conv => whnf); rintro _ rfl; (conv => whnf); rintro _ rfl; (conv => whnf); intro H; replace H : Holds s1 w (var bl1 39 (rcells m) :: (R ++ E)) := H
        refine K.upto (l := j) rfl rfl rfl rfl rfl (by omega) ?_
        repeat' (first | (refine X.lenL ?_) | (refine X.lv H ?_) | (refine X.lw H ?_) | (refine X.lp H ?_) | (refine X.ldM H ?_) | (refine X.eqL ?_ ?_ <;> intro hc <;> first | (exfalso; first | exact absurd hc (by assumption) | exact absurd (by assumption) hc) | skip) | (refine X.neL ?_ ?_ <;> intro hc <;> first | (exfalso; first | exact absurd hc (by assumption) | exact absurd (by assumption) hc) | skip) | (refine X.lssB ?_) | refine Z H ?_ | (refine Zc ?_ ?_ <;> intro hc <;> first | (exfalso; omega) | skip) | (refine Y ?_; try change C _ _ _ _ _ _) | (refine Zs H ?_; clear H; (try clear w); intro w H) | (refine Zn H ?_; clear H; (try clear w); (first | ((fail_if_success (have := bl1)); intro bl1 w H) | intro _ w H)) | (refine Ze H ?_; clear H; (try clear w); intro gv w H))
        exact ⟨rfl, by (repeat (first | exact Agr.refl | exact Agr.hav | refine Agr.upd rfl ?_ | refine Agr.in rfl ?_)), s1, Ro.Le.refl _, ⟨_, _, rfl, slL_upto (hout.mono hs1) hj⟩, H⟩
      · intro s1 h w E hs1; (conv => whnf); rintro _ ⟨a4, c4, rfl⟩; (conv => whnf); rintro _ ⟨a5, c5, rfl, hS⟩; (conv => whnf); intro H; replace H : Holds s1 w (row 9 1 (.slice a4 0 c4) 0 [] :: var bl1 39 (rcells m) :: (R ++ E)) := H
        refine K.app0 0 H rfl (.ro hS) htone (by unfold maxLen; omega) (by omega) rfl rfl rfl ?_
        clear H
        intro a6 c6 w H
        (try simp only [List.set_cons_zero, List.set_cons_succ, List.eraseIdx_cons_zero, List.eraseIdx_cons_succ] at H)
        repeat' (first | (refine X.lenL ?_) | (refine X.lv H ?_) | (refine X.lw H ?_) | (refine X.lp H ?_) | (refine X.ldM H ?_) | (refine X.eqL ?_ ?_ <;> intro hc <;> first | (exfalso; first | exact absurd hc (by assumption) | exact absurd (by assumption) hc) | skip) | (refine X.neL ?_ ?_ <;> intro hc <;> first | (exfalso; first | exact absurd hc (by assumption) | exact absurd (by assumption) hc) | skip) | (refine X.lssB ?_) | refine Z H ?_ | (refine Zc ?_ ?_ <;> intro hc <;> first | (exfalso; omega) | skip) | (refine Y ?_; try change C _ _ _ _ _ _) | (refine Zs H ?_; clear H; (try clear w); intro w H) | (refine Zn H ?_; clear H; (try clear w); (first | ((fail_if_success (have := bl1)); intro bl1 w H) | intro _ w H)) | (refine Ze H ?_; clear H; (try clear w); intro gv w H))
        exact ⟨rfl, by (repeat (first | exact Agr.refl | exact Agr.hav | refine Agr.upd rfl ?_ | refine Agr.in rfl ?_)), s1, Ro.Le.refl _, ⟨_, _, rfl⟩, H⟩
      · intro s1 h w E hs1; (conv => whnf); intro H; replace H : Holds s1 w (var bl1 39 (rcells m) :: (R ++ E)) := H
        repeat' (first | (refine X.lenL ?_) | (refine X.lv H ?_) | (refine X.lw H ?_) | (refine X.lp H ?_) | (refine X.ldM H ?_) | (refine X.eqL ?_ ?_ <;> intro hc <;> first | (exfalso; first | exact absurd hc (by assumption) | exact absurd (by assumption) hc) | skip) | (refine X.neL ?_ ?_ <;> intro hc <;> first | (exfalso; first | exact absurd hc (by assumption) | exact absurd (by assumption) hc) | skip) | (refine X.lssB ?_) | refine Z H ?_ | (refine Zc ?_ ?_ <;> intro hc <;> first | (exfalso; omega) | skip) | (refine Y ?_; try change C _ _ _ _ _ _) | (refine Zs H ?_; clear H; (try clear w); intro w H) | (refine Zn H ?_; clear H; (try clear w); (first | ((fail_if_success (have := bl1)); intro bl1 w H) | intro _ w H)) | (refine Ze H ?_; clear H; (try clear w); intro gv w H))
        exact ⟨rfl, by (repeat (first | exact Agr.refl | exact Agr.hav | refine Agr.upd rfl ?_ | refine Agr.in rfl ?_)), s1, Ro.Le.refl _, rfl, H⟩
      · intro s1 h w E hs1; (conv => whnf); rintro _ rfl; (conv => whnf); intro H; replace H : Holds s1 w (var bl1 39 (rcells m) :: (R ++ E)) := H
        refine K.one H rfl rfl (by conv => lhs; whnf) (by rfl) (by rfl) ?_; clear H; (try clear w); intro g1 w H
        obtain ⟨s2, hs2, H, hS⟩ := H.fixRow
        repeat' (first | (refine X.lenL ?_) | (refine X.lv H ?_) | (refine X.lw H ?_) | (refine X.lp H ?_) | (refine X.ldM H ?_) | (refine X.eqL ?_ ?_ <;> intro hc <;> first | (exfalso; first | exact absurd hc (by assumption) | exact absurd (by assumption) hc) | skip) | (refine X.neL ?_ ?_ <;> intro hc <;> first | (exfalso; first | exact absurd hc (by assumption) | exact absurd (by assumption) hc) | skip) | (refine X.lssB ?_) | refine Z H ?_ | (refine Zc ?_ ?_ <;> intro hc <;> first | (exfalso; omega) | skip) | (refine Y ?_; try change C _ _ _ _ _ _) | (refine Zs H ?_; clear H; (try clear w); intro w H) | (refine Zn H ?_; clear H; (try clear w); (first | ((fail_if_success (have := bl1)); intro bl1 w H) | intro _ w H)) | (refine Ze H ?_; clear H; (try clear w); intro gv w H))
        exact ⟨rfl, by (repeat (first | exact Agr.refl | exact Agr.hav | refine Agr.upd rfl ?_ | refine Agr.in rfl ?_)), s2, hs2, ⟨_, _, rfl, hS⟩, H⟩
      · intro s1 h w E hs1; (conv => whnf); rintro _ ⟨a4, c4, rfl⟩; (conv => whnf); rintro _ ⟨a5, c5, rfl, hS⟩; (conv => whnf); intro H; replace H : Holds s1 w (row 9 1 (.slice a4 j c4) j (strL (l.take j)) :: var bl1 39 (rcells m) :: (R ++ E)) := H
        refine K.app 0 H rfl (.ro hS) (by simp [Value.oneCell']) (by unfold maxLen; omega) (by omega) rfl rfl rfl ?_
        clear H
        intro a6 c6 w H
        (try simp only [List.set_cons_zero, List.set_cons_succ, List.eraseIdx_cons_zero, List.eraseIdx_cons_succ] at H)
        repeat' (first | (refine X.lenL ?_) | (refine X.lv H ?_) | (refine X.lw H ?_) | (refine X.lp H ?_) | (refine X.ldM H ?_) | (refine X.eqL ?_ ?_ <;> intro hc <;> first | (exfalso; first | exact absurd hc (by assumption) | exact absurd (by assumption) hc) | skip) | (refine X.neL ?_ ?_ <;> intro hc <;> first | (exfalso; first | exact absurd hc (by assumption) | exact absurd (by assumption) hc) | skip) | (refine X.lssB ?_) | refine Z H ?_ | (refine Zc ?_ ?_ <;> intro hc <;> first | (exfalso; omega) | skip) | (refine Y ?_; try change C _ _ _ _ _ _) | (refine Zs H ?_; clear H; (try clear w); intro w H) | (refine Zn H ?_; clear H; (try clear w); (first | ((fail_if_success (have := bl1)); intro bl1 w H) | intro _ w H)) | (refine Ze H ?_; clear H; (try clear w); intro gv w H))
        exact ⟨rfl, by (repeat (first | exact Agr.refl | exact Agr.hav | refine Agr.upd rfl ?_ | refine Agr.in rfl ?_)), s1, Ro.Le.refl _, ⟨_, _, rfl⟩, H⟩
      · intro s1 h w E hs1; (conv => whnf); intro H; replace H : Holds s1 w (var bl1 39 (rcells m) :: (R ++ E)) := H
        repeat' (first | (refine X.lenL ?_) | (refine X.lv H ?_) | (refine X.lw H ?_) | (refine X.lp H ?_) | (refine X.ldM H ?_) | (refine X.eqL ?_ ?_ <;> intro hc <;> first | (exfalso; first | exact absurd hc (by assumption) | exact absurd (by assumption) hc) | skip) | (refine X.neL ?_ ?_ <;> intro hc <;> first | (exfalso; first | exact absurd hc (by assumption) | exact absurd (by assumption) hc) | skip) | (refine X.lssB ?_) | refine Z H ?_ | (refine Zc ?_ ?_ <;> intro hc <;> first | (exfalso; omega) | skip) | (refine Y ?_; try change C _ _ _ _ _ _) | (refine Zs H ?_; clear H; (try clear w); intro w H) | (refine Zn H ?_; clear H; (try clear w); (first | ((fail_if_success (have := bl1)); intro bl1 w H) | intro _ w H)) | (refine Ze H ?_; clear H; (try clear w); intro gv w H))
        exact ⟨rfl, by (repeat (first | exact Agr.refl | exact Agr.hav | refine Agr.upd rfl ?_ | refine Agr.in rfl ?_)), s1, Ro.Le.refl _, rfl, H⟩
      · intro s1 h w E hs1; (conv => whnf); intro H; replace H : Holds s1 w (var bl1 39 (rcells m) :: (R ++ E)) := H
        repeat' (first | (refine X.lenL ?_) | (refine X.lv H ?_) | (refine X.lw H ?_) | (refine X.lp H ?_) | (refine X.ldM H ?_) | (refine X.eqL ?_ ?_ <;> intro hc <;> first | (exfalso; first | exact absurd hc (by assumption) | exact absurd (by assumption) hc) | skip) | (refine X.neL ?_ ?_ <;> intro hc <;> first | (exfalso; first | exact absurd hc (by assumption) | exact absurd (by assumption) hc) | skip) | (refine X.lssB ?_) | refine Z H ?_ | (refine Zc ?_ ?_ <;> intro hc <;> first | (exfalso; omega) | skip) | (refine Y ?_; try change C _ _ _ _ _ _) | (refine Zs H ?_; clear H; (try clear w); intro w H) | (refine Zn H ?_; clear H; (try clear w); (first | ((fail_if_success (have := bl1)); intro bl1 w H) | intro _ w H)) | (refine Ze H ?_; clear H; (try clear w); intro gv w H))
        exact ⟨rfl, by (repeat (first | exact Agr.refl | exact Agr.hav | refine Agr.upd rfl ?_ | refine Agr.in rfl ?_)), s1, Ro.Le.refl _, rfl, H⟩
      · intro s1 h w E hs1; (conv => whnf); rintro _ rfl; (conv => whnf); rintro _ rfl; (conv => whnf); intro H; replace H : Holds s1 w (var bl1 39 (rcells m) :: (R ++ E)) := H
        refine K.from (l := j) rfl rfl rfl rfl rfl (by omega) ?_
        repeat' (first | (refine X.lenL ?_) | (refine X.lv H ?_) | (refine X.lw H ?_) | (refine X.lp H ?_) | (refine X.ldM H ?_) | (refine X.eqL ?_ ?_ <;> intro hc <;> first | (exfalso; first | exact absurd hc (by assumption) | exact absurd (by assumption) hc) | skip) | (refine X.neL ?_ ?_ <;> intro hc <;> first | (exfalso; first | exact absurd hc (by assumption) | exact absurd (by assumption) hc) | skip) | (refine X.lssB ?_) | refine Z H ?_ | (refine Zc ?_ ?_ <;> intro hc <;> first | (exfalso; omega) | skip) | (refine Y ?_; try change C _ _ _ _ _ _) | (refine Zs H ?_; clear H; (try clear w); intro w H) | (refine Zn H ?_; clear H; (try clear w); (first | ((fail_if_success (have := bl1)); intro bl1 w H) | intro _ w H)) | (refine Ze H ?_; clear H; (try clear w); intro gv w H))
        exact ⟨rfl, by (repeat (first | exact Agr.refl | exact Agr.hav | refine Agr.upd rfl ?_ | refine Agr.in rfl ?_)), s1, Ro.Le.refl _, ⟨_, _, rfl, slL_from (hout.mono hs1) hj⟩, H⟩
      · intro s1 h w E hs1; (conv => whnf); rintro _ ⟨a4, c4, rfl⟩; (conv => whnf); rintro _ ⟨a5, c5, rfl, hS⟩; (conv => whnf); intro H; replace H : Holds s1 w (row 9 1 (.slice a4 (j + 1) c4) (j + 1) (strL (l.take j) ++ [.string ⟨nm.toArray⟩]) :: var bl1 39 (rcells m) :: (R ++ E)) := H
        refine K.app 0 H rfl (.ro hS) hdone (by unfold maxLen; omega) (by omega) rfl rfl rfl ?_
        clear H
        intro a6 c6 w H
        (try simp only [List.set_cons_zero, List.set_cons_succ, List.eraseIdx_cons_zero, List.eraseIdx_cons_succ] at H)
        repeat' (first | (refine X.lenL ?_) | (refine X.lv H ?_) | (refine X.lw H ?_) | (refine X.lp H ?_) | (refine X.ldM H ?_) | (refine X.eqL ?_ ?_ <;> intro hc <;> first | (exfalso; first | exact absurd hc (by assumption) | exact absurd (by assumption) hc) | skip) | (refine X.neL ?_ ?_ <;> intro hc <;> first | (exfalso; first | exact absurd hc (by assumption) | exact absurd (by assumption) hc) | skip) | (refine X.lssB ?_) | refine Z H ?_ | (refine Zc ?_ ?_ <;> intro hc <;> first | (exfalso; omega) | skip) | (refine Y ?_; try change C _ _ _ _ _ _) | (refine Zs H ?_; clear H; (try clear w); intro w H) | (refine Zn H ?_; clear H; (try clear w); (first | ((fail_if_success (have := bl1)); intro bl1 w H) | intro _ w H)) | (refine Ze H ?_; clear H; (try clear w); intro gv w H))
        exact ⟨rfl, by (repeat (first | exact Agr.refl | exact Agr.hav | refine Agr.upd rfl ?_ | refine Agr.in rfl ?_)), s1, Ro.Le.refl _, ⟨_, _, rfl⟩, H⟩
    · intro s1 h w hs1; (conv => whnf); rintro _ ⟨a9, c9, rfl⟩; (conv => whnf); intro H; replace H : Holds s1 w (row 9 1 (.slice a9 (j + 1 + (l.length - j)) c9) (j + 1 + (l.length - j)) (strL (l.take j) ++ [.string ⟨nm.toArray⟩] ++ strL (l.drop j)) :: var bl1 39 (rcells m) :: R) := H
      obtain ⟨s3, hs3, hr3, H3⟩ := hnext hs1 H
      have hlen3 : j + 1 + (l.length - j) = (insB nm l).length := by rw [len_insB]; omega
      clear H
      have H := H3
      clear H3
      change L _ _ _ _ [_] _ _
      repeat' (first | (refine X.lenL ?_) | (refine X.lv H ?_) | (refine X.lw H ?_) | (refine X.lp H ?_) | (refine X.ldM H ?_) | (refine X.eqL ?_ ?_ <;> intro hc <;> first | (exfalso; first | exact absurd hc (by assumption) | exact absurd (by assumption) hc) | skip) | (refine X.neL ?_ ?_ <;> intro hc <;> first | (exfalso; first | exact absurd hc (by assumption) | exact absurd (by assumption) hc) | skip) | (refine X.lssB ?_) | refine Z H ?_ | (refine Zc ?_ ?_ <;> intro hc <;> first | (exfalso; omega) | skip) | (refine Y ?_; try change C _ _ _ _ _ _) | (refine Zs H ?_; clear H; (try clear w); intro w H) | (refine Zn H ?_; clear H; (try clear w); (first | ((fail_if_success (have := bl1)); intro bl1 w H) | intro _ w H)) | (refine Ze H ?_; clear H; (try clear w); intro gv w H))
      refine ⟨rfl, ?_⟩
      change C _ _ _ _ _ _
      repeat' (first | (refine X.lenL ?_) | (refine X.lv H ?_) | (refine X.lw H ?_) | (refine X.lp H ?_) | (refine X.ldM H ?_) | (refine X.eqL ?_ ?_ <;> intro hc <;> first | (exfalso; first | exact absurd hc (by assumption) | exact absurd (by assumption) hc) | skip) | (refine X.neL ?_ ?_ <;> intro hc <;> first | (exfalso; first | exact absurd hc (by assumption) | exact absurd (by assumption) hc) | skip) | (refine X.lssB ?_) | refine Z H ?_ | (refine Zc ?_ ?_ <;> intro hc <;> first | (exfalso; omega) | skip) | (refine Y ?_; try change C _ _ _ _ _ _) | (refine Zs H ?_; clear H; (try clear w); intro w H) | (refine Zn H ?_; clear H; (try clear w); (first | ((fail_if_success (have := bl1)); intro bl1 w H) | intro _ w H)) | (refine Ze H ?_; clear H; (try clear w); intro gv w H))
      exact ⟨by (repeat (first | exact Agr.refl | exact Agr.hav | refine Agr.upd rfl ?_ | refine Agr.in rfl ?_)), 8 - (i + 1), by omega, i + 1, s3, a9, c9, rfl, by omega, by omega, by rw [hsn, ← hlen3]; rfl, (hs1'.trans hs1).trans hs3, by rw [hsn]; exact hr3, H⟩
  · repeat' (first | (refine K.ia (gg := gb) (off := o) (i := j) (m := l.length) (c := oc) rfl rfl (congrArg (Value.slice · l.length oc) hoa) rfl rfl hjl ?_) | (refine X.lenL ?_) | (refine X.lv H ?_) | (refine X.lw H ?_) | (refine X.lp H ?_) | (refine X.ldM H ?_) | (refine X.eqL ?_ ?_ <;> intro hc <;> first | (exfalso; first | exact absurd hc (by assumption) | exact absurd (by assumption) hc) | skip) | (refine X.neL ?_ ?_ <;> intro hc <;> first | (exfalso; first | exact absurd hc (by assumption) | exact absurd (by assumption) hc) | skip) | (refine X.lssB ?_) | refine Z H ?_ | (refine Zc ?_ ?_ <;> intro hc <;> first | (exfalso; omega) | skip) | (refine Y ?_; try change C _ _ _ _ _ _) | (refine Zs H ?_; clear H; (try clear w); intro w H) | (refine Zn H ?_; clear H; (try clear w); (first | ((fail_if_success (have := bl1)); intro bl1 w H) | intro _ w H)) | (refine Ze H ?_; clear H; (try clear w); intro gv w H))
    refine C.flowU (namFS (.slice oa l.length oc) j nm l) [11] [1, 2, 3, 5, 6, 8, 9, 10, 11] H (by kernel_rfl) rfl rfl ?_ ?_
    · repeat' (first | exact StepsF.nil | refine StepsF.cons ?_ ?_)
      · intro s1 h w E hs1; (conv => whnf); intro H; replace H : Holds s1 w (var bl1 39 (rcells m) :: (R ++ E)) := H
        repeat' (first | (refine X.lenL ?_) | (refine X.lv H ?_) | (refine X.lw H ?_) | (refine X.lp H ?_) | (refine X.ldM H ?_) | (refine X.eqL ?_ ?_ <;> intro hc <;> first | (exfalso; first | exact absurd hc (by assumption) | exact absurd (by assumption) hc) | skip) | (refine X.neL ?_ ?_ <;> intro hc <;> first | (exfalso; first | exact absurd hc (by assumption) | exact absurd (by assumption) hc) | skip) | (refine X.lssB ?_) | refine Z H ?_ | (refine Zc ?_ ?_ <;> intro hc <;> first | (exfalso; omega) | skip) | (refine Y ?_; try change C _ _ _ _ _ _) | (refine Zs H ?_; clear H; (try clear w); intro w H) | (refine Zn H ?_; clear H; (try clear w); (first | ((fail_if_success (have := bl1)); intro bl1 w H) | intro _ w H)) | (refine Ze H ?_; clear H; (try clear w); intro gv w H))
        exact ⟨rfl, by (repeat (first | exact Agr.refl | exact Agr.hav | refine Agr.upd rfl ?_ | refine Agr.in rfl ?_)), s1, Ro.Le.refl _, ⟨_, _, rfl⟩, H⟩
      · intro s1 h w E hs1; (conv => whnf); intro H; replace H : Holds s1 w (var bl1 39 (rcells m) :: (R ++ E)) := H
        repeat' (first | (refine X.lenL ?_) | (refine X.lv H ?_) | (refine X.lw H ?_) | (refine X.lp H ?_) | (refine X.ldM H ?_) | (refine X.eqL ?_ ?_ <;> intro hc <;> first | (exfalso; first | exact absurd hc (by assumption) | exact absurd (by assumption) hc) | skip) | (refine X.neL ?_ ?_ <;> intro hc <;> first | (exfalso; first | exact absurd hc (by assumption) | exact absurd (by assumption) hc) | skip) | (refine X.lssB ?_) | refine Z H ?_ | (refine Zc ?_ ?_ <;> intro hc <;> first | (exfalso; omega) | skip) | (refine Y ?_; try change C _ _ _ _ _ _) | (refine Zs H ?_; clear H; (try clear w); intro w H) | (refine Zn H ?_; clear H; (try clear w); (first | ((fail_if_success (have := bl1)); intro bl1 w H) | intro _ w H)) | (refine Ze H ?_; clear H; (try clear w); intro gv w H))
        exact ⟨rfl, by (repeat (first | exact Agr.refl | exact Agr.hav | refine Agr.upd rfl ?_ | refine Agr.in rfl ?_)), s1, Ro.Le.refl _, rfl, H⟩
      · intro s1 h w E hs1; (conv => whnf); intro H; replace H : Holds s1 w (var bl1 39 (rcells m) :: (R ++ E)) := H
        repeat' (first | (refine X.lenL ?_) | (refine X.lv H ?_) | (refine X.lw H ?_) | (refine X.lp H ?_) | (refine X.ldM H ?_) | (refine X.eqL ?_ ?_ <;> intro hc <;> first | (exfalso; first | exact absurd hc (by assumption) | exact absurd (by assumption) hc) | skip) | (refine X.neL ?_ ?_ <;> intro hc <;> first | (exfalso; first | exact absurd hc (by assumption) | exact absurd (by assumption) hc) | skip) | (refine X.lssB ?_) | refine Z H ?_ | (refine Zc ?_ ?_ <;> intro hc <;> first | (exfalso; omega) | skip) | (refine Y ?_; try change C _ _ _ _ _ _) | (refine Zs H ?_; clear H; (try clear w); intro w H) | (refine Zn H ?_; clear H; (try clear w); (first | ((fail_if_success (have := bl1)); intro bl1 w H) | intro _ w H)) | (refine Ze H ?_; clear H; (try clear w); intro gv w H))
        exact ⟨rfl, by (repeat (first | exact Agr.refl | exact Agr.hav | refine Agr.upd rfl ?_ | refine Agr.in rfl ?_)), s1, Ro.Le.refl _, rfl, H⟩
      · intro s1 h w E hs1; (conv => whnf); rintro _ rfl; (conv => whnf); rintro _ rfl; (conv => whnf); intro H; replace H : Holds s1 w (var bl1 39 (rcells m) :: (R ++ E)) := H
        refine K.upto (l := j) rfl rfl rfl rfl rfl (by omega) ?_
        repeat' (first | (refine X.lenL ?_) | (refine X.lv H ?_) | (refine X.lw H ?_) | (refine X.lp H ?_) | (refine X.ldM H ?_) | (refine X.eqL ?_ ?_ <;> intro hc <;> first | (exfalso; first | exact absurd hc (by assumption) | exact absurd (by assumption) hc) | skip) | (refine X.neL ?_ ?_ <;> intro hc <;> first | (exfalso; first | exact absurd hc (by assumption) | exact absurd (by assumption) hc) | skip) | (refine X.lssB ?_) | refine Z H ?_ | (refine Zc ?_ ?_ <;> intro hc <;> first | (exfalso; omega) | skip) | (refine Y ?_; try change C _ _ _ _ _ _) | (refine Zs H ?_; clear H; (try clear w); intro w H) | (refine Zn H ?_; clear H; (try clear w); (first | ((fail_if_success (have := bl1)); intro bl1 w H) | intro _ w H)) | (refine Ze H ?_; clear H; (try clear w); intro gv w H))
        exact ⟨rfl, by (repeat (first | exact Agr.refl | exact Agr.hav | refine Agr.upd rfl ?_ | refine Agr.in rfl ?_)), s1, Ro.Le.refl _, ⟨_, _, rfl, slL_upto (hout.mono hs1) hj⟩, H⟩
      · intro s1 h w E hs1; (conv => whnf); rintro _ ⟨a4, c4, rfl⟩; (conv => whnf); rintro _ ⟨a5, c5, rfl, hS⟩; (conv => whnf); intro H; replace H : Holds s1 w (row 9 1 (.slice a4 0 c4) 0 [] :: var bl1 39 (rcells m) :: (R ++ E)) := H
        refine K.app0 0 H rfl (.ro hS) htone (by unfold maxLen; omega) (by omega) rfl rfl rfl ?_
        clear H
        intro a6 c6 w H
        (try simp only [List.set_cons_zero, List.set_cons_succ, List.eraseIdx_cons_zero, List.eraseIdx_cons_succ] at H)
        repeat' (first | (refine X.lenL ?_) | (refine X.lv H ?_) | (refine X.lw H ?_) | (refine X.lp H ?_) | (refine X.ldM H ?_) | (refine X.eqL ?_ ?_ <;> intro hc <;> first | (exfalso; first | exact absurd hc (by assumption) | exact absurd (by assumption) hc) | skip) | (refine X.neL ?_ ?_ <;> intro hc <;> first | (exfalso; first | exact absurd hc (by assumption) | exact absurd (by assumption) hc) | skip) | (refine X.lssB ?_) | refine Z H ?_ | (refine Zc ?_ ?_ <;> intro hc <;> first | (exfalso; omega) | skip) | (refine Y ?_; try change C _ _ _ _ _ _) | (refine Zs H ?_; clear H; (try clear w); intro w H) | (refine Zn H ?_; clear H; (try clear w); (first | ((fail_if_success (have := bl1)); intro bl1 w H) | intro _ w H)) | (refine Ze H ?_; clear H; (try clear w); intro gv w H))
        exact ⟨rfl, by (repeat (first | exact Agr.refl | exact Agr.hav | refine Agr.upd rfl ?_ | refine Agr.in rfl ?_)), s1, Ro.Le.refl _, ⟨_, _, rfl⟩, H⟩
      · intro s1 h w E hs1; (conv => whnf); intro H; replace H : Holds s1 w (var bl1 39 (rcells m) :: (R ++ E)) := H
        repeat' (first | (refine X.lenL ?_) | (refine X.lv H ?_) | (refine X.lw H ?_) | (refine X.lp H ?_) | (refine X.ldM H ?_) | (refine X.eqL ?_ ?_ <;> intro hc <;> first | (exfalso; first | exact absurd hc (by assumption) | exact absurd (by assumption) hc) | skip) | (refine X.neL ?_ ?_ <;> intro hc <;> first | (exfalso; first | exact absurd hc (by assumption) | exact absurd (by assumption) hc) | skip) | (refine X.lssB ?_) | refine Z H ?_ | (refine Zc ?_ ?_ <;> intro hc <;> first | (exfalso; omega) | skip) | (refine Y ?_; try change C _ _ _ _ _ _) | (refine Zs H ?_; clear H; (try clear w); intro w H) | (refine Zn H ?_; clear H; (try clear w); (first | ((fail_if_success (have := bl1)); intro bl1 w H) | intro _ w H)) | (refine Ze H ?_; clear H; (try clear w); intro gv w H))
        exact ⟨rfl, by (repeat (first | exact Agr.refl | exact Agr.hav | refine Agr.upd rfl ?_ | refine Agr.in rfl ?_)), s1, Ro.Le.refl _, rfl, H⟩
      · intro s1 h w E hs1; (conv => whnf); rintro _ rfl; (conv => whnf); intro H; replace H : Holds s1 w (var bl1 39 (rcells m) :: (R ++ E)) := H
        refine K.one H rfl rfl (by conv => lhs; whnf) (by rfl) (by rfl) ?_; clear H; (try clear w); intro g1 w H
        obtain ⟨s2, hs2, H, hS⟩ := H.fixRow
        repeat' (first | (refine X.lenL ?_) | (refine X.lv H ?_) | (refine X.lw H ?_) | (refine X.lp H ?_) | (refine X.ldM H ?_) | (refine X.eqL ?_ ?_ <;> intro hc <;> first | (exfalso; first | exact absurd hc (by assumption) | exact absurd (by assumption) hc) | skip) | (refine X.neL ?_ ?_ <;> intro hc <;> first | (exfalso; first | exact absurd hc (by assumption) | exact absurd (by assumption) hc) | skip) | (refine X.lssB ?_) | refine Z H ?_ | (refine Zc ?_ ?_ <;> intro hc <;> first | (exfalso; omega) | skip) | (refine Y ?_; try change C _ _ _ _ _ _) | (refine Zs H ?_; clear H; (try clear w); intro w H) | (refine Zn H ?_; clear H; (try clear w); (first | ((fail_if_success (have := bl1)); intro bl1 w H) | intro _ w H)) | (refine Ze H ?_; clear H; (try clear w); intro gv w H))
        exact ⟨rfl, by (repeat (first | exact Agr.refl | exact Agr.hav | refine Agr.upd rfl ?_ | refine Agr.in rfl ?_)), s2, hs2, ⟨_, _, rfl, hS⟩, H⟩
      · intro s1 h w E hs1; (conv => whnf); rintro _ ⟨a4, c4, rfl⟩; (conv => whnf); rintro _ ⟨a5, c5, rfl, hS⟩; (conv => whnf); intro H; replace H : Holds s1 w (row 9 1 (.slice a4 j c4) j (strL (l.take j)) :: var bl1 39 (rcells m) :: (R ++ E)) := H
        refine K.app 0 H rfl (.ro hS) (by simp [Value.oneCell']) (by unfold maxLen; omega) (by omega) rfl rfl rfl ?_
        clear H
        intro a6 c6 w H
        (try simp only [List.set_cons_zero, List.set_cons_succ, List.eraseIdx_cons_zero, List.eraseIdx_cons_succ] at H)
        repeat' (first | (refine X.lenL ?_) | (refine X.lv H ?_) | (refine X.lw H ?_) | (refine X.lp H ?_) | (refine X.ldM H ?_) | (refine X.eqL ?_ ?_ <;> intro hc <;> first | (exfalso; first | exact absurd hc (by assumption) | exact absurd (by assumption) hc) | skip) | (refine X.neL ?_ ?_ <;> intro hc <;> first | (exfalso; first | exact absurd hc (by assumption) | exact absurd (by assumption) hc) | skip) | (refine X.lssB ?_) | refine Z H ?_ | (refine Zc ?_ ?_ <;> intro hc <;> first | (exfalso; omega) | skip) | (refine Y ?_; try change C _ _ _ _ _ _) | (refine Zs H ?_; clear H; (try clear w); intro w H) | (refine Zn H ?_; clear H; (try clear w); (first | ((fail_if_success (have := bl1)); intro bl1 w H) | intro _ w H)) | (refine Ze H ?_; clear H; (try clear w); intro gv w H))
        exact ⟨rfl, by (repeat (first | exact Agr.refl | exact Agr.hav | refine Agr.upd rfl ?_ | refine Agr.in rfl ?_)), s1, Ro.Le.refl _, ⟨_, _, rfl⟩, H⟩
      · intro s1 h w E hs1; (conv => whnf); intro H; replace H : Holds s1 w (var bl1 39 (rcells m) :: (R ++ E)) := H
        repeat' (first | (refine X.lenL ?_) | (refine X.lv H ?_) | (refine X.lw H ?_) | (refine X.lp H ?_) | (refine X.ldM H ?_) | (refine X.eqL ?_ ?_ <;> intro hc <;> first | (exfalso; first | exact absurd hc (by assumption) | exact absurd (by assumption) hc) | skip) | (refine X.neL ?_ ?_ <;> intro hc <;> first | (exfalso; first | exact absurd hc (by assumption) | exact absurd (by assumption) hc) | skip) | (refine X.lssB ?_) | refine Z H ?_ | (refine Zc ?_ ?_ <;> intro hc <;> first | (exfalso; omega) | skip) | (refine Y ?_; try change C _ _ _ _ _ _) | (refine Zs H ?_; clear H; (try clear w); intro w H) | (refine Zn H ?_; clear H; (try clear w); (first | ((fail_if_success (have := bl1)); intro bl1 w H) | intro _ w H)) | (refine Ze H ?_; clear H; (try clear w); intro gv w H))
        exact ⟨rfl, by (repeat (first | exact Agr.refl | exact Agr.hav | refine Agr.upd rfl ?_ | refine Agr.in rfl ?_)), s1, Ro.Le.refl _, rfl, H⟩
      · intro s1 h w E hs1; (conv => whnf); intro H; replace H : Holds s1 w (var bl1 39 (rcells m) :: (R ++ E)) := H
        repeat' (first | (refine X.lenL ?_) | (refine X.lv H ?_) | (refine X.lw H ?_) | (refine X.lp H ?_) | (refine X.ldM H ?_) | (refine X.eqL ?_ ?_ <;> intro hc <;> first | (exfalso; first | exact absurd hc (by assumption) | exact absurd (by assumption) hc) | skip) | (refine X.neL ?_ ?_ <;> intro hc <;> first | (exfalso; first | exact absurd hc (by assumption) | exact absurd (by assumption) hc) | skip) | (refine X.lssB ?_) | refine Z H ?_ | (refine Zc ?_ ?_ <;> intro hc <;> first | (exfalso; omega) | skip) | (refine Y ?_; try change C _ _ _ _ _ _) | (refine Zs H ?_; clear H; (try clear w); intro w H) | (refine Zn H ?_; clear H; (try clear w); (first | ((fail_if_success (have := bl1)); intro bl1 w H) | intro _ w H)) | (refine Ze H ?_; clear H; (try clear w); intro gv w H))
        exact ⟨rfl, by (repeat (first | exact Agr.refl | exact Agr.hav | refine Agr.upd rfl ?_ | refine Agr.in rfl ?_)), s1, Ro.Le.refl _, rfl, H⟩
      · intro s1 h w E hs1; (conv => whnf); rintro _ rfl; (conv => whnf); rintro _ rfl; (conv => whnf); intro H; replace H : Holds s1 w (var bl1 39 (rcells m) :: (R ++ E)) := H
        refine K.from (l := j) rfl rfl rfl rfl rfl (by omega) ?_
        repeat' (first | (refine X.lenL ?_) | (refine X.lv H ?_) | (refine X.lw H ?_) | (refine X.lp H ?_) | (refine X.ldM H ?_) | (refine X.eqL ?_ ?_ <;> intro hc <;> first | (exfalso; first | exact absurd hc (by assumption) | exact absurd (by assumption) hc) | skip) | (refine X.neL ?_ ?_ <;> intro hc <;> first | (exfalso; first | exact absurd hc (by assumption) | exact absurd (by assumption) hc) | skip) | (refine X.lssB ?_) | refine Z H ?_ | (refine Zc ?_ ?_ <;> intro hc <;> first | (exfalso; omega) | skip) | (refine Y ?_; try change C _ _ _ _ _ _) | (refine Zs H ?_; clear H; (try clear w); intro w H) | (refine Zn H ?_; clear H; (try clear w); (first | ((fail_if_success (have := bl1)); intro bl1 w H) | intro _ w H)) | (refine Ze H ?_; clear H; (try clear w); intro gv w H))
        exact ⟨rfl, by (repeat (first | exact Agr.refl | exact Agr.hav | refine Agr.upd rfl ?_ | refine Agr.in rfl ?_)), s1, Ro.Le.refl _, ⟨_, _, rfl, slL_from (hout.mono hs1) hj⟩, H⟩
      · intro s1 h w E hs1; (conv => whnf); rintro _ ⟨a4, c4, rfl⟩; (conv => whnf); rintro _ ⟨a5, c5, rfl, hS⟩; (conv => whnf); intro H; replace H : Holds s1 w (row 9 1 (.slice a4 (j + 1) c4) (j + 1) (strL (l.take j) ++ [.string ⟨nm.toArray⟩]) :: var bl1 39 (rcells m) :: (R ++ E)) := H
        refine K.app 0 H rfl (.ro hS) hdone (by unfold maxLen; omega) (by omega) rfl rfl rfl ?_
        clear H
        intro a6 c6 w H
        (try simp only [List.set_cons_zero, List.set_cons_succ, List.eraseIdx_cons_zero, List.eraseIdx_cons_succ] at H)
        repeat' (first | (refine X.lenL ?_) | (refine X.lv H ?_) | (refine X.lw H ?_) | (refine X.lp H ?_) | (refine X.ldM H ?_) | (refine X.eqL ?_ ?_ <;> intro hc <;> first | (exfalso; first | exact absurd hc (by assumption) | exact absurd (by assumption) hc) | skip) | (refine X.neL ?_ ?_ <;> intro hc <;> first | (exfalso; first | exact absurd hc (by assumption) | exact absurd (by assumption) hc) | skip) | (refine X.lssB ?_) | refine Z H ?_ | (refine Zc ?_ ?_ <;> intro hc <;> first | (exfalso; omega) | skip) | (refine Y ?_; try change C _ _ _ _ _ _) | (refine Zs H ?_; clear H; (try clear w); intro w H) | (refine Zn H ?_; clear H; (try clear w); (first | ((fail_if_success (have := bl1)); intro bl1 w H) | intro _ w H)) | (refine Ze H ?_; clear H; (try clear w); intro gv w H))
        exact ⟨rfl, by (repeat (first | exact Agr.refl | exact Agr.hav | refine Agr.upd rfl ?_ | refine Agr.in rfl ?_)), s1, Ro.Le.refl _, ⟨_, _, rfl⟩, H⟩
    · intro s1 h w hs1; (conv => whnf); rintro _ ⟨a9, c9, rfl⟩; (conv => whnf); intro H; replace H : Holds s1 w (row 9 1 (.slice a9 (j + 1 + (l.length - j)) c9) (j + 1 + (l.length - j)) (strL (l.take j) ++ [.string ⟨nm.toArray⟩] ++ strL (l.drop j)) :: var bl1 39 (rcells m) :: R) := H
      obtain ⟨s3, hs3, hr3, H3⟩ := hnext hs1 H
      have hlen3 : j + 1 + (l.length - j) = (insB nm l).length := by rw [len_insB]; omega
      clear H
      have H := H3
      clear H3
      change L _ _ _ _ [_] _ _
      repeat' (first | (refine X.lenL ?_) | (refine X.lv H ?_) | (refine X.lw H ?_) | (refine X.lp H ?_) | (refine X.ldM H ?_) | (refine X.eqL ?_ ?_ <;> intro hc <;> first | (exfalso; first | exact absurd hc (by assumption) | exact absurd (by assumption) hc) | skip) | (refine X.neL ?_ ?_ <;> intro hc <;> first | (exfalso; first | exact absurd hc (by assumption) | exact absurd (by assumption) hc) | skip) | (refine X.lssB ?_) | refine Z H ?_ | (refine Zc ?_ ?_ <;> intro hc <;> first | (exfalso; omega) | skip) | (refine Y ?_; try change C _ _ _ _ _ _) | (refine Zs H ?_; clear H; (try clear w); intro w H) | (refine Zn H ?_; clear H; (try clear w); (first | ((fail_if_success (have := bl1)); intro bl1 w H) | intro _ w H)) | (refine Ze H ?_; clear H; (try clear w); intro gv w H))
      refine ⟨rfl, ?_⟩
      change C _ _ _ _ _ _
      repeat' (first | (refine X.lenL ?_) | (refine X.lv H ?_) | (refine X.lw H ?_) | (refine X.lp H ?_) | (refine X.ldM H ?_) | (refine X.eqL ?_ ?_ <;> intro hc <;> first | (exfalso; first | exact absurd hc (by assumption) | exact absurd (by assumption) hc) | skip) | (refine X.neL ?_ ?_ <;> intro hc <;> first | (exfalso; first | exact absurd hc (by assumption) | exact absurd (by assumption) hc) | skip) | (refine X.lssB ?_) | refine Z H ?_ | (refine Zc ?_ ?_ <;> intro hc <;> first | (exfalso; omega) | skip) | (refine Y ?_; try change C _ _ _ _ _ _) | (refine Zs H ?_; clear H; (try clear w); intro w H) | (refine Zn H ?_; clear H; (try clear w); (first | ((fail_if_success (have := bl1)); intro bl1 w H) | intro _ w H)) | (refine Ze H ?_; clear H; (try clear w); intro gv w H))
      exact ⟨by (repeat (first | exact Agr.refl | exact Agr.hav | refine Agr.upd rfl ?_ | refine Agr.in rfl ?_)), 8 - (i + 1), by omega, i + 1, s3, a9, c9, rfl, by omega, by omega, by rw [hsn, ← hlen3]; rfl, (hs1'.trans hs1).trans hs3, by rw [hsn]; exact hr3, H⟩
end
end Go.Proofs.Ytlchnabnhimlcaa

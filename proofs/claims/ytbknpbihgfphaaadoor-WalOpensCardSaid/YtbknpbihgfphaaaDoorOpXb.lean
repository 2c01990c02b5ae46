/- The document's Commit, walked. -/
import Derived.Test.YtbknpbihgfphaaaDoorOpXa
import Derived.Test.YtbknpbihgfphaaaDoorOpWw
set_option linter.unusedSimpArgs false
set_option linter.unusedVariables false
namespace Go.Proofs.YtbknpbihgfphaaaDoor
open Go Go.RowKit Go.Own
def recAts (u n : Nat) : List Nat := (List.range n).map fun i => 34 + u + i
theorem recAts_succ (u n : Nat) : recAts u (n + 1) = recAts u n ++ [34 + u + n] := by simp [recAts, List.range_succ]
theorem recAts_len (u n : Nat) : (recAts u n).length = n := by simp [recAts]
def recLs (e : Nat) : Nat → List Ch → List (List UInt8)
  | _, [] => []
  | u, c :: r => recB e u c :: recLs e (u + 1) r
theorem recLs_len (e : Nat) : ∀ (l : List Ch) (u : Nat), (recLs e u l).length = l.length
  | [], _ => rfl
  | c :: r, u => by rw [recLs, List.length_cons, recLs_len e r, List.length_cons]
theorem recLs_snoc (e : Nat) (c : Ch) : ∀ (l : List Ch) (u : Nat), recLs e u (l ++ [c]) = recLs e u l ++ [recB e (u + l.length) c]
  | [], u => rfl
  | b :: r, u => by
    rw [List.cons_append, recLs, recLs_snoc e c r (u + 1), recLs, List.length_cons, show u + 1 + r.length = u + (r.length + 1) by omega]; rfl
theorem recLs_take {e u i : Nat} {l : List Ch} (h : i < l.length) : recLs e u (l.take (i + 1)) = recLs e u (l.take i) ++ [recB e (u + i) l[i]] := by
  rw [List.take_succ_eq_append_getElem h, recLs_snoc, List.length_take, Nat.min_eq_left (by omega)]
theorem recLs_le {e : Nat} : ∀ (l : List Ch) (u : Nat), (∀ c ∈ l, c.Ok) → ∀ x ∈ recLs e u l, x.length ≤ 1000
  | [], u, _, x, hx => by simp [recLs] at hx
  | c :: r, u, h, x, hx => by
    rcases List.mem_cons.1 hx with rfl | hx
    · have : (recB e u c).length = 64 := secW_len (c := 82) (e := e) (r := [UInt8.ofNat u, UInt8.ofNat c.page.toNat] ++ c.data) (by rw [List.length_append, (h c (by simp)).2.2]; simp)
      rw [this]; decide
    · exact recLs_le r (u + 1) (fun c hc => h c (by simp [hc])) x hx
theorem recAts_lt {u n : Nat} (h : u + n ≤ 18) : ∀ a ∈ recAts u n, a < 52 := by
  intro a ha
  obtain ⟨i, hi, rfl⟩ := List.mem_map.1 ha
  have := List.mem_range.1 hi
  omega
theorem wrS_cons (a : Nat) (b : List UInt8) (x : List Nat) (y : List (List UInt8)) : wrS (a :: x) (b :: y) = .w a b :: wrS x y := rfl
theorem recSteps_wr (e : Nat) : ∀ (l : List Ch) (u : Nat), recSteps e u l = (wrS ((List.range' u l.length).map fun i => 34 + i) (recLs e u l) ++ [.f]) ++ (wrS [34 + (u + l.length)] [markB e (u + l.length)] ++ [.f])
  | [], u => rfl
  | c :: r, u => by
    rw [recSteps, recSteps_wr e r (u + 1), List.length_cons, List.range'_succ, List.map_cons, recLs, wrS_cons, show u + 1 + r.length = u + (r.length + 1) by omega]; rfl
theorem recSteps_ats (e u : Nat) (l : List Ch) : recSteps e u l = (wrS (recAts u l.length) (recLs e u l) ++ [.f]) ++ (wrS [34 + (u + l.length)] [markB e (u + l.length)] ++ [.f]) := by
  rw [recSteps_wr]
  have : (List.range' u l.length).map (fun i => 34 + i) = recAts u l.length := by
    unfold recAts
    rw [List.range'_eq_map_range, List.map_map]
    refine List.map_congr_left (fun i _ => ?_)
    simp only [Function.comp]; omega
  rw [this]
def comFS (cs : List Value) (b3 b k e : Nat) (sec : List UInt8) (d : DM) (f : Nat) (pa : Option Addr) (pn pc eW hW u : Nat) (dd : Bool) (code : Int) : List FS := [
/-  0 -/ FS.ld 117 b3 86 cs,
/-  1 -/ FS.v 118 [] (.int .i64 (k : Int)),
/-  2 -/ FS.v 119 [1] (.int .i64 ((34 + k : Nat) : Int)),
/-  3 -/ FS.sl 120 [2] 1 1 [.int .i64 ((34 + k : Nat) : Int)],
/-  4 -/ FS.v 121 [] (.pointer (some ⟨b, 7, none⟩)),
/-  5 -/ FS.v 122 [4] (.int .u32 (e : Int)),
/-  6 -/ FS.v 123 [] (.int .i64 (k : Int)),
/-  7 -/ FS.v 124 [6] (.string (bst [UInt8.ofNat k])),
/-  8 -/ FS.v 125 [5, 7] (.string (bst sec)),
/-  9 -/ FS.sl 126 [8] 1 1 [.string (bst sec)],
/- 10 -/ FS.f 127 [0, 3, 9] (GotW d f pa pn pc eW hW u dd code) GotW.mono,
/- 11 -/ FS.f 116 [10] (GotW d f pa pn pc eW hW u dd code) GotW.mono,
/- 12 -/ FS.f 128 [11] (AggW d f pa pn pc eW hW u dd) AggW.mono,
/- 13 -/ FS.v 129 [11] (.int .i64 code),
/- 14 -/ FS.stAt 128 0 b3 [12] 86]
section
variable {s : Ro} {w : World} {R : List Asn}
set_option maxRecDepth 100000 in
set_option maxHeartbeats 1000000 in
theorem Commit16_s {d : DM} {f pc : Nat} {pa : Option Addr} {cs cs2 : List Value} {v : Value} {l : List Ch} {m : WL} (H : Holds s w R) (hR : RefW s cs d f pa 16 pc m.epoch m.home m.used m.dead) (hS : SlS s (.slice pa 16 pc) 1 16 (strs (pgsOf m.pages))) (he : m.epoch < 2 ^ 32) (hh : m.home ≤ 1) (hu : m.used ≤ 18) (hl : m.pages.length = 640) (hcS : SlS s v 2 l.length cs2) (hch : ChS s cs2 l) (hn : l.length ≤ 1000) (hf : f ≤ 100) (hpl : d.pend.length ≤ 4000) : Calls Tryd.prog 45 #[.agg cs.toArray, v] w fun y w' => ∃ s' cs' pa' pc', y = .returned (.tuple #[.agg cs'.toArray, .int .i64 (commitM d ((f : Int), 52) m l).2.2]) ∧ s.Le s' ∧ RefW s' cs' (commitM d ((f : Int), 52) m l).1 f pa' 16 pc' (commitM d ((f : Int), 52) m l).2.1.epoch (commitM d ((f : Int), 52) m l).2.1.home (commitM d ((f : Int), 52) m l).2.1.used (commitM d ((f : Int), 52) m l).2.1.dead ∧ SlS s' (.slice pa' 16 pc') 1 16 (strs (pgsOf (commitM d ((f : Int), 52) m l).2.1.pages)) ∧ Holds s' w' R := by
  obtain ⟨e, h, u, ps, dd⟩ := m
  dsimp only at hR hS he hh hu hl
  have hR0 := hR
  obtain ⟨a0, c0, a1, c1, lf, a2, n2, c2, rfl, hD⟩ := hR0
  obtain ⟨va, vc, rfl, _⟩ := formS hcS
  refine enter Tryd.func45 rfl Tryd.ntmps45 rfl ?_
  repeat' (first | refine Z H ?_ | (refine Zc ?_ ?_ <;> intro hc <;> first | (exfalso; omega) | skip) | (refine Y ?_; try change C _ _ _ _ _ _) | (refine Zs H ?_; clear H; (try clear w); intro w H) | (refine Zn H ?_; clear H; (try clear w); (first | ((fail_if_success (have := bl1)); intro bl1 w H) | ((fail_if_success (have := bl2)); intro bl2 w H) | ((fail_if_success (have := bl3)); intro bl3 w H) | intro _ w H)) | (refine Ze H ?_; clear H; (try clear w); intro gv w H))
  cases dd with
  | true =>
    have hcm : commitM d ((f : Int), 52) ⟨e, h, u, ps, true⟩ l = (d, ⟨e, h, u, ps, true⟩, 9) := by unfold commitM; rw [if_pos rfl]
    rw [hcm]
    repeat' (first | refine Z H ?_ | (refine Zc ?_ ?_ <;> intro hc <;> first | (exfalso; omega) | skip) | (refine Y ?_; try change C _ _ _ _ _ _) | (refine Zs H ?_; clear H; (try clear w); intro w H) | (refine Zn H ?_; clear H; (try clear w); (first | ((fail_if_success (have := bl1)); intro bl1 w H) | ((fail_if_success (have := bl2)); intro bl2 w H) | ((fail_if_success (have := bl3)); intro bl3 w H) | intro _ w H)) | (refine Ze H ?_; clear H; (try clear w); intro gv w H))
    exact ⟨_, resVT H rfl, s, _, pa, pc, rfl, Ro.Le.refl _, hR, hS, H.arr⟩
  | false =>
    repeat' (first | refine Z H ?_ | (refine Zc ?_ ?_ <;> intro hc <;> first | (exfalso; omega) | skip) | (refine Y ?_; try change C _ _ _ _ _ _) | (refine Zs H ?_; clear H; (try clear w); intro w H) | (refine Zn H ?_; clear H; (try clear w); (first | ((fail_if_success (have := bl1)); intro bl1 w H) | ((fail_if_success (have := bl2)); intro bl2 w H) | ((fail_if_success (have := bl3)); intro bl3 w H) | intro _ w H)) | (refine Ze H ?_; clear H; (try clear w); intro gv w H))
    (refine X.call (May16_s H hcS hch hn) ?_; (try clear H); rintro _ w ⟨rfl, H⟩; refine ⟨_, rfl, ?_⟩)
    cases hv : validM l with
    | false =>
      have hcm : commitM d ((f : Int), 52) ⟨e, h, u, ps, false⟩ l = (d, ⟨e, h, u, ps, false⟩, 1) := by unfold commitM; rw [if_neg (by simp), if_pos hv]
      rw [hcm]
      repeat' (first | refine Z H ?_ | (refine Zc ?_ ?_ <;> intro hc <;> first | (exfalso; omega) | skip) | (refine Y ?_; try change C _ _ _ _ _ _) | (refine Zs H ?_; clear H; (try clear w); intro w H) | (refine Zn H ?_; clear H; (try clear w); (first | ((fail_if_success (have := bl1)); intro bl1 w H) | ((fail_if_success (have := bl2)); intro bl2 w H) | ((fail_if_success (have := bl3)); intro bl3 w H) | intro _ w H)) | (refine Ze H ?_; clear H; (try clear w); intro gv w H))
      exact ⟨_, resVT H rfl, s, _, pa, pc, rfl, Ro.Le.refl _, hR, hS, H.arr⟩
    | true =>
      obtain ⟨hv16, hok⟩ := validM_ok hv
      by_cases hl0 : l.length = 0
      · have hcm : commitM d ((f : Int), 52) ⟨e, h, u, ps, false⟩ l = (d, ⟨e, h, u, ps, false⟩, 0) := by unfold commitM; rw [if_neg (by simp), if_neg (by rw [hv]; decide), if_pos hl0]
        rw [hcm]
        repeat' (first | refine Z H ?_ | (refine Zc ?_ ?_ <;> intro hc <;> first | (exfalso; omega) | skip) | (refine Y ?_; try change C _ _ _ _ _ _) | (refine Zs H ?_; clear H; (try clear w); intro w H) | (refine Zn H ?_; clear H; (try clear w); (first | ((fail_if_success (have := bl1)); intro bl1 w H) | ((fail_if_success (have := bl2)); intro bl2 w H) | ((fail_if_success (have := bl3)); intro bl3 w H) | intro _ w H)) | (refine Ze H ?_; clear H; (try clear w); intro gv w H))
        exact ⟨_, resVT H rfl, s, _, pa, pc, rfl, Ro.Le.refl _, hR, hS, H.arr⟩
      have hcm0 : commitM d ((f : Int), 52) ⟨e, h, u, ps, false⟩ l = if 18 < u + l.length + 1 then
          (if e = 4294967295 then (d, ⟨e, h, u, ps, false⟩, 5)
          else if (run ((f : Int), 52) (homeSteps (e + 1) (1 - h) ps) d).2 = 0 then recM (run ((f : Int), 52) (homeSteps (e + 1) (1 - h) ps) d).1 ((f : Int), 52) ⟨e + 1, 1 - h, 0, ps, false⟩ l
          else ((run ((f : Int), 52) (homeSteps (e + 1) (1 - h) ps) d).1, ⟨e, h, u, ps, true⟩, (run ((f : Int), 52) (homeSteps (e + 1) (1 - h) ps) d).2))
        else recM d ((f : Int), 52) ⟨e, h, u, ps, false⟩ l := by
        unfold commitM; rw [if_neg (by simp), if_neg (by rw [hv]; decide), if_neg hl0]
      generalize commitM d ((f : Int), 52) ⟨e, h, u, ps, false⟩ l = cm at *
      repeat' (first | ((fail_if_success (with_reducible show C _ _ _ (Code.seq (Code.seq (Code.region 7 _ _) _) _) _ _)); refine Z H ?_) | (refine Zc ?_ ?_ <;> intro hc <;> first | (exfalso; omega) | skip) | (refine Y ?_; try change C _ _ _ _ _ _) | (refine Zs H ?_; clear H; (try clear w); intro w H) | (refine Zn H ?_; clear H; (try clear w); (first | ((fail_if_success (have := bl1)); intro bl1 w H) | ((fail_if_success (have := bl2)); intro bl2 w H) | ((fail_if_success (have := bl3)); intro bl3 w H) | intro _ w H)) | (refine Ze H ?_; clear H; (try clear w); intro gv w H))
      refine C.cut [5, 6, 7, 26, 27, 28, 29, 30, 31, 32, 33, 34, 35, 36, 37, 38, 39, 40, 41, 42, 43, 44, 45, 46, 47, 48, 49, 50, 51, 52, 53, 54, 55, 56, 57, 58, 59, 60, 61, 62] [] rfl (fun vs w => ∃ s1 d1 m1 cs1, s.Le s1 ∧ RefW s1 cs1 d1 f pa 16 pc m1.epoch m1.home m1.used m1.dead ∧ m1.used + l.length + 1 ≤ 18 ∧ m1.epoch < 2 ^ 32 ∧ m1.pages = ps ∧ m1.dead = false ∧ d1.pend.length ≤ 5000 ∧ cm = recM d1 ((f : Int), 52) m1 l ∧ Holds s1 w (var bl1 86 cs1 :: var bl2 86 zlog16 :: R)) ?_ ?_
      · by_cases hfull : 18 < u + l.length + 1
        · rw [if_pos hfull] at hcm0
          by_cases hmax : e = 4294967295
          · rw [if_pos hmax] at hcm0
            rw [hcm0]
            repeat' (first | refine Z H ?_ | (refine Zc ?_ ?_ <;> intro hc <;> first | (exfalso; omega) | skip) | (refine Y ?_; try change C _ _ _ _ _ _) | (refine Zs H ?_; clear H; (try clear w); intro w H) | (refine Zn H ?_; clear H; (try clear w); (first | ((fail_if_success (have := bl1)); intro bl1 w H) | ((fail_if_success (have := bl2)); intro bl2 w H) | ((fail_if_success (have := bl3)); intro bl3 w H) | intro _ w H)) | (refine Ze H ?_; clear H; (try clear w); intro gv w H))
            exact ⟨_, resVT H rfl, s, _, pa, pc, rfl, Ro.Le.refl _, hR, hS, H.arr⟩
          · rw [if_neg hmax] at hcm0
            have we : (e + 1) % 2 ^ 32 = e + 1 := Nat.mod_eq_of_lt (by omega)
            have ehm : (1 : Int) - (h : Int) = ((1 - h : Nat) : Int) := by omega
            rw [homeSteps_wr (pgs := pgsOf ps) (fun i hi => pgsOf_get hi)] at hcm0
            have hpd := run_pendJ ((f : Int), 52) (setSteps [] [] (e + 1) (1 - h) (pgsOf ps)) d
            have hsl : (setSteps [] [] (e + 1) (1 - h) (pgsOf ps)).length = 19 := by simp [setSteps, wrS, homeAts_len, homeLs_len]
            repeat' (first | (refine addW (a := e) (b := 1) ?_; rw [we]) | refine Z H ?_ | (refine Zc ?_ ?_ <;> intro hc <;> first | (exfalso; omega) | skip) | (refine Y ?_; try change C _ _ _ _ _ _) | (refine Zs H ?_; clear H; (try clear w); intro w H) | (refine Zn H ?_; clear H; (try clear w); (first | ((fail_if_success (have := bl1)); intro bl1 w H) | ((fail_if_success (have := bl2)); intro bl2 w H) | ((fail_if_success (have := bl3)); intro bl3 w H) | intro _ w H)) | (refine Ze H ?_; clear H; (try clear w); intro gv w H))
            replace H := (H.nilRow 9 1).nilRow 3 1
            have hSe := settle_s (ats := []) (ls := []) (pgs := pgsOf ps) (e := e + 1) (hme := 1 - h) H hR hS (pgsOf_len ps) (fun p hp => by obtain ⟨i, hi, rfl⟩ := List.mem_map.1 hp; exact getP_len hl (List.mem_range.1 hi)) (by omega) (by omega) rfl (by simp) (by simp) (by simp) hf (by omega)
            generalize run ((f : Int), 52) (setSteps [] [] (e + 1) (1 - h) (pgsOf ps)) d = r1 at *
            obtain ⟨d1, code⟩ := r1
            dsimp only at hSe hcm0 hpd
            rw [ehm]
            (refine X.call (hSe) ?_; (try clear H); rintro _ w ⟨s1, cs', rfl, hs1, hR1, H⟩; refine ⟨_, rfl, ?_⟩)
            clear hSe
            have hR1' := hR1
            obtain ⟨b0, k0, b1, k1, lf', b2, m2, k2, rfl, hD1⟩ := hR1'
            by_cases hc0 : code = 0
            · rw [if_pos hc0] at hcm0
              repeat' (first | refine Z H ?_ | (refine Zc ?_ ?_ <;> intro hc <;> first | (exfalso; omega) | skip) | (refine Y ?_; try change C _ _ _ _ _ _) | (refine Zs H ?_; clear H; (try clear w); intro w H) | (refine Zn H ?_; clear H; (try clear w); (first | ((fail_if_success (have := bl1)); intro bl1 w H) | ((fail_if_success (have := bl2)); intro bl2 w H) | ((fail_if_success (have := bl3)); intro bl3 w H) | intro _ w H)) | (refine Ze H ?_; clear H; (try clear w); intro gv w H))
              refine C.drawn2 [bl1] [0, 4, 0, 0, 1, 0, 0, 2, 0, 3, 0, 3] [8] [0, 1, 3, 0, 8, 24, 7, 71, 255, 511, 1023, 2047] (by kernel_rfl) ?_; replace H := H.drew; simp only [segL, List.take_succ_cons, List.take_zero, List.drop_succ_cons, List.drop_zero]; have H0 := H
              repeat' (first | (refine addW (a := e) (b := 1) ?_; rw [we]) | refine Z H ?_ | (refine Zc ?_ ?_ <;> intro hc <;> first | (exfalso; omega) | skip) | (refine Y ?_; try change C _ _ _ _ _ _) | (refine Zs H ?_; clear H; (try clear w); intro w H) | (refine Zn H ?_; clear H; (try clear w); (first | ((fail_if_success (have := bl1)); intro bl1 w H) | ((fail_if_success (have := bl2)); intro bl2 w H) | ((fail_if_success (have := bl3)); intro bl3 w H) | intro _ w H)) | (refine Ze H ?_; clear H; (try clear w); intro gv w H))
              refine ⟨rfl, rfl, (by repeat (first | exact subN_nil | refine subN_cons (by simp) ?_)), (by first | exact keep_same | (repeat (first | exact keepV H0 H | exact keepP H0 H | exact keep_nil | refine keep_cons ?_ ?_))), ?_⟩; clear H0; have H0 := H
              repeat' (first | refine Z H ?_ | (refine Zc ?_ ?_ <;> intro hc <;> first | (exfalso; omega) | skip) | (refine Y ?_; try change C _ _ _ _ _ _) | (refine Zs H ?_; clear H; (try clear w); intro w H) | (refine Zn H ?_; clear H; (try clear w); (first | ((fail_if_success (have := bl1)); intro bl1 w H) | ((fail_if_success (have := bl2)); intro bl2 w H) | ((fail_if_success (have := bl3)); intro bl3 w H) | intro _ w H)) | (refine Ze H ?_; clear H; (try clear w); intro gv w H))
              rw [ehm] at H
              refine ⟨rfl, rfl, (by repeat (first | exact subN_nil | refine subN_cons (by simp) ?_)), (by first | exact keep_same | (repeat (first | exact keepV H0 H | exact keepP H0 H | exact keep_nil | refine keep_cons ?_ ?_))), ?_⟩; clear H0; have H0 := H
              repeat' (first | refine Z H ?_ | (refine Zc ?_ ?_ <;> intro hc <;> first | (exfalso; omega) | skip) | (refine Y ?_; try change C _ _ _ _ _ _) | (refine Zs H ?_; clear H; (try clear w); intro w H) | (refine Zn H ?_; clear H; (try clear w); (first | ((fail_if_success (have := bl1)); intro bl1 w H) | ((fail_if_success (have := bl2)); intro bl2 w H) | ((fail_if_success (have := bl3)); intro bl3 w H) | intro _ w H)) | (refine Ze H ?_; clear H; (try clear w); intro gv w H))
              exact ⟨by (repeat (first | exact Agr.refl | exact Agr.hav | refine Agr.upd rfl ?_ | refine Agr.in rfl ?_)), s1, d1, ⟨e + 1, 1 - h, 0, ps, false⟩, _, hs1, ⟨b0, k0, b1, k1, lf', b2, m2, k2, rfl, hD1⟩, by dsimp only; omega, by dsimp only; omega, rfl, rfl, by omega, hcm0, H.arr⟩
            · rw [if_neg hc0] at hcm0
              rw [hcm0]
              repeat' (first | refine Z H ?_ | (refine Zc ?_ ?_ <;> intro hc <;> first | (exfalso; omega) | skip) | (refine Y ?_; try change C _ _ _ _ _ _) | (refine Zs H ?_; clear H; (try clear w); intro w H) | (refine Zn H ?_; clear H; (try clear w); (first | ((fail_if_success (have := bl1)); intro bl1 w H) | ((fail_if_success (have := bl2)); intro bl2 w H) | ((fail_if_success (have := bl3)); intro bl3 w H) | intro _ w H)) | (refine Ze H ?_; clear H; (try clear w); intro gv w H))
              exact ⟨_, resVT H rfl, s1, _, pa, pc, rfl, hs1, ⟨b0, k0, b1, k1, lf', b2, m2, k2, rfl, hD1⟩, hS.mono hs1, H.arr⟩
        · rw [if_neg hfull] at hcm0
          repeat' (first | refine Z H ?_ | (refine Zc ?_ ?_ <;> intro hc <;> first | (exfalso; omega) | skip) | (refine Y ?_; try change C _ _ _ _ _ _) | (refine Zs H ?_; clear H; (try clear w); intro w H) | (refine Zn H ?_; clear H; (try clear w); (first | ((fail_if_success (have := bl1)); intro bl1 w H) | ((fail_if_success (have := bl2)); intro bl2 w H) | ((fail_if_success (have := bl3)); intro bl3 w H) | intro _ w H)) | (refine Ze H ?_; clear H; (try clear w); intro gv w H))
          exact ⟨by (repeat (first | exact Agr.refl | exact Agr.hav | refine Agr.upd rfl ?_ | refine Agr.in rfl ?_)), s, d, ⟨e, h, u, ps, false⟩, _, Ro.Le.refl _, hR, by dsimp only; omega, he, rfl, rfl, by omega, hcm0, H.arr⟩
      · clear H hcm0
        rintro vs hv3 w ⟨s1, d1, m1, cs1, hs1, hR1, hu1, he1, hp1, hd1, hpl1, hcm, H⟩
        obtain ⟨e1, h1, u1, ps1, dd1⟩ := m1
        dsimp only at hR1 hu1 he1 hp1 hd1 hcm
        subst hp1
        subst hd1
        obtain ⟨a0, c0, a1, c1, lf, a2, n2, c2, rfl, hD⟩ := hR1
        have hR1 : RefW s1 [.slice a0 d1.secs.length c0, .slice a1 d1.pend.length c1, .bool d1.off, .int .i64 lf, .slice a2 n2 c2, .int .i64 (f : Int), .slice pa 16 pc, .int .u32 (e1 : Int), .int .i64 (h1 : Int), .int .i64 (u1 : Int), .bool false] d1 f pa 16 pc e1 h1 u1 false := ⟨a0, c0, a1, c1, lf, a2, n2, c2, rfl, hD⟩
        rw [hcm]
        unfold recM
        dsimp only
        rw [recSteps_ats, run_app]
        have hpA := run_pendJ ((f : Int), 52) (wrS (recAts u1 l.length) (recLs e1 u1 l) ++ [.f]) d1
        have hlA : (wrS (recAts u1 l.length) (recLs e1 u1 l) ++ [St.f]).length ≤ 20 := by
          rw [List.length_append]
          unfold wrS
          rw [List.length_zipWith, recAts_len, recLs_len]
          simp; omega
        replace H := (H.nilRow 9 1).nilRow 3 1
        repeat' (first | refine Z H ?_ | (refine Zc ?_ ?_ <;> intro hc <;> first | (exfalso; omega) | skip) | (refine Y ?_; try change C _ _ _ _ _ _) | (refine Zs H ?_; clear H; (try clear w); intro w H) | (refine Zn H ?_; clear H; (try clear w); (first | ((fail_if_success (have := bl1)); intro bl1 w H) | ((fail_if_success (have := bl2)); intro bl2 w H) | ((fail_if_success (have := bl3)); intro bl3 w H) | intro _ w H)) | (refine Ze H ?_; clear H; (try clear w); intro gv w H))
        refine C.loopS [8, 9, 10, 63, 64, 65, 66, 67, 68, 69, 70, 71, 72, 73, 74, 75, 76, 77, 78, 79, 80, 81, 82, 83, 84, 85, 86, 87, 88, 89, 90, 91, 92, 93, 94, 95, 96, 97, 98, 99, 100, 101] [8, 9, 10] rfl (fun k vs w => ∃ i : Nat, ∃ s' na ca nb cb, k = l.length - i ∧ i ≤ l.length ∧ vs = [.slice na i ca, .slice nb i cb, .int .i64 (i : Int)] ∧ s1.Le s' ∧ Holds s' w (row 3 1 (.slice na i ca) i (ints (recAts u1 i)) :: row 9 1 (.slice nb i cb) i (strs (recLs e1 u1 (l.take i))) :: var bl1 86 [.slice a0 d1.secs.length c0, .slice a1 d1.pend.length c1, .bool d1.off, .int .i64 lf, .slice a2 n2 c2, .int .i64 (f : Int), .slice pa 16 pc, .int .u32 (e1 : Int), .int .i64 (h1 : Int), .int .i64 (u1 : Int), .bool false] :: var bl2 86 zlog16 :: R)) l.length ⟨0, s1, none, 0, none, 0, rfl, Nat.zero_le _, rfl, Ro.Le.refl _, H⟩ ?_
        clear H
        rintro k vs hv w ⟨i, s2, na, ca, nb, cb, rfl, hi, rfl, hs2, H⟩
        have hs12 := hs1.trans hs2
        by_cases hlt : i < l.length
        · obtain ⟨g, o, c', hsv, _, _, hpin⟩ := posS (hcS.mono hs12) (by omega) (by decide)
          cases hsv
          obtain ⟨q0, dv, q1, hdS⟩ := (hch.mono hs12).at' i hlt
          have hok1 := hok l[i] (List.getElem_mem hlt)
          have hsn := recLs_take (e := e1) (u := u1) hlt
          generalize l[i] = ch at *
          obtain ⟨pg, dat⟩ := ch
          obtain ⟨ok1, ok2, ok3⟩ := hok1
          dsimp only at q0 hdS ok1 ok2 ok3
          obtain ⟨p, rfl⟩ := Int.eq_ofNat_of_zero_le ok1
          have hdS' := hdS
          obtain ⟨da, dc, rfl, _⟩ := hdS'
          have r0 : Pin s2 g (o + i * 2 + 0) (.int .i64 (p : Int)) := hpin _ _ q0
          have r1 : Pin s2 g (o + i * 2 + 1) (.slice da dat.length dc) := hpin _ _ q1
          repeat' (first | refine Z H ?_ | (refine Zc ?_ ?_ <;> intro hc <;> first | (exfalso; omega) | skip) | (refine Y ?_; try change C _ _ _ _ _ _) | (refine Zs H ?_; clear H; (try clear w); intro w H) | (refine Zn H ?_; clear H; (try clear w); (first | ((fail_if_success (have := bl1)); intro bl1 w H) | ((fail_if_success (have := bl2)); intro bl2 w H) | ((fail_if_success (have := bl3)); intro bl3 w H) | intro _ w H)) | (refine Ze H ?_; clear H; (try clear w); intro gv w H))
          refine K.one H rfl rfl (by conv => lhs; whnf) (by rfl) (by rfl) ?_; clear H; (try clear w); intro g1 w H
          repeat' (first | (refine X.app H ?_; clear H; intro a3 c3 w H) | refine Z H ?_ | (refine Zc ?_ ?_ <;> intro hc <;> first | (exfalso; omega) | skip) | (refine Y ?_; try change C _ _ _ _ _ _) | (refine Zs H ?_; clear H; (try clear w); intro w H) | (refine Zn H ?_; clear H; (try clear w); (first | ((fail_if_success (have := bl1)); intro bl1 w H) | ((fail_if_success (have := bl2)); intro bl2 w H) | ((fail_if_success (have := bl3)); intro bl3 w H) | intro _ w H)) | (refine Ze H ?_; clear H; (try clear w); intro gv w H))
          rw [show (34 : Int) + (u1 : Int) + (i : Int) = ((34 + u1 + i : Nat) : Int) by omega] at H
          have ei : (u1 : Int) + (i : Int) = ((u1 + i : Nat) : Int) := by omega
          have hrB : secW 82 e1 (([UInt8.ofNat (u1 + i)] ++ [UInt8.ofNat p]) ++ dat) = recB e1 (u1 + i) ⟨(p : Int), dat⟩ := rfl
          refine C.drawn5 [0, 1, 2, 3, 4, 5, 6, 8, 9, 10, 11, 12, 15, 16, 17, 18, 19, 20, 7, 13, 14, 21, 22, 23, 24, 25] [0, 0, 1, 0, 4, 0, 0, 0, 0, 0, 0, 1, 0, 0, 0, 0, 1, 1, 2, 2, 0, 0, 3, 3, 3, 0] [19, 1, 3, 1, 1] [0, 0, 2, 0, 8, 0, 56, 120, 0, 0, 768, 1792, 3840, 8184, 16376, 0, 0, 98304, 229376, 491520, 1015808, 2097144, 4194302, 8388606, 16777215, 33554431] (by kernel_rfl) ?_; replace H := H.drew; simp only [Reg.pick, List.filterMap_cons, List.filterMap_nil, List.getElem?_toArray, List.getElem?_cons_zero, List.getElem?_cons_succ, segN, List.take_succ_cons, List.take_zero, List.drop_succ_cons, List.drop_zero]
          repeat' (first | (refine K.ia (i := i) rfl rfl rfl rfl rfl (by omega) ?_) | refine Z H ?_ | (refine Zc ?_ ?_ <;> intro hc <;> first | (exfalso; omega) | skip) | (refine Y ?_; try change C _ _ _ _ _ _) | (refine Zs H ?_; clear H; (try clear w); intro w H) | (refine Zn H ?_; clear H; (try clear w); (first | ((fail_if_success (have := bl1)); intro bl1 w H) | ((fail_if_success (have := bl2)); intro bl2 w H) | ((fail_if_success (have := bl3)); intro bl3 w H) | intro _ w H)) | (refine Ze H ?_; clear H; (try clear w); intro gv w H))
          (refine X.call (one_e (n := u1 + i) H (by omega)) ?_; (try clear H); rintro _ w ⟨rfl, ho, H⟩; refine ⟨_, rfl, ?_⟩); refine L.nil ?_; refine ⟨rfl, rfl, (by first | exact fun h => Bool.noConfusion (show false = true from h) | exact fun _ => ext_same | exact fun _ => ext_only (by assumption)), ?_⟩
          clear ho
          repeat' (first | refine Z H ?_ | (refine Zc ?_ ?_ <;> intro hc <;> first | (exfalso; omega) | skip) | (refine Y ?_; try change C _ _ _ _ _ _) | (refine Zs H ?_; clear H; (try clear w); intro w H) | (refine Zn H ?_; clear H; (try clear w); (first | ((fail_if_success (have := bl1)); intro bl1 w H) | ((fail_if_success (have := bl2)); intro bl2 w H) | ((fail_if_success (have := bl3)); intro bl3 w H) | intro _ w H)) | (refine Ze H ?_; clear H; (try clear w); intro gv w H))
          (refine X.call (one_e (n := p) H (by omega)) ?_; (try clear H); rintro _ w ⟨rfl, ho, H⟩; refine ⟨_, rfl, ?_⟩); refine L.nil ?_; refine ⟨rfl, rfl, (by first | exact fun h => Bool.noConfusion (show false = true from h) | exact fun _ => ext_same | exact fun _ => ext_only (by assumption)), ?_⟩
          clear ho
          repeat' (first | (refine J.cat (a := bst [UInt8.ofNat (u1 + i)]) (b := bst [UInt8.ofNat p]) ?_ (hl := by rw [bst_size, bst_size]; simp); rw [bst_app]) | (refine J.cat (a := bst ([UInt8.ofNat (u1 + i)] ++ [UInt8.ofNat p])) (b := bst dat) ?_ (hl := by rw [bst_size, bst_size, ok3]; simp); rw [bst_app]) | refine Z H ?_ | (refine Zc ?_ ?_ <;> intro hc <;> first | (exfalso; omega) | skip) | (refine Y ?_; try change C _ _ _ _ _ _) | (refine Zs H ?_; clear H; (try clear w); intro w H) | (refine Zn H ?_; clear H; (try clear w); (first | ((fail_if_success (have := bl1)); intro bl1 w H) | ((fail_if_success (have := bl2)); intro bl2 w H) | ((fail_if_success (have := bl3)); intro bl3 w H) | intro _ w H)) | (refine Ze H ?_; clear H; (try clear w); intro gv w H))
          (refine X.call (Sector16_s (c := 82) (e := e1) (m := ([UInt8.ofNat (u1 + i)] ++ [UInt8.ofNat p]) ++ dat) H he1 (by simp [ok3])) ?_; (try clear H); rintro _ w ⟨s3, rfl, hs3, H⟩; refine ⟨_, rfl, ?_⟩); refine L.nil ?_; refine ⟨rfl, rfl, (by first | exact fun h => Bool.noConfusion (show false = true from h) | exact fun _ => ext_same | exact fun _ => ext_only (by assumption)), ?_⟩
          rw [hrB]
          refine K.one H rfl rfl (by conv => lhs; whnf) (by rfl) (by rfl) ?_; clear H; (try clear w); intro g1 w H
          refine L.nil ?_; refine ⟨rfl, rfl, (by first | exact fun h => Bool.noConfusion (show false = true from h) | exact fun _ => ext_same | exact fun _ => ext_only (by assumption)), ?_⟩
          refine X.app H ?_
          clear H
          intro a4 c4 w H
          refine L.nil ?_; refine ⟨rfl, rfl, (by first | exact fun h => Bool.noConfusion (show false = true from h) | exact fun _ => ext_same | exact fun _ => ext_only (by assumption)), ?_⟩
          repeat' (first | refine Z H ?_ | (refine Zc ?_ ?_ <;> intro hc <;> first | (exfalso; omega) | skip) | (refine Y ?_; try change C _ _ _ _ _ _) | (refine Zs H ?_; clear H; (try clear w); intro w H) | (refine Zn H ?_; clear H; (try clear w); (first | ((fail_if_success (have := bl1)); intro bl1 w H) | ((fail_if_success (have := bl2)); intro bl2 w H) | ((fail_if_success (have := bl3)); intro bl3 w H) | intro _ w H)) | (refine Ze H ?_; clear H; (try clear w); intro gv w H))
          have H' := H.arr (rs' := row 3 1 (.slice a3 (i + 1) c3) (i + 1) (ints (recAts u1 i) ++ [.int .i64 ((34 + u1 + i : Nat) : Int)]) :: row 9 1 (.slice a4 (i + 1) c4) (i + 1) (strs (recLs e1 u1 (l.take i)) ++ [.string (bst (recB e1 (u1 + i) ⟨(p : Int), dat⟩))]) :: var bl1 86 [.slice a0 d1.secs.length c0, .slice a1 d1.pend.length c1, .bool d1.off, .int .i64 lf, .slice a2 n2 c2, .int .i64 (f : Int), .slice pa 16 pc, .int .u32 (e1 : Int), .int .i64 (h1 : Int), .int .i64 (u1 : Int), .bool false] :: var bl2 86 zlog16 :: R)
          exact ⟨by (repeat (first | exact Agr.refl | exact Agr.hav | refine Agr.upd rfl ?_ | refine Agr.in rfl ?_)), l.length - (i + 1), by omega, i + 1, s3, a3, c3, a4, c4, rfl, by omega, rfl, hs2.trans hs3, by
            rw [hsn, recAts_succ, ints_app, strs_app]
            exact H'⟩
        · have hie : i = l.length := by omega
          subst hie
          rw [List.take_length] at H
          repeat' (first | refine Z H ?_ | (refine Zc ?_ ?_ <;> intro hc <;> first | (exfalso; omega) | skip) | (refine Y ?_; try change C _ _ _ _ _ _) | (refine Zs H ?_; clear H; (try clear w); intro w H) | (refine Zn H ?_; clear H; (try clear w); (first | ((fail_if_success (have := bl1)); intro bl1 w H) | ((fail_if_success (have := bl2)); intro bl2 w H) | ((fail_if_success (have := bl3)); intro bl3 w H) | intro _ w H)) | (refine Ze H ?_; clear H; (try clear w); intro gv w H))
          obtain ⟨s3, hs3, H', hSa⟩ := H.fixRow
          clear H
          obtain ⟨s4, hs4, H, hSb⟩ := H'.fixRow
          clear H'
          have hs14 := hs12.trans (hs3.trans hs4)
          have hs24 := hs2.trans (hs3.trans hs4)
          have hA := all_s (ats := recAts u1 l.length) (ls := recLs e1 u1 l) (tv := .slice na l.length ca) (uv := .slice nb l.length cb) H (hR1.mono hs24) (by rw [recAts_len]; exact hSa.mono hs4) (by rw [recAts_len]; exact hSb) (by rw [recAts_len, recLs_len]) (by rw [recAts_len]; omega) (recAts_lt (by omega)) (recLs_le l u1 hok) hf (by omega)
          generalize run ((f : Int), 52) (wrS (recAts u1 l.length) (recLs e1 u1 l) ++ [.f]) d1 = rA at *
          obtain ⟨d2, code⟩ := rA
          dsimp only at hA hpA ⊢
          (refine X.call (hA) ?_; (try clear H); rintro _ w ⟨s5, cs5, rfl, hs5, hR5, H⟩; refine ⟨_, rfl, ?_⟩)
          clear hA
          have hR5' := hR5
          obtain ⟨b0, k0, b1, k1, lf', b2, m2, k2, rfl, hD5⟩ := hR5'
          have hmB : secW 67 e1 [UInt8.ofNat (u1 + l.length)] = markB e1 (u1 + l.length) := rfl
          have ek : (u1 : Int) + (l.length : Int) = ((u1 + l.length : Nat) : Int) := by omega
          generalize hrB0 : (if code = 0 then run ((f : Int), 52) (wrS [34 + (u1 + l.length)] [markB e1 (u1 + l.length)] ++ [.f]) d2 else (d2, code)) = rB at *
          obtain ⟨dB, cB⟩ := rB
          dsimp only
          repeat' (first | ((fail_if_success (with_reducible show C _ _ _ (Code.seq (Code.seq (Code.region 24 _ _) _) _) _ _)); refine Z H ?_) | (refine Zc ?_ ?_ <;> intro hc <;> first | (exfalso; omega) | skip) | (refine Y ?_; try change C _ _ _ _ _ _) | (refine Zs H ?_; clear H; (try clear w); intro w H) | (refine Zn H ?_; clear H; (try clear w); (first | ((fail_if_success (have := bl1)); intro bl1 w H) | ((fail_if_success (have := bl2)); intro bl2 w H) | ((fail_if_success (have := bl3)); intro bl3 w H) | intro _ w H)) | (refine Ze H ?_; clear H; (try clear w); intro gv w H))
          refine C.cut [12, 13, 109, 110, 111, 112, 113, 114, 115, 116, 117, 118, 119, 120, 121, 122, 123, 124, 125, 126, 127, 128, 129] [12] rfl (fun vs w => ∃ s6 cs6, vs = [.int .i64 cB] ∧ s5.Le s6 ∧ RefW s6 cs6 dB f pa 16 pc e1 h1 u1 false ∧ Holds s6 w (var bl3 86 cs6 :: var bl1 86 [.slice a0 d1.secs.length c0, .slice a1 d1.pend.length c1, .bool d1.off, .int .i64 lf, .slice a2 n2 c2, .int .i64 (f : Int), .slice pa 16 pc, .int .u32 (e1 : Int), .int .i64 (h1 : Int), .int .i64 (u1 : Int), .bool false] :: var bl2 86 zlog16 :: R)) ?_ ?_
          · by_cases hc0 : code = 0
            · have hrB : run ((f : Int), 52) (wrS [34 + (u1 + l.length)] [markB e1 (u1 + l.length)] ++ [.f]) d2 = (dB, cB) := by rw [if_pos hc0] at hrB0; exact hrB0
              repeat' (first | refine Z H ?_ | (refine Zc ?_ ?_ <;> intro hc <;> first | (exfalso; omega) | skip) | (refine Y ?_; try change C _ _ _ _ _ _) | (refine Zs H ?_; clear H; (try clear w); intro w H) | (refine Zn H ?_; clear H; (try clear w); (first | ((fail_if_success (have := bl1)); intro bl1 w H) | ((fail_if_success (have := bl2)); intro bl2 w H) | ((fail_if_success (have := bl3)); intro bl3 w H) | intro _ w H)) | (refine Ze H ?_; clear H; (try clear w); intro gv w H))
              rw [ek]
              have H' : Holds s5 w (var bl3 86 [.slice b0 d2.secs.length k0, .slice b1 d2.pend.length k1, .bool d2.off, .int .i64 lf', .slice b2 m2 k2, .int .i64 (f : Int), .slice pa 16 pc, .int .u32 (e1 : Int), .int .i64 (h1 : Int), .int .i64 (u1 : Int), .bool false] :: var bl1 86 [.slice a0 d1.secs.length c0, .slice a1 d1.pend.length c1, .bool d1.off, .int .i64 lf, .slice a2 n2 c2, .int .i64 (f : Int), .slice pa 16 pc, .int .u32 (e1 : Int), .int .i64 (h1 : Int), .int .i64 (u1 : Int), .bool false] :: var bl2 86 zlog16 :: R) := H
              clear H
              refine C.flowI (comFS [.slice b0 d2.secs.length k0, .slice b1 d2.pend.length k1, .bool d2.off, .int .i64 lf', .slice b2 m2 k2, .int .i64 (f : Int), .slice pa 16 pc, .int .u32 (e1 : Int), .int .i64 (h1 : Int), .int .i64 (u1 : Int), .bool false] bl3 bl1 (u1 + l.length) e1 (markB e1 (u1 + l.length)) dB f pa 16 pc e1 h1 u1 false cB) [12, 13] [1, 2, 3, 4, 5, 6, 7, 8, 9, 10, 11, 12, 13, 14] (R := var bl1 86 [.slice a0 d1.secs.length c0, .slice a1 d1.pend.length c1, .bool d1.off, .int .i64 lf, .slice a2 n2 c2, .int .i64 (f : Int), .slice pa 16 pc, .int .u32 (e1 : Int), .int .i64 (h1 : Int), .int .i64 (u1 : Int), .bool false] :: var bl2 86 zlog16 :: R) H' (by kernel_rfl) rfl rfl ?_ ?_
              · repeat' (first | exact StepsF.nil | refine StepsF.cons ?_ ?_)
                · intro s1 h w E hs1; (conv => whnf); intro H; replace H : Holds s1 w (var bl3 86 [.slice b0 d2.secs.length k0, .slice b1 d2.pend.length k1, .bool d2.off, .int .i64 lf', .slice b2 m2 k2, .int .i64 (f : Int), .slice pa 16 pc, .int .u32 (e1 : Int), .int .i64 (h1 : Int), .int .i64 (u1 : Int), .bool false] :: var bl1 86 [.slice a0 d1.secs.length c0, .slice a1 d1.pend.length c1, .bool d1.off, .int .i64 lf, .slice a2 n2 c2, .int .i64 (f : Int), .slice pa 16 pc, .int .u32 (e1 : Int), .int .i64 (h1 : Int), .int .i64 (u1 : Int), .bool false] :: var bl2 86 zlog16 :: (R ++ E)) := H
                  repeat' (first | refine Z H ?_ | (refine Zc ?_ ?_ <;> intro hc <;> first | (exfalso; omega) | skip) | (refine Y ?_; try change C _ _ _ _ _ _) | (refine Zs H ?_; clear H; (try clear w); intro w H) | (refine Zn H ?_; clear H; (try clear w); (first | ((fail_if_success (have := bl1)); intro bl1 w H) | ((fail_if_success (have := bl2)); intro bl2 w H) | ((fail_if_success (have := bl3)); intro bl3 w H) | intro _ w H)) | (refine Ze H ?_; clear H; (try clear w); intro gv w H))
                  exact ⟨rfl, by (repeat (first | exact Agr.refl | exact Agr.hav | refine Agr.upd rfl ?_ | refine Agr.in rfl ?_)), s1, Ro.Le.refl _, rfl, H⟩
                · intro s1 h w E hs1; (conv => whnf); intro H; replace H : Holds s1 w (var bl1 86 [.slice a0 d1.secs.length c0, .slice a1 d1.pend.length c1, .bool d1.off, .int .i64 lf, .slice a2 n2 c2, .int .i64 (f : Int), .slice pa 16 pc, .int .u32 (e1 : Int), .int .i64 (h1 : Int), .int .i64 (u1 : Int), .bool false] :: var bl2 86 zlog16 :: (R ++ E)) := H
                  repeat' (first | refine Z H ?_ | (refine Zc ?_ ?_ <;> intro hc <;> first | (exfalso; omega) | skip) | (refine Y ?_; try change C _ _ _ _ _ _) | (refine Zs H ?_; clear H; (try clear w); intro w H) | (refine Zn H ?_; clear H; (try clear w); (first | ((fail_if_success (have := bl1)); intro bl1 w H) | ((fail_if_success (have := bl2)); intro bl2 w H) | ((fail_if_success (have := bl3)); intro bl3 w H) | intro _ w H)) | (refine Ze H ?_; clear H; (try clear w); intro gv w H))
                  exact ⟨rfl, by (repeat (first | exact Agr.refl | exact Agr.hav | refine Agr.upd rfl ?_ | refine Agr.in rfl ?_)), s1, Ro.Le.refl _, rfl, H⟩
                · intro s1 h w E hs1; (conv => whnf); rintro _ rfl; (conv => whnf); intro H; replace H : Holds s1 w (var bl1 86 [.slice a0 d1.secs.length c0, .slice a1 d1.pend.length c1, .bool d1.off, .int .i64 lf, .slice a2 n2 c2, .int .i64 (f : Int), .slice pa 16 pc, .int .u32 (e1 : Int), .int .i64 (h1 : Int), .int .i64 (u1 : Int), .bool false] :: var bl2 86 zlog16 :: (R ++ E)) := H
                  repeat' (first | refine Z H ?_ | (refine Zc ?_ ?_ <;> intro hc <;> first | (exfalso; omega) | skip) | (refine Y ?_; try change C _ _ _ _ _ _) | (refine Zs H ?_; clear H; (try clear w); intro w H) | (refine Zn H ?_; clear H; (try clear w); (first | ((fail_if_success (have := bl1)); intro bl1 w H) | ((fail_if_success (have := bl2)); intro bl2 w H) | ((fail_if_success (have := bl3)); intro bl3 w H) | intro _ w H)) | (refine Ze H ?_; clear H; (try clear w); intro gv w H))
                  rw [show (34 : Int) + ((u1 + l.length : Nat) : Int) = ((34 + (u1 + l.length) : Nat) : Int) by omega]
                  exact ⟨rfl, by (repeat (first | exact Agr.refl | exact Agr.hav | refine Agr.upd rfl ?_ | refine Agr.in rfl ?_)), s1, Ro.Le.refl _, rfl, H⟩
                · intro s1 h w E hs1; (conv => whnf); rintro _ rfl; (conv => whnf); intro H; replace H : Holds s1 w (var bl1 86 [.slice a0 d1.secs.length c0, .slice a1 d1.pend.length c1, .bool d1.off, .int .i64 lf, .slice a2 n2 c2, .int .i64 (f : Int), .slice pa 16 pc, .int .u32 (e1 : Int), .int .i64 (h1 : Int), .int .i64 (u1 : Int), .bool false] :: var bl2 86 zlog16 :: (R ++ E)) := H
                  refine K.one H rfl rfl (by conv => lhs; whnf) (by rfl) (by rfl) ?_; clear H; (try clear w); intro g1 w H
                  obtain ⟨s2, hs2, H, hS⟩ := H.fixRow
                  repeat' (first | refine Z H ?_ | (refine Zc ?_ ?_ <;> intro hc <;> first | (exfalso; omega) | skip) | (refine Y ?_; try change C _ _ _ _ _ _) | (refine Zs H ?_; clear H; (try clear w); intro w H) | (refine Zn H ?_; clear H; (try clear w); (first | ((fail_if_success (have := bl1)); intro bl1 w H) | ((fail_if_success (have := bl2)); intro bl2 w H) | ((fail_if_success (have := bl3)); intro bl3 w H) | intro _ w H)) | (refine Ze H ?_; clear H; (try clear w); intro gv w H))
                  exact ⟨rfl, by (repeat (first | exact Agr.refl | exact Agr.hav | refine Agr.upd rfl ?_ | refine Agr.in rfl ?_)), s2, hs2, ⟨_, _, rfl, hS⟩, H⟩
                · intro s1 h w E hs1; (conv => whnf); intro H; replace H : Holds s1 w (var bl1 86 [.slice a0 d1.secs.length c0, .slice a1 d1.pend.length c1, .bool d1.off, .int .i64 lf, .slice a2 n2 c2, .int .i64 (f : Int), .slice pa 16 pc, .int .u32 (e1 : Int), .int .i64 (h1 : Int), .int .i64 (u1 : Int), .bool false] :: var bl2 86 zlog16 :: (R ++ E)) := H
                  repeat' (first | refine Z H ?_ | (refine Zc ?_ ?_ <;> intro hc <;> first | (exfalso; omega) | skip) | (refine Y ?_; try change C _ _ _ _ _ _) | (refine Zs H ?_; clear H; (try clear w); intro w H) | (refine Zn H ?_; clear H; (try clear w); (first | ((fail_if_success (have := bl1)); intro bl1 w H) | ((fail_if_success (have := bl2)); intro bl2 w H) | ((fail_if_success (have := bl3)); intro bl3 w H) | intro _ w H)) | (refine Ze H ?_; clear H; (try clear w); intro gv w H))
                  exact ⟨rfl, by (repeat (first | exact Agr.refl | exact Agr.hav | refine Agr.upd rfl ?_ | refine Agr.in rfl ?_)), s1, Ro.Le.refl _, rfl, H⟩
                · intro s1 h w E hs1; (conv => whnf); rintro _ rfl; (conv => whnf); intro H; replace H : Holds s1 w (var bl1 86 [.slice a0 d1.secs.length c0, .slice a1 d1.pend.length c1, .bool d1.off, .int .i64 lf, .slice a2 n2 c2, .int .i64 (f : Int), .slice pa 16 pc, .int .u32 (e1 : Int), .int .i64 (h1 : Int), .int .i64 (u1 : Int), .bool false] :: var bl2 86 zlog16 :: (R ++ E)) := H
                  repeat' (first | refine Z H ?_ | (refine Zc ?_ ?_ <;> intro hc <;> first | (exfalso; omega) | skip) | (refine Y ?_; try change C _ _ _ _ _ _) | (refine Zs H ?_; clear H; (try clear w); intro w H) | (refine Zn H ?_; clear H; (try clear w); (first | ((fail_if_success (have := bl1)); intro bl1 w H) | ((fail_if_success (have := bl2)); intro bl2 w H) | ((fail_if_success (have := bl3)); intro bl3 w H) | intro _ w H)) | (refine Ze H ?_; clear H; (try clear w); intro gv w H))
                  exact ⟨rfl, by (repeat (first | exact Agr.refl | exact Agr.hav | refine Agr.upd rfl ?_ | refine Agr.in rfl ?_)), s1, Ro.Le.refl _, rfl, H⟩
                · intro s1 h w E hs1; (conv => whnf); intro H; replace H : Holds s1 w (var bl1 86 [.slice a0 d1.secs.length c0, .slice a1 d1.pend.length c1, .bool d1.off, .int .i64 lf, .slice a2 n2 c2, .int .i64 (f : Int), .slice pa 16 pc, .int .u32 (e1 : Int), .int .i64 (h1 : Int), .int .i64 (u1 : Int), .bool false] :: var bl2 86 zlog16 :: (R ++ E)) := H
                  repeat' (first | refine Z H ?_ | (refine Zc ?_ ?_ <;> intro hc <;> first | (exfalso; omega) | skip) | (refine Y ?_; try change C _ _ _ _ _ _) | (refine Zs H ?_; clear H; (try clear w); intro w H) | (refine Zn H ?_; clear H; (try clear w); (first | ((fail_if_success (have := bl1)); intro bl1 w H) | ((fail_if_success (have := bl2)); intro bl2 w H) | ((fail_if_success (have := bl3)); intro bl3 w H) | intro _ w H)) | (refine Ze H ?_; clear H; (try clear w); intro gv w H))
                  exact ⟨rfl, by (repeat (first | exact Agr.refl | exact Agr.hav | refine Agr.upd rfl ?_ | refine Agr.in rfl ?_)), s1, Ro.Le.refl _, rfl, H⟩
                · intro s1 h w E hs1; (conv => whnf); rintro _ rfl; (conv => whnf); intro H; replace H : Holds s1 w (var bl1 86 [.slice a0 d1.secs.length c0, .slice a1 d1.pend.length c1, .bool d1.off, .int .i64 lf, .slice a2 n2 c2, .int .i64 (f : Int), .slice pa 16 pc, .int .u32 (e1 : Int), .int .i64 (h1 : Int), .int .i64 (u1 : Int), .bool false] :: var bl2 86 zlog16 :: (R ++ E)) := H
                  (refine X.call (one_s (n := u1 + l.length) H (by omega)) ?_; (try clear H); rintro _ w ⟨rfl, H⟩; refine ⟨_, rfl, ?_⟩)
                  repeat' (first | refine Z H ?_ | (refine Zc ?_ ?_ <;> intro hc <;> first | (exfalso; omega) | skip) | (refine Y ?_; try change C _ _ _ _ _ _) | (refine Zs H ?_; clear H; (try clear w); intro w H) | (refine Zn H ?_; clear H; (try clear w); (first | ((fail_if_success (have := bl1)); intro bl1 w H) | ((fail_if_success (have := bl2)); intro bl2 w H) | ((fail_if_success (have := bl3)); intro bl3 w H) | intro _ w H)) | (refine Ze H ?_; clear H; (try clear w); intro gv w H))
                  exact ⟨rfl, by (repeat (first | exact Agr.refl | exact Agr.hav | refine Agr.upd rfl ?_ | refine Agr.in rfl ?_)), s1, Ro.Le.refl _, rfl, H⟩
                · intro s1 h w E hs1; (conv => whnf); rintro _ rfl; (conv => whnf); rintro _ rfl; (conv => whnf); intro H; replace H : Holds s1 w (var bl1 86 [.slice a0 d1.secs.length c0, .slice a1 d1.pend.length c1, .bool d1.off, .int .i64 lf, .slice a2 n2 c2, .int .i64 (f : Int), .slice pa 16 pc, .int .u32 (e1 : Int), .int .i64 (h1 : Int), .int .i64 (u1 : Int), .bool false] :: var bl2 86 zlog16 :: (R ++ E)) := H
                  (refine X.call (Sector16_s (c := 67) (e := e1) (m := [UInt8.ofNat (u1 + l.length)]) H he1 (by simp)) ?_; (try clear H); rintro _ w ⟨s2, rfl, hs2, H⟩; refine ⟨_, rfl, ?_⟩)
                  rw [hmB]
                  repeat' (first | refine Z H ?_ | (refine Zc ?_ ?_ <;> intro hc <;> first | (exfalso; omega) | skip) | (refine Y ?_; try change C _ _ _ _ _ _) | (refine Zs H ?_; clear H; (try clear w); intro w H) | (refine Zn H ?_; clear H; (try clear w); (first | ((fail_if_success (have := bl1)); intro bl1 w H) | ((fail_if_success (have := bl2)); intro bl2 w H) | ((fail_if_success (have := bl3)); intro bl3 w H) | intro _ w H)) | (refine Ze H ?_; clear H; (try clear w); intro gv w H))
                  exact ⟨rfl, by (repeat (first | exact Agr.refl | exact Agr.hav | refine Agr.upd rfl ?_ | refine Agr.in rfl ?_)), s2, hs2, rfl, H⟩
                · intro s1 h w E hs1; (conv => whnf); rintro _ rfl; (conv => whnf); intro H; replace H : Holds s1 w (var bl1 86 [.slice a0 d1.secs.length c0, .slice a1 d1.pend.length c1, .bool d1.off, .int .i64 lf, .slice a2 n2 c2, .int .i64 (f : Int), .slice pa 16 pc, .int .u32 (e1 : Int), .int .i64 (h1 : Int), .int .i64 (u1 : Int), .bool false] :: var bl2 86 zlog16 :: (R ++ E)) := H
                  refine K.one H rfl rfl (by conv => lhs; whnf) (by rfl) (by rfl) ?_; clear H; (try clear w); intro g1 w H
                  obtain ⟨s2, hs2, H, hS⟩ := H.fixRow
                  repeat' (first | refine Z H ?_ | (refine Zc ?_ ?_ <;> intro hc <;> first | (exfalso; omega) | skip) | (refine Y ?_; try change C _ _ _ _ _ _) | (refine Zs H ?_; clear H; (try clear w); intro w H) | (refine Zn H ?_; clear H; (try clear w); (first | ((fail_if_success (have := bl1)); intro bl1 w H) | ((fail_if_success (have := bl2)); intro bl2 w H) | ((fail_if_success (have := bl3)); intro bl3 w H) | intro _ w H)) | (refine Ze H ?_; clear H; (try clear w); intro gv w H))
                  exact ⟨rfl, by (repeat (first | exact Agr.refl | exact Agr.hav | refine Agr.upd rfl ?_ | refine Agr.in rfl ?_)), s2, hs2, ⟨_, _, rfl, hS⟩, H⟩
                · intro s1 h w E hs1; (conv => whnf); rintro _ rfl; (conv => whnf); rintro _ ⟨a7, c7, rfl, hSc⟩; (conv => whnf); rintro _ ⟨a8, c8, rfl, hSd⟩; (conv => whnf); intro H; replace H : Holds s1 w (var bl1 86 [.slice a0 d1.secs.length c0, .slice a1 d1.pend.length c1, .bool d1.off, .int .i64 lf, .slice a2 n2 c2, .int .i64 (f : Int), .slice pa 16 pc, .int .u32 (e1 : Int), .int .i64 (h1 : Int), .int .i64 (u1 : Int), .bool false] :: var bl2 86 zlog16 :: (R ++ E)) := H
                  have hB := all_s (ats := [34 + (u1 + l.length)]) (ls := [markB e1 (u1 + l.length)]) H (hR5.mono hs1) hSc hSd rfl (by simp) (by simp; omega) (by simp [markB, secW_len]) hf (by omega)
                  rw [hrB] at hB
                  (refine X.call (hB) ?_; (try clear H); rintro _ w ⟨s2, cs3, rfl, hs2, hR3, H⟩; refine ⟨_, rfl, ?_⟩)
                  repeat' (first | refine Z H ?_ | (refine Zc ?_ ?_ <;> intro hc <;> first | (exfalso; omega) | skip) | (refine Y ?_; try change C _ _ _ _ _ _) | (refine Zs H ?_; clear H; (try clear w); intro w H) | (refine Zn H ?_; clear H; (try clear w); (first | ((fail_if_success (have := bl1)); intro bl1 w H) | ((fail_if_success (have := bl2)); intro bl2 w H) | ((fail_if_success (have := bl3)); intro bl3 w H) | intro _ w H)) | (refine Ze H ?_; clear H; (try clear w); intro gv w H))
                  exact ⟨rfl, by (repeat (first | exact Agr.refl | exact Agr.hav | refine Agr.upd rfl ?_ | refine Agr.in rfl ?_)), s2, hs2, ⟨cs3, rfl, hR3⟩, H⟩
                · intro s1 h w E hs1; (conv => whnf); rintro _ ⟨cs3, rfl, hR3⟩; (conv => whnf); intro H; replace H : Holds s1 w (var bl1 86 [.slice a0 d1.secs.length c0, .slice a1 d1.pend.length c1, .bool d1.off, .int .i64 lf, .slice a2 n2 c2, .int .i64 (f : Int), .slice pa 16 pc, .int .u32 (e1 : Int), .int .i64 (h1 : Int), .int .i64 (u1 : Int), .bool false] :: var bl2 86 zlog16 :: (R ++ E)) := H
                  repeat' (first | refine Z H ?_ | (refine Zc ?_ ?_ <;> intro hc <;> first | (exfalso; omega) | skip) | (refine Y ?_; try change C _ _ _ _ _ _) | (refine Zs H ?_; clear H; (try clear w); intro w H) | (refine Zn H ?_; clear H; (try clear w); (first | ((fail_if_success (have := bl1)); intro bl1 w H) | ((fail_if_success (have := bl2)); intro bl2 w H) | ((fail_if_success (have := bl3)); intro bl3 w H) | intro _ w H)) | (refine Ze H ?_; clear H; (try clear w); intro gv w H))
                  exact ⟨rfl, by (repeat (first | exact Agr.refl | exact Agr.hav | refine Agr.upd rfl ?_ | refine Agr.in rfl ?_)), s1, Ro.Le.refl _, ⟨cs3, rfl, hR3⟩, H⟩
                · intro s1 h w E hs1; (conv => whnf); rintro _ ⟨cs3, rfl, hR3⟩; (conv => whnf); intro H; replace H : Holds s1 w (var bl1 86 [.slice a0 d1.secs.length c0, .slice a1 d1.pend.length c1, .bool d1.off, .int .i64 lf, .slice a2 n2 c2, .int .i64 (f : Int), .slice pa 16 pc, .int .u32 (e1 : Int), .int .i64 (h1 : Int), .int .i64 (u1 : Int), .bool false] :: var bl2 86 zlog16 :: (R ++ E)) := H
                  repeat' (first | refine Z H ?_ | (refine Zc ?_ ?_ <;> intro hc <;> first | (exfalso; omega) | skip) | (refine Y ?_; try change C _ _ _ _ _ _) | (refine Zs H ?_; clear H; (try clear w); intro w H) | (refine Zn H ?_; clear H; (try clear w); (first | ((fail_if_success (have := bl1)); intro bl1 w H) | ((fail_if_success (have := bl2)); intro bl2 w H) | ((fail_if_success (have := bl3)); intro bl3 w H) | intro _ w H)) | (refine Ze H ?_; clear H; (try clear w); intro gv w H))
                  exact ⟨rfl, by (repeat (first | exact Agr.refl | exact Agr.hav | refine Agr.upd rfl ?_ | refine Agr.in rfl ?_)), s1, Ro.Le.refl _, ⟨cs3, rfl, hR3⟩, H⟩
                · intro s1 h w E hs1; (conv => whnf); rintro _ ⟨cs3, rfl, hR3⟩; (conv => whnf); intro H; replace H : Holds s1 w (var bl1 86 [.slice a0 d1.secs.length c0, .slice a1 d1.pend.length c1, .bool d1.off, .int .i64 lf, .slice a2 n2 c2, .int .i64 (f : Int), .slice pa 16 pc, .int .u32 (e1 : Int), .int .i64 (h1 : Int), .int .i64 (u1 : Int), .bool false] :: var bl2 86 zlog16 :: (R ++ E)) := H
                  repeat' (first | refine Z H ?_ | (refine Zc ?_ ?_ <;> intro hc <;> first | (exfalso; omega) | skip) | (refine Y ?_; try change C _ _ _ _ _ _) | (refine Zs H ?_; clear H; (try clear w); intro w H) | (refine Zn H ?_; clear H; (try clear w); (first | ((fail_if_success (have := bl1)); intro bl1 w H) | ((fail_if_success (have := bl2)); intro bl2 w H) | ((fail_if_success (have := bl3)); intro bl3 w H) | intro _ w H)) | (refine Ze H ?_; clear H; (try clear w); intro gv w H))
                  exact ⟨rfl, by (repeat (first | exact Agr.refl | exact Agr.hav | refine Agr.upd rfl ?_ | refine Agr.in rfl ?_)), s1, Ro.Le.refl _, rfl, H⟩
                · intro s1 h w E hs1; (conv => whnf); rintro _ ⟨cs3, rfl, hR3⟩; (conv => whnf); intro H; replace H : Holds s1 w (var bl3 86 [.slice b0 d2.secs.length k0, .slice b1 d2.pend.length k1, .bool d2.off, .int .i64 lf', .slice b2 m2 k2, .int .i64 (f : Int), .slice pa 16 pc, .int .u32 (e1 : Int), .int .i64 (h1 : Int), .int .i64 (u1 : Int), .bool false] :: var bl1 86 [.slice a0 d1.secs.length c0, .slice a1 d1.pend.length c1, .bool d1.off, .int .i64 lf, .slice a2 n2 c2, .int .i64 (f : Int), .slice pa 16 pc, .int .u32 (e1 : Int), .int .i64 (h1 : Int), .int .i64 (u1 : Int), .bool false] :: var bl2 86 zlog16 :: (R ++ E)) := H
                  obtain ⟨z0, t0, z1, t1, lf3, z2, m4, t2, rfl, hD3⟩ := hR3
                  repeat' (first | refine Z H ?_ | (refine Zc ?_ ?_ <;> intro hc <;> first | (exfalso; omega) | skip) | (refine Y ?_; try change C _ _ _ _ _ _) | (refine Zs H ?_; clear H; (try clear w); intro w H) | (refine Zn H ?_; clear H; (try clear w); (first | ((fail_if_success (have := bl1)); intro bl1 w H) | ((fail_if_success (have := bl2)); intro bl2 w H) | ((fail_if_success (have := bl3)); intro bl3 w H) | intro _ w H)) | (refine Ze H ?_; clear H; (try clear w); intro gv w H))
                  exact ⟨rfl, by (repeat (first | exact Agr.refl | exact Agr.hav | refine Agr.upd rfl ?_ | refine Agr.in rfl ?_)), s1, Ro.Le.refl _, ⟨_, rfl⟩, H⟩
              · intro s6 h' w hs6; (conv => whnf)
                rintro v1 ⟨cs3, rfl, hR3⟩; (conv => whnf)
                rintro _ rfl; (conv => whnf)
                intro H
                replace H : Holds s6 w (var bl3 86 cs3 :: var bl1 86 [.slice a0 d1.secs.length c0, .slice a1 d1.pend.length c1, .bool d1.off, .int .i64 lf, .slice a2 n2 c2, .int .i64 (f : Int), .slice pa 16 pc, .int .u32 (e1 : Int), .int .i64 (h1 : Int), .int .i64 (u1 : Int), .bool false] :: var bl2 86 zlog16 :: R) := H
                change L _ _ _ _ [_] _ _
                repeat' (first | refine Z H ?_ | (refine Zc ?_ ?_ <;> intro hc <;> first | (exfalso; omega) | skip) | (refine Y ?_; try change C _ _ _ _ _ _) | (refine Zs H ?_; clear H; (try clear w); intro w H) | (refine Zn H ?_; clear H; (try clear w); (first | ((fail_if_success (have := bl1)); intro bl1 w H) | ((fail_if_success (have := bl2)); intro bl2 w H) | ((fail_if_success (have := bl3)); intro bl3 w H) | intro _ w H)) | (refine Ze H ?_; clear H; (try clear w); intro gv w H))
                refine ⟨rfl, ?_⟩
                change _ ∧ _
                exact ⟨by (repeat (first | exact Agr.refl | exact Agr.hav | refine Agr.upd rfl ?_ | refine Agr.in rfl ?_)), s6, _, rfl, hs6, hR3, H⟩
            · rw [if_neg hc0] at hrB0
              cases hrB0
              repeat' (first | refine Z H ?_ | (refine Zc ?_ ?_ <;> intro hc <;> first | (exfalso; omega) | skip) | (refine Y ?_; try change C _ _ _ _ _ _) | (refine Zs H ?_; clear H; (try clear w); intro w H) | (refine Zn H ?_; clear H; (try clear w); (first | ((fail_if_success (have := bl1)); intro bl1 w H) | ((fail_if_success (have := bl2)); intro bl2 w H) | ((fail_if_success (have := bl3)); intro bl3 w H) | intro _ w H)) | (refine Ze H ?_; clear H; (try clear w); intro gv w H))
              exact ⟨by (repeat (first | exact Agr.refl | exact Agr.hav | refine Agr.upd rfl ?_ | refine Agr.in rfl ?_)), s5, _, rfl, Ro.Le.refl _, hR5, H⟩
          · clear H
            rintro vs hv5 w ⟨s6, cs6, rfl, hs6, hR6, H⟩
            have hs16 := hs14.trans (hs5.trans hs6)
            have hS6 := hS.mono hs16
            obtain ⟨g0, q0, g1, q1, lf6, g2, m6, q2, rfl, hD6⟩ := hR6
            by_cases hcB : cB = 0
            · subst hcB
              rw [if_pos rfl]
              have hcS6 := hcS.mono hs16
              have hch6 := hch.mono hs16
              repeat' (first | (refine X.app H ?_ (h1 := strs_one _); clear H; intro a7 c7 w H) | refine Z H ?_ | (refine Zc ?_ ?_ <;> intro hc <;> first | (exfalso; omega) | skip) | (refine Y ?_; try change C _ _ _ _ _ _) | (refine Zs H ?_; clear H; (try clear w); intro w H) | (refine Zn H ?_; clear H; (try clear w); (first | ((fail_if_success (have := bl1)); intro bl1 w H) | ((fail_if_success (have := bl2)); intro bl2 w H) | ((fail_if_success (have := bl3)); intro bl3 w H) | intro _ w H)) | (refine Ze H ?_; clear H; (try clear w); intro gv w H))
              have H' : Holds s6 w (row 9 1 (.slice a7 16 c7) 16 (strs (pgsOf (applyL ps1 (l.take 0)))) :: var bl3 86 [.slice g0 dB.secs.length q0, .slice g1 dB.pend.length q1, .bool dB.off, .int .i64 lf6, .slice g2 m6 q2, .int .i64 (f : Int), .slice a7 16 c7, .int .u32 (e1 : Int), .int .i64 (h1 : Int), .int .i64 (u1 : Int), .bool false] :: var bl1 86 [.slice a0 d1.secs.length c0, .slice a1 d1.pend.length c1, .bool d1.off, .int .i64 lf, .slice a2 n2 c2, .int .i64 (f : Int), .slice pa 16 pc, .int .u32 (e1 : Int), .int .i64 (h1 : Int), .int .i64 (u1 : Int), .bool false] :: var bl2 86 zlog16 :: R) := H
              clear H
              obtain ⟨ga, rfl, _⟩ := H'.form (i := 0) rfl (by decide)
              refine C.loopS [14, 140, 141, 142, 143, 144, 145, 146, 147, 148, 149, 150, 151, 152, 153, 154, 155, 156, 157, 158, 159] [14] rfl (fun k vs w => ∃ i : Nat, k = l.length - i ∧ i ≤ l.length ∧ vs = [.int .i64 (i : Int)] ∧ Holds s6 w (row 9 1 (.slice (some ⟨ga, 0, none⟩) 16 c7) 16 (strs (pgsOf (applyL ps1 (l.take i)))) :: var bl3 86 [.slice g0 dB.secs.length q0, .slice g1 dB.pend.length q1, .bool dB.off, .int .i64 lf6, .slice g2 m6 q2, .int .i64 (f : Int), .slice (some ⟨ga, 0, none⟩) 16 c7, .int .u32 (e1 : Int), .int .i64 (h1 : Int), .int .i64 (u1 : Int), .bool false] :: var bl1 86 [.slice a0 d1.secs.length c0, .slice a1 d1.pend.length c1, .bool d1.off, .int .i64 lf, .slice a2 n2 c2, .int .i64 (f : Int), .slice pa 16 pc, .int .u32 (e1 : Int), .int .i64 (h1 : Int), .int .i64 (u1 : Int), .bool false] :: var bl2 86 zlog16 :: R)) l.length ⟨0, rfl, Nat.zero_le _, rfl, H'⟩ ?_
              clear H'
              rintro k vs hv w ⟨i, rfl, hi, rfl, H⟩
              by_cases hlt : i < l.length
              · obtain ⟨g, o, c', hsv, _, _, hpin⟩ := posS hcS6 (by omega) (by decide)
                cases hsv
                obtain ⟨r0, dv, r1, hdS⟩ := hch6.at' i hlt
                have hok1 := hok l[i] (List.getElem_mem hlt)
                have hap := applyL_take (ps := ps1) hlt
                have hal : (applyL ps1 (l.take i)).length = 640 := applyL_len (fun c hc => hok c (List.mem_of_mem_take hc)) hl
                generalize l[i] = ch at *
                obtain ⟨pg, dat⟩ := ch
                obtain ⟨ok1, ok2, ok3⟩ := hok1
                dsimp only at r0 hdS ok1 ok2 ok3 hap
                obtain ⟨p, rfl⟩ := Int.eq_ofNat_of_zero_le ok1
                have hdS' := hdS
                obtain ⟨da, dc, rfl, _⟩ := hdS'
                have t0 : Pin s6 g (o + i * 2 + 0) (.int .i64 (p : Int)) := hpin _ _ r0
                have t1 : Pin s6 g (o + i * 2 + 1) (.slice da dat.length dc) := hpin _ _ r1
                generalize applyL ps1 (l.take i) = qs at *
                have hln : 0 + p * 1 < (strs (pgsOf qs)).length := by simp [strs, pgsOf_len]; omega
                repeat' (first | refine Z H ?_ | (refine Zc ?_ ?_ <;> intro hc <;> first | (exfalso; omega) | skip) | (refine Y ?_; try change C _ _ _ _ _ _) | (refine Zs H ?_; clear H; (try clear w); intro w H) | (refine Zn H ?_; clear H; (try clear w); (first | ((fail_if_success (have := bl1)); intro bl1 w H) | ((fail_if_success (have := bl2)); intro bl2 w H) | ((fail_if_success (have := bl3)); intro bl3 w H) | intro _ w H)) | (refine Ze H ?_; clear H; (try clear w); intro gv w H))
                refine C.drawn1 [0, 1, 0, 0, 0, 0, 1, 0, 0, 0, 0, 1, 1, 0, 3] [0, 1, 0, 0, 12, 28, 60, 0, 0, 384, 896, 1920, 3968, 8191, 16383] (by kernel_rfl) ?_; replace H := H.drew
                repeat' (first | (refine K.ia (i := i) rfl rfl rfl rfl rfl (by omega) ?_) | (refine K.ia (i := p) rfl rfl rfl rfl rfl (by omega) ?_) | refine Z H ?_ | (refine Zc ?_ ?_ <;> intro hc <;> first | (exfalso; omega) | skip) | (refine Y ?_; try change C _ _ _ _ _ _) | (refine Zs H ?_; clear H; (try clear w); intro w H) | (refine Zn H ?_; clear H; (try clear w); (first | ((fail_if_success (have := bl1)); intro bl1 w H) | ((fail_if_success (have := bl2)); intro bl2 w H) | ((fail_if_success (have := bl3)); intro bl3 w H) | intro _ w H)) | (refine Ze H ?_; clear H; (try clear w); intro gv w H))
                rw [show 0 + p * 1 = p by omega, show (⟨dat.toArray⟩ : ByteArray) = bst dat from rfl, strs_set, ← pgsOf_set hal ok3 (by omega)] at H
                exact ⟨by (repeat (first | exact Agr.refl | exact Agr.hav | refine Agr.upd rfl ?_ | refine Agr.in rfl ?_)), l.length - (i + 1), by omega, i + 1, rfl, by omega, rfl, by rw [hap, Int.toNat_natCast]; exact H⟩
              · have hie : i = l.length := by omega
                subst hie
                rw [List.take_length] at H
                repeat' (first | refine Z H ?_ | (refine Zc ?_ ?_ <;> intro hc <;> first | (exfalso; omega) | skip) | (refine Y ?_; try change C _ _ _ _ _ _) | (refine Zs H ?_; clear H; (try clear w); intro w H) | (refine Zn H ?_; clear H; (try clear w); (first | ((fail_if_success (have := bl1)); intro bl1 w H) | ((fail_if_success (have := bl2)); intro bl2 w H) | ((fail_if_success (have := bl3)); intro bl3 w H) | intro _ w H)) | (refine Ze H ?_; clear H; (try clear w); intro gv w H))
                have eu : (u1 : Int) + (l.length : Int) + 1 = ((u1 + l.length + 1 : Nat) : Int) := by omega
                rw [eu] at H
                obtain ⟨s7, hs7, H7, hS7⟩ := H.fixRow
                clear H
                have H := H7
                clear H7
                first | (have hT : Holds _ _ (var bl2 _ _ :: _) := H; clear hT) | (replace H := H.up 1 rfl; (try simp only [List.set_cons_zero, List.set_cons_succ, List.eraseIdx_cons_zero, List.eraseIdx_cons_succ] at H); have hT : Holds _ _ (var bl2 _ _ :: _) := H; clear hT) | (replace H := H.up 2 rfl; (try simp only [List.set_cons_zero, List.set_cons_succ, List.eraseIdx_cons_zero, List.eraseIdx_cons_succ] at H); have hT : Holds _ _ (var bl2 _ _ :: _) := H; clear hT) | (replace H := H.up 3 rfl; (try simp only [List.set_cons_zero, List.set_cons_succ, List.eraseIdx_cons_zero, List.eraseIdx_cons_succ] at H); have hT : Holds _ _ (var bl2 _ _ :: _) := H; clear hT) | (replace H := H.up 4 rfl; (try simp only [List.set_cons_zero, List.set_cons_succ, List.eraseIdx_cons_zero, List.eraseIdx_cons_succ] at H); have hT : Holds _ _ (var bl2 _ _ :: _) := H; clear hT) | (replace H := H.up 5 rfl; (try simp only [List.set_cons_zero, List.set_cons_succ, List.eraseIdx_cons_zero, List.eraseIdx_cons_succ] at H); have hT : Holds _ _ (var bl2 _ _ :: _) := H; clear hT) | (replace H := H.up 6 rfl; (try simp only [List.set_cons_zero, List.set_cons_succ, List.eraseIdx_cons_zero, List.eraseIdx_cons_succ] at H); have hT : Holds _ _ (var bl2 _ _ :: _) := H; clear hT)
                exact ⟨_, resVT H rfl, s7, _, _, _, rfl, hs16.trans hs7, ⟨g0, q0, g1, q1, lf6, g2, m6, q2, rfl, hD6.mono hs7⟩, hS7, H.arr⟩
            · rw [if_neg hcB]
              repeat' (first | refine Z H ?_ | (refine Zc ?_ ?_ <;> intro hc <;> first | (exfalso; omega) | skip) | (refine Y ?_; try change C _ _ _ _ _ _) | (refine Zs H ?_; clear H; (try clear w); intro w H) | (refine Zn H ?_; clear H; (try clear w); (first | ((fail_if_success (have := bl1)); intro bl1 w H) | ((fail_if_success (have := bl2)); intro bl2 w H) | ((fail_if_success (have := bl3)); intro bl3 w H) | intro _ w H)) | (refine Ze H ?_; clear H; (try clear w); intro gv w H))
              exact ⟨_, resVT H rfl, s6, _, pa, pc, rfl, hs16, ⟨g0, q0, g1, q1, lf6, g2, m6, q2, rfl, hD6⟩, hS6, H.arr⟩
end
end Go.Proofs.YtbknpbihgfphaaaDoor

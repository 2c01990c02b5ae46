/- The document's log (layer 20): Open, Add, walked. -/
import Derived.Test.YtbknpbihgfphaaaDoorRd
import Derived.Test.YtbknpbihgfphaaaDoorK4
set_option linter.unusedSimpArgs false
set_option linter.unusedVariables false
namespace Go.Proofs.YtbknpbihgfphaaaDoor
open Go Go.RowKit Go.Own

theorem refCells {s : Ro} {v : Value} {d : DM} (h : RefS s v d) : ∃ a0 c0 a1 c1 lf a2 n2 c2, v = .agg [.slice a0 d.secs.length c0, .slice a1 d.pend.length c1, .bool d.off, .int .i64 lf, .slice a2 n2 c2].toArray := by
  obtain ⟨_, ah, ch, aw, cw, sa, sc, lf, surv, rfl, _⟩ := h
  exact ⟨ah, ch, aw, cw, lf, sa, _, sc, rfl⟩
theorem refCells' {s : Ro} {cs : List Value} {d : DM} (h : RefS s (.agg cs.toArray) d) : ∃ a0 c0 a1 c1 lf a2 n2 c2, cs = [.slice a0 d.secs.length c0, .slice a1 d.pend.length c1, .bool d.off, .int .i64 lf, .slice a2 n2 c2] := by
  obtain ⟨a0, c0, a1, c1, lf, a2, n2, c2, e⟩ := refCells h
  exact ⟨a0, c0, a1, c1, lf, a2, n2, c2, by injection e with e; simpa using e⟩
/-- a log of the document's in memory -/
def RefA (s : Ro) (cs : List Value) (d : DM) (f c : Nat) (m : AL) : Prop := ∃ a0 c0 a1 c1 lf a2 n2 c2 aL cL,
  cs = [.slice a0 d.secs.length c0, .slice a1 d.pend.length c1, .bool d.off, .int .i64 lf, .slice a2 n2 c2, .int .i64 (f : Int), .int .i64 (c : Int), .slice aL m.ents.length cL, .bool m.dead] ∧
  RefS s (.agg [.slice a0 d.secs.length c0, .slice a1 d.pend.length c1, .bool d.off, .int .i64 lf, .slice a2 n2 c2].toArray) d ∧ SlS s (.slice aL m.ents.length cL) 4 m.ents.length (m.ents.flatMap En.cells)
theorem RefA.mono {s s' : Ro} {cs : List Value} {d : DM} {f c : Nat} {m : AL} (h : RefA s cs d f c m) (hs : s.Le s') : RefA s' cs d f c m := by
  obtain ⟨a0, c0, a1, c1, lf, a2, n2, c2, aL, cL, h1, h2, h3⟩ := h
  exact ⟨a0, c0, a1, c1, lf, a2, n2, c2, aL, cL, h1, h2.mono hs, h3.mono hs⟩
abbrev zlog : List Value := [.slice none 0 0, .slice none 0 0, .bool false, .int .i64 0, .slice none 0 0, .int .i64 0, .int .i64 0, .slice none 0 0, .bool false]
theorem build_rlog (x0 x1 x2 x3 x4 : Value) (f c : Int) (w : World) : (Instr.build 58 [(0, .agg #[x0, x1, x2, x3, x4]), (1, .int .i64 f), (2, .int .i64 c)].toArray).run Tryd.prog w = .ok (.agg #[x0, x1, x2, x3, x4, .int .i64 f, .int .i64 c, .slice none 0 0, .bool false]) w := by kernel_rfl
theorem build_rlog0 (w : World) : (Instr.build 58 ([] : List (Nat × Value)).toArray).run Tryd.prog w = .ok (.agg zlog.toArray) w := by kernel_rfl
theorem pread_eq {d : DM} {f c n : Nat} (hn : n < c) (hf : f + c ≤ 1000) : pread d ((f : Int), (c : Int)) (n : Int) = d.read ((f + n : Nat) : Int) := by
  unfold pread; simp only; rw [place_inN hn hf]; simp only [if_true]
theorem pwrite_eq {d : DM} {f c n : Nat} {l : List UInt8} (hn : n < c) (hf : f + c ≤ 1000) : pwrite d ((f : Int), (c : Int)) (n : Int) l = d.write ((f + n : Nat) : Int) l := by
  unfold pwrite; simp only; rw [place_inN hn hf]; simp only [if_true]
section
variable {s : Ro} {w : World} {R : List Asn}
set_option maxRecDepth 100000 in
set_option maxHeartbeats 1000000 in
theorem Open20_s {d : DM} {f c : Nat} {v : Value} (H : Holds s w R) (hR : RefS s v d) (hf : f + c ≤ 1000) (hpl : d.pend.length ≤ 1000000) : Calls Tryd.prog 25 #[v, .int .i64 (f : Int), .int .i64 (c : Int)] w fun e w' => ∃ s' cs, e = .returned (.tuple #[.agg cs.toArray, .int .i64 (scanA d ((f : Int), (c : Int)) c 0).2]) ∧ s.Le s' ∧ Holds s' w' R ∧ ((scanA d ((f : Int), (c : Int)) c 0).2 = 0 ∧ RefA s' cs d f c ⟨(scanA d ((f : Int), (c : Int)) c 0).1, false⟩ ∨ (scanA d ((f : Int), (c : Int)) c 0).2 ≠ 0 ∧ cs = zlog) := by
  obtain ⟨a0, c0, a1, c1, lf, a2, n2, c2, rfl⟩ := refCells hR
  have hwf := hR.1
  refine enter Tryd.func25 rfl Tryd.ntmps25 rfl ?_
  repeat' (first | (refine K.build [(0, .agg #[.slice a0 d.secs.length c0, .slice a1 d.pend.length c1, .bool d.off, .int .i64 lf, .slice a2 n2 c2]), (1, .int .i64 f), (2, .int .i64 c)] (.agg #[.slice a0 d.secs.length c0, .slice a1 d.pend.length c1, .bool d.off, .int .i64 lf, .slice a2 n2 c2, .int .i64 f, .int .i64 c, .slice none 0 0, .bool false]) (build_rlog _ _ _ _ _ _ _) rfl rfl rfl ?_) | refine Z H ?_ | (refine Zc ?_ ?_ <;> intro hc <;> first | (exfalso; omega) | skip) | (refine Y ?_; try change C _ _ _ _ _ _) | (refine Zs H ?_; clear H; (try clear w); intro w H) | (refine Zn H ?_; clear H; (try clear w); (first | ((fail_if_success (have := bl1)); intro bl1 w H) | ((fail_if_success (have := bl2)); intro bl2 w H) | ((fail_if_success (have := bl3)); intro bl3 w H) | intro _ w H)) | (refine Ze H ?_; clear H; (try clear w); intro gv w H))
  replace H := H.nilRow 34 4
  have H' : Holds s w (var bl3 58 [.slice a0 d.secs.length c0, .slice a1 d.pend.length c1, .bool d.off, .int .i64 lf, .slice a2 n2 c2, .int .i64 f, .int .i64 c, .slice none 0 0, .bool false] :: row 34 4 (.slice none 0 0) 0 [] :: var bl2 58 zlog :: var bl1 54 [.slice a0 d.secs.length c0, .slice a1 d.pend.length c1, .bool d.off, .int .i64 lf, .slice a2 n2 c2] :: R) := H.arr
  clear H
  refine C.loopS [7, 9, 10, 11, 12, 13, 18, 19, 20, 21, 22, 23, 24, 25, 26, 27, 28, 29, 30, 31, 32, 33, 34, 35, 36, 37, 38, 39, 40, 41, 42, 43, 44, 45, 46, 47, 48, 49] [9] rfl (fun k vs w => ∃ i : Nat, ∃ s' acc aa cc, k = c - i ∧ i ≤ c ∧ vs = [.int .i64 (i : Int)] ∧ s.Le s' ∧ acc.length = i ∧ scanA d ((f : Int), (c : Int)) c 0 = (acc ++ (scanA d ((f : Int), (c : Int)) (c - i) i).1, (scanA d ((f : Int), (c : Int)) (c - i) i).2) ∧ Holds s' w (var bl3 58 [.slice a0 d.secs.length c0, .slice a1 d.pend.length c1, .bool d.off, .int .i64 lf, .slice a2 n2 c2, .int .i64 f, .int .i64 c, .slice aa acc.length cc, .bool false] :: row 34 4 (.slice aa acc.length cc) acc.length (acc.flatMap En.cells) :: var bl2 58 zlog :: var bl1 54 [.slice a0 d.secs.length c0, .slice a1 d.pend.length c1, .bool d.off, .int .i64 lf, .slice a2 n2 c2] :: R)) c ⟨0, s, [], none, 0, rfl, Nat.zero_le _, rfl, Ro.Le.refl _, rfl, rfl, H'⟩ ?_
  clear H'
  rintro k vs hv w ⟨i, s1, acc, aa, cc, rfl, hi, rfl, hs1, hal, hsc, H⟩
  by_cases hlt : i < c
  · rw [show c - i = (c - (i + 1)) + 1 by omega] at hsc
    rw [scanA] at hsc
    repeat' (first | refine Z H ?_ | (refine Zc ?_ ?_ <;> intro hc <;> first | (exfalso; omega) | skip) | (refine Y ?_; try change C _ _ _ _ _ _) | (refine Zs H ?_; clear H; (try clear w); intro w H) | (refine Zn H ?_; clear H; (try clear w); (first | ((fail_if_success (have := bl1)); intro bl1 w H) | ((fail_if_success (have := bl2)); intro bl2 w H) | ((fail_if_success (have := bl3)); intro bl3 w H) | intro _ w H)) | (refine Ze H ?_; clear H; (try clear w); intro gv w H))
    have h64 := pread_64 (d := d) (x := ((f : Int), (c : Int))) (a := (i : Int)) hwf
    have hRd := Read_r (n := ((f + i : Nat) : Int)) H (hR.mono hs1) hpl
    rw [pread_eq hlt hf] at hsc h64
    rw [show (f : Int) + (i : Int) = ((f + i : Nat) : Int) by omega]
    generalize d.read ((f + i : Nat) : Int) = pr at *
    obtain ⟨l, code⟩ := pr
    dsimp only at hRd hsc h64
    (refine X.call (hRd) ?_; (try clear H); rintro _ w ⟨rfl, H⟩; refine ⟨_, rfl, ?_⟩)
    clear hRd
    by_cases h0 : code = 0
    · subst h0
      rw [if_pos rfl] at hsc
      have hl := h64 rfl
      repeat' (first | refine Z H ?_ | (refine Zc ?_ ?_ <;> intro hc <;> first | (exfalso; omega) | skip) | (refine Y ?_; try change C _ _ _ _ _ _) | (refine Zs H ?_; clear H; (try clear w); intro w H) | (refine Zn H ?_; clear H; (try clear w); (first | ((fail_if_success (have := bl1)); intro bl1 w H) | ((fail_if_success (have := bl2)); intro bl2 w H) | ((fail_if_success (have := bl3)); intro bl3 w H) | intro _ w H)) | (refine Ze H ?_; clear H; (try clear w); intro gv w H))
      (refine X.call (Said20_s (n := i) (l := l) H (by omega) hl) ?_; (try clear H); rintro _ w ⟨s2, rfl, hs2, H⟩; refine ⟨_, rfl, ?_⟩)
      have hsr := said_ref (n := i) hl
      generalize fieldsR l = y at *
      obtain ⟨ek, ep, ew, ec⟩ := y
      dsimp only [En.cells] at *
      by_cases hq : En.valid ⟨ek, ep, ew, ec⟩ = true ∧ secE i ⟨ek, ep, ew, ec⟩ = l
      · rw [if_pos hq] at hsr
        rw [hsr] at hsc ⊢
        dsimp only at hsc
        repeat' (first | refine Z H ?_ | (refine Zc ?_ ?_ <;> intro hc <;> first | (exfalso; omega) | skip) | (refine Y ?_; try change C _ _ _ _ _ _) | (refine Zs H ?_; clear H; (try clear w); intro w H) | (refine Zn H ?_; clear H; (try clear w); (first | ((fail_if_success (have := bl1)); intro bl1 w H) | ((fail_if_success (have := bl2)); intro bl2 w H) | ((fail_if_success (have := bl3)); intro bl3 w H) | intro _ w H)) | (refine Ze H ?_; clear H; (try clear w); intro gv w H))
        refine K.one H rfl rfl (by conv => lhs; whnf) (by rfl) (by rfl) ?_; clear H; (try clear w); intro g1 w H
        repeat' (first | (refine X.app H ?_; clear H; intro a3 c3 w H) | refine Z H ?_ | (refine Zc ?_ ?_ <;> intro hc <;> first | (exfalso; omega) | skip) | (refine Y ?_; try change C _ _ _ _ _ _) | (refine Zs H ?_; clear H; (try clear w); intro w H) | (refine Zn H ?_; clear H; (try clear w); (first | ((fail_if_success (have := bl1)); intro bl1 w H) | ((fail_if_success (have := bl2)); intro bl2 w H) | ((fail_if_success (have := bl3)); intro bl3 w H) | intro _ w H)) | (refine Ze H ?_; clear H; (try clear w); intro gv w H))
        have H' : Holds s2 w (var bl3 58 [.slice a0 d.secs.length c0, .slice a1 d.pend.length c1, .bool d.off, .int .i64 lf, .slice a2 n2 c2, .int .i64 f, .int .i64 c, .slice a3 (acc ++ [En.mk ek ep ew ec]).length c3, .bool false] :: row 34 4 (.slice a3 (acc ++ [En.mk ek ep ew ec]).length c3) (acc ++ [En.mk ek ep ew ec]).length ((acc ++ [En.mk ek ep ew ec]).flatMap En.cells) :: var bl2 58 zlog :: var bl1 54 [.slice a0 d.secs.length c0, .slice a1 d.pend.length c1, .bool d.off, .int .i64 lf, .slice a2 n2 c2] :: R) := by
          rw [flat_en, List.length_append]
          exact H.arr
        exact ⟨by (repeat (first | exact Agr.refl | exact Agr.hav | refine Agr.upd rfl ?_ | refine Agr.in rfl ?_)), c - (i + 1), by omega, i + 1, s2, acc ++ [En.mk ek ep ew ec], a3, c3, rfl, by omega, rfl, hs1.trans hs2, by rw [List.length_append, hal]; rfl, by rw [hsc, List.append_assoc]; rfl, H'⟩
      · rw [if_neg hq] at hsr
        rw [hsr] at hsc ⊢
        dsimp only at hsc
        rw [List.append_nil] at hsc
        repeat' (first | refine Z H ?_ | (refine Zc ?_ ?_ <;> intro hc <;> first | (exfalso; omega) | skip) | (refine Y ?_; try change C _ _ _ _ _ _) | (refine Zs H ?_; clear H; (try clear w); intro w H) | (refine Zn H ?_; clear H; (try clear w); (first | ((fail_if_success (have := bl1)); intro bl1 w H) | ((fail_if_success (have := bl2)); intro bl2 w H) | ((fail_if_success (have := bl3)); intro bl3 w H) | intro _ w H)) | (refine Ze H ?_; clear H; (try clear w); intro gv w H))
        refine ⟨_, resVT H rfl, ?_⟩
        rw [hsc]
        have H' : Holds s2 w (row 34 4 (.slice aa acc.length cc) acc.length (acc.flatMap En.cells) :: R) := H.arr
        obtain ⟨s3, hs3, H', hS⟩ := H'.fixRow
        exact ⟨s3, _, rfl, (hs1.trans hs2).trans hs3, H', .inl ⟨rfl, a0, c0, a1, c1, lf, a2, n2, c2, aa, cc, rfl, hR.mono ((hs1.trans hs2).trans hs3), hS⟩⟩
    · rw [if_neg h0] at hsc
      dsimp only at hsc
      repeat' (first | (refine K.build [] (.agg zlog.toArray) build_rlog0 rfl rfl rfl ?_) | refine Z H ?_ | (refine Zc ?_ ?_ <;> intro hc <;> first | (exfalso; omega) | skip) | (refine Y ?_; try change C _ _ _ _ _ _) | (refine Zs H ?_; clear H; (try clear w); intro w H) | (refine Zn H ?_; clear H; (try clear w); (first | ((fail_if_success (have := bl1)); intro bl1 w H) | ((fail_if_success (have := bl2)); intro bl2 w H) | ((fail_if_success (have := bl3)); intro bl3 w H) | intro _ w H)) | (refine Ze H ?_; clear H; (try clear w); intro gv w H))
      refine ⟨_, resVT H rfl, s1, zlog, by rw [hsc]; rfl, hs1, H.arr, .inr ⟨by rw [hsc]; exact h0, rfl⟩⟩
  · have hie : c - i = 0 := by omega
    rw [hie] at hsc
    rw [scanA, List.append_nil] at hsc
    repeat' (first | refine Z H ?_ | (refine Zc ?_ ?_ <;> intro hc <;> first | (exfalso; omega) | skip) | (refine Y ?_; try change C _ _ _ _ _ _) | (refine Zs H ?_; clear H; (try clear w); intro w H) | (refine Zn H ?_; clear H; (try clear w); (first | ((fail_if_success (have := bl1)); intro bl1 w H) | ((fail_if_success (have := bl2)); intro bl2 w H) | ((fail_if_success (have := bl3)); intro bl3 w H) | intro _ w H)) | (refine Ze H ?_; clear H; (try clear w); intro gv w H))
    refine ⟨_, resVT H rfl, ?_⟩
    rw [hsc]
    have H' : Holds s1 w (row 34 4 (.slice aa acc.length cc) acc.length (acc.flatMap En.cells) :: R) := H.arr
    obtain ⟨s3, hs3, H', hS⟩ := H'.fixRow
    exact ⟨s3, _, rfl, hs1.trans hs3, H', .inl ⟨rfl, a0, c0, a1, c1, lf, a2, n2, c2, aa, cc, rfl, hR.mono (hs1.trans hs3), hS⟩⟩
theorem en_one (l : List En) : ∀ u ∈ l.flatMap En.cells, u.oneCell' = true := by
  intro u hu
  obtain ⟨e, _, he⟩ := List.mem_flatMap.1 hu
  simp only [En.cells, List.mem_cons, List.not_mem_nil, or_false] at he
  rcases he with rfl | rfl | rfl | rfl <;> rfl
theorem pend_pow (d : DM) : d.powered.1.pend.length ≤ d.pend.length := by
  unfold DM.powered DM.crash
  split
  · exact Nat.le_refl _
  · split
    · dsimp only; split <;> simp
    · exact Nat.le_refl _
theorem pend_write (d : DM) (n : Int) (l : List UInt8) : (d.write n l).1.pend.length ≤ d.pend.length + 1 := by
  have := pend_pow d
  unfold DM.write
  split
  · split
    · split
      · simp only [List.length_append, List.length_cons, List.length_nil]; omega
      · simp only; omega
    · simp only; omega
  · simp only; omega
def addFS (b b2 : Nat) (D : List Value) (f n : Nat) (L : Value) (y : Array Value) (sec : List UInt8) (code : Int) (d1 : DM) : List FS := [
/-  0 -/ FS.v 23 [] (.pointer (some ⟨b, 0, none⟩)),
/-  1 -/ FS.v 24 [0] (.agg D.toArray),
/-  2 -/ FS.v 25 [] (.pointer (some ⟨b, 5, none⟩)),
/-  3 -/ FS.v 26 [2] (.int .i64 f),
/-  4 -/ FS.v 27 [] (.pointer (some ⟨b, 7, none⟩)),
/-  5 -/ FS.v 28 [4] L,
/-  6 -/ FS.v 29 [5] (.int .i64 n),
/-  7 -/ FS.v 30 [3, 6] (.int .i64 ((f : Int) + (n : Int))),
/-  8 -/ FS.v 31 [] (.pointer (some ⟨b, 7, none⟩)),
/-  9 -/ FS.v 32 [8] L,
/- 10 -/ FS.v 33 [9] (.int .i64 n),
/- 11 -/ FS.v 34 [] (.agg y),
/- 12 -/ FS.v 35 [10, 11] (.string (bst sec)),
/- 13 -/ FS.f 36 [1, 7, 12] (fun s v => ∃ v', v = .tuple #[v', .int .i64 code] ∧ RefS s v' d1) (fun hs ⟨v', h, k⟩ => ⟨v', h, k.mono hs⟩),
/- 14 -/ FS.f 22 [13] (fun s v => ∃ v', v = .tuple #[v', .int .i64 code] ∧ RefS s v' d1) (fun hs ⟨v', h, k⟩ => ⟨v', h, k.mono hs⟩),
/- 15 -/ FS.f 37 [14] (fun s v => RefS s v d1) (fun hs k => k.mono hs),
/- 16 -/ FS.v 38 [14] (.int .i64 code),
/- 17 -/ FS.new 6 54 [.slice none 0 0, .slice none 0 0, .bool false, .int .i64 0, .slice none 0 0],
/- 18 -/ FS.put2 6 37 17 [17, 15] 54]
def appFS (b : Nat) (L : Value) (n : Nat) (xs y : List Value) : List FS := [
/-  0 -/ FS.row 53 [] [] 34 4 0 [],
/-  1 -/ FS.v 54 [] (.pointer (some ⟨b, 7, none⟩)),
/-  2 -/ FS.v 55 [1] L,
/-  3 -/ FS.row 56 [0, 2] [0] 34 4 n xs,
/-  4 -/ FS.v 57 [] (.agg y.toArray),
/-  5 -/ FS.sl 58 [4] 4 1 y,
/-  6 -/ FS.row 59 [3, 5] [3] 34 4 (n + 1) (xs ++ y),
/-  7 -/ FS.v 60 [] (.pointer (some ⟨b, 7, none⟩))]
set_option maxRecDepth 100000 in
set_option maxHeartbeats 1000000 in
theorem Add20_s {d : DM} {f c : Nat} {cs : List Value} {m : AL} {y : En} (H : Holds s w R) (hA : RefA s cs d f c m) (hy : y.Ok) (hf : f + c ≤ 1000) (hlen : m.ents.length ≤ c) (hpl : d.pend.length ≤ 10000) : Calls Tryd.prog 26 #[.agg cs.toArray, .agg y.cells.toArray] w fun e w' => ∃ s' cs', e = .returned (.tuple #[.agg cs'.toArray, .int .i64 (addA d ((f : Int), (c : Int)) m y).2.2]) ∧ s.Le s' ∧ Holds s' w' R ∧ RefA s' cs' (addA d ((f : Int), (c : Int)) m y).1 f c (addA d ((f : Int), (c : Int)) m y).2.1 := by
  have hA0 := hA
  obtain ⟨a0, c0, a1, c1, lf, a2, n2, c2, aL, cL, rfl, hR, hl⟩ := hA
  obtain ⟨l, dead⟩ := m
  dsimp only at hl hlen hA0
  unfold addA
  dsimp only
  refine enter Tryd.func26 rfl Tryd.ntmps26 rfl ?_
  cases dead with
  | true =>
    rw [if_pos rfl]
    repeat' (first | refine Z H ?_ | (refine Zc ?_ ?_ <;> intro hc <;> first | (exfalso; omega) | skip) | (refine Y ?_; try change C _ _ _ _ _ _) | (refine Zs H ?_; clear H; (try clear w); intro w H) | (refine Zn H ?_; clear H; (try clear w); (first | ((fail_if_success (have := bl1)); intro bl1 w H) | ((fail_if_success (have := bl2)); intro bl2 w H) | ((fail_if_success (have := bl3)); intro bl3 w H) | ((fail_if_success (have := bl4)); intro bl4 w H) | intro _ w H)) | (refine Ze H ?_; clear H; (try clear w); intro gv w H))
    exact ⟨_, resVT H rfl, s, _, rfl, Ro.Le.refl _, H.arr, hA0⟩
  | false =>
    rw [if_neg (by decide)]
    repeat' (first | refine Z H ?_ | (refine Zc ?_ ?_ <;> intro hc <;> first | (exfalso; omega) | skip) | (refine Y ?_; try change C _ _ _ _ _ _) | (refine Zs H ?_; clear H; (try clear w); intro w H) | (refine Zn H ?_; clear H; (try clear w); (first | ((fail_if_success (have := bl1)); intro bl1 w H) | ((fail_if_success (have := bl2)); intro bl2 w H) | ((fail_if_success (have := bl3)); intro bl3 w H) | ((fail_if_success (have := bl4)); intro bl4 w H) | intro _ w H)) | (refine Ze H ?_; clear H; (try clear w); intro gv w H))
    (refine X.call (May20_s (x := y) H) ?_; (try clear H); rintro _ w ⟨rfl, H⟩; refine ⟨_, rfl, ?_⟩)
    cases hva : y.valid with
    | false =>
      rw [if_pos rfl]
      repeat' (first | refine Z H ?_ | (refine Zc ?_ ?_ <;> intro hc <;> first | (exfalso; omega) | skip) | (refine Y ?_; try change C _ _ _ _ _ _) | (refine Zs H ?_; clear H; (try clear w); intro w H) | (refine Zn H ?_; clear H; (try clear w); (first | ((fail_if_success (have := bl1)); intro bl1 w H) | ((fail_if_success (have := bl2)); intro bl2 w H) | ((fail_if_success (have := bl3)); intro bl3 w H) | ((fail_if_success (have := bl4)); intro bl4 w H) | intro _ w H)) | (refine Ze H ?_; clear H; (try clear w); intro gv w H))
      exact ⟨_, resVT H rfl, s, _, rfl, Ro.Le.refl _, H.arr, hA0⟩
    | true =>
      rw [if_neg (by decide)]
      by_cases hfull : (c : Int) ≤ (l.length : Int)
      · rw [if_pos hfull]
        repeat' (first | refine Z H ?_ | (refine Zc ?_ ?_ <;> intro hc <;> first | (exfalso; omega) | skip) | (refine Y ?_; try change C _ _ _ _ _ _) | (refine Zs H ?_; clear H; (try clear w); intro w H) | (refine Zn H ?_; clear H; (try clear w); (first | ((fail_if_success (have := bl1)); intro bl1 w H) | ((fail_if_success (have := bl2)); intro bl2 w H) | ((fail_if_success (have := bl3)); intro bl3 w H) | ((fail_if_success (have := bl4)); intro bl4 w H) | intro _ w H)) | (refine Ze H ?_; clear H; (try clear w); intro gv w H))
        exact ⟨_, resVT H rfl, s, _, rfl, Ro.Le.refl _, H.arr, hA0⟩
      rw [if_neg hfull]
      rw [pwrite_eq (by omega) hf]
      obtain ⟨k, p, v, cd⟩ := y
      unfold En.valid at hva
      simp only [decide_eq_true_eq] at hva
      obtain ⟨k, rfl⟩ := Int.eq_ofNat_of_zero_le (show 0 ≤ k by omega)
      obtain ⟨p, rfl⟩ := Int.eq_ofNat_of_zero_le (show 0 ≤ p by omega)
      obtain ⟨cd, rfl⟩ := Int.eq_ofNat_of_zero_le (show 0 ≤ cd by omega)
      have hvv := hy.v
      dsimp only at hvv
      have hse : secE l.length ⟨(k : Int), (p : Int), v, (cd : Int)⟩ = secN l.length k p v cd := by simp [secE]
      rw [hse]
      have hpw := secN_len l.length k p v cd
      dsimp only [En.cells] at H
      repeat' (first | refine Z H ?_ | (refine Zc ?_ ?_ <;> intro hc <;> first | (exfalso; omega) | skip) | (refine Y ?_; try change C _ _ _ _ _ _) | (refine Zs H ?_; clear H; (try clear w); intro w H) | (refine Zn H ?_; clear H; (try clear w); (first | ((fail_if_success (have := bl1)); intro bl1 w H) | ((fail_if_success (have := bl2)); intro bl2 w H) | ((fail_if_success (have := bl3)); intro bl3 w H) | ((fail_if_success (have := bl4)); intro bl4 w H) | intro _ w H)) | (refine Ze H ?_; clear H; (try clear w); intro gv w H))
      generalize hsec : secN l.length k p v cd = sec at *
      have hwr : (d.write ((f + l.length : Nat) : Int) sec).1.pend.length ≤ d.pend.length + 1 := pend_write _ _ _
      generalize hdw : d.write ((f + l.length : Nat) : Int) sec = pw at *
      obtain ⟨d1, code⟩ := pw
      dsimp only at hwr ⊢
      refine C.flow (addFS bl1 bl2 [.slice a0 d.secs.length c0, .slice a1 d.pend.length c1, .bool d.off, .int .i64 lf, .slice a2 n2 c2] f l.length (.slice aL l.length cL) #[.int .i64 k, .int .i64 p, .int .u32 v, .int .i64 cd] sec code d1) [15, 16, 18] [0, 1, 2, 3, 4, 5, 6, 7, 8, 9, 10, 11, 12, 13, 14, 15, 16, 18] H (by kernel_rfl) rfl rfl ?_ ?_
      · repeat' (first | exact StepsF.nil | refine StepsF.cons ?_ ?_)
        · intro s1 h w E hs1; (conv => whnf); intro H; replace H : Holds s1 w (var bl3 58 zlog :: var bl2 34 [.int .i64 k, .int .i64 p, .int .u32 v, .int .i64 cd] :: var bl1 58 [.slice a0 d.secs.length c0, .slice a1 d.pend.length c1, .bool d.off, .int .i64 lf, .slice a2 n2 c2, .int .i64 f, .int .i64 c, .slice aL l.length cL, .bool false] :: (R ++ E)) := H
          repeat' (first | refine Z H ?_ | (refine Zc ?_ ?_ <;> intro hc <;> first | (exfalso; omega) | skip) | (refine Y ?_; try change C _ _ _ _ _ _) | (refine Zs H ?_; clear H; (try clear w); intro w H) | (refine Zn H ?_; clear H; (try clear w); (first | ((fail_if_success (have := bl1)); intro bl1 w H) | ((fail_if_success (have := bl2)); intro bl2 w H) | ((fail_if_success (have := bl3)); intro bl3 w H) | ((fail_if_success (have := bl4)); intro bl4 w H) | intro _ w H)) | (refine Ze H ?_; clear H; (try clear w); intro gv w H))
          exact ⟨rfl, by (repeat (first | exact Agr.refl | exact Agr.hav | refine Agr.upd rfl ?_ | refine Agr.in rfl ?_)), s1, Ro.Le.refl _, rfl, H⟩
        · intro s1 h w E hs1; (conv => whnf); rintro _ rfl; (conv => whnf); intro H; replace H : Holds s1 w (var bl3 58 zlog :: var bl2 34 [.int .i64 k, .int .i64 p, .int .u32 v, .int .i64 cd] :: var bl1 58 [.slice a0 d.secs.length c0, .slice a1 d.pend.length c1, .bool d.off, .int .i64 lf, .slice a2 n2 c2, .int .i64 f, .int .i64 c, .slice aL l.length cL, .bool false] :: (R ++ E)) := H
          repeat' (first | (refine X.ldp [.slice a0 d.secs.length c0, .slice a1 d.pend.length c1, .bool d.off, .int .i64 lf, .slice a2 n2 c2] H ?_) | refine Z H ?_ | (refine Zc ?_ ?_ <;> intro hc <;> first | (exfalso; omega) | skip) | (refine Y ?_; try change C _ _ _ _ _ _) | (refine Zs H ?_; clear H; (try clear w); intro w H) | (refine Zn H ?_; clear H; (try clear w); (first | ((fail_if_success (have := bl1)); intro bl1 w H) | ((fail_if_success (have := bl2)); intro bl2 w H) | ((fail_if_success (have := bl3)); intro bl3 w H) | ((fail_if_success (have := bl4)); intro bl4 w H) | intro _ w H)) | (refine Ze H ?_; clear H; (try clear w); intro gv w H))
          exact ⟨rfl, by (repeat (first | exact Agr.refl | exact Agr.hav | refine Agr.upd rfl ?_ | refine Agr.in rfl ?_)), s1, Ro.Le.refl _, rfl, H⟩
        · intro s1 h w E hs1; (conv => whnf); intro H; replace H : Holds s1 w (var bl3 58 zlog :: var bl2 34 [.int .i64 k, .int .i64 p, .int .u32 v, .int .i64 cd] :: var bl1 58 [.slice a0 d.secs.length c0, .slice a1 d.pend.length c1, .bool d.off, .int .i64 lf, .slice a2 n2 c2, .int .i64 f, .int .i64 c, .slice aL l.length cL, .bool false] :: (R ++ E)) := H
          repeat' (first | refine Z H ?_ | (refine Zc ?_ ?_ <;> intro hc <;> first | (exfalso; omega) | skip) | (refine Y ?_; try change C _ _ _ _ _ _) | (refine Zs H ?_; clear H; (try clear w); intro w H) | (refine Zn H ?_; clear H; (try clear w); (first | ((fail_if_success (have := bl1)); intro bl1 w H) | ((fail_if_success (have := bl2)); intro bl2 w H) | ((fail_if_success (have := bl3)); intro bl3 w H) | ((fail_if_success (have := bl4)); intro bl4 w H) | intro _ w H)) | (refine Ze H ?_; clear H; (try clear w); intro gv w H))
          exact ⟨rfl, by (repeat (first | exact Agr.refl | exact Agr.hav | refine Agr.upd rfl ?_ | refine Agr.in rfl ?_)), s1, Ro.Le.refl _, rfl, H⟩
        · intro s1 h w E hs1; (conv => whnf); rintro _ rfl; (conv => whnf); intro H; replace H : Holds s1 w (var bl3 58 zlog :: var bl2 34 [.int .i64 k, .int .i64 p, .int .u32 v, .int .i64 cd] :: var bl1 58 [.slice a0 d.secs.length c0, .slice a1 d.pend.length c1, .bool d.off, .int .i64 lf, .slice a2 n2 c2, .int .i64 f, .int .i64 c, .slice aL l.length cL, .bool false] :: (R ++ E)) := H
          repeat' (first | refine Z H ?_ | (refine Zc ?_ ?_ <;> intro hc <;> first | (exfalso; omega) | skip) | (refine Y ?_; try change C _ _ _ _ _ _) | (refine Zs H ?_; clear H; (try clear w); intro w H) | (refine Zn H ?_; clear H; (try clear w); (first | ((fail_if_success (have := bl1)); intro bl1 w H) | ((fail_if_success (have := bl2)); intro bl2 w H) | ((fail_if_success (have := bl3)); intro bl3 w H) | ((fail_if_success (have := bl4)); intro bl4 w H) | intro _ w H)) | (refine Ze H ?_; clear H; (try clear w); intro gv w H))
          exact ⟨rfl, by (repeat (first | exact Agr.refl | exact Agr.hav | refine Agr.upd rfl ?_ | refine Agr.in rfl ?_)), s1, Ro.Le.refl _, rfl, H⟩
        · intro s1 h w E hs1; (conv => whnf); intro H; replace H : Holds s1 w (var bl3 58 zlog :: var bl2 34 [.int .i64 k, .int .i64 p, .int .u32 v, .int .i64 cd] :: var bl1 58 [.slice a0 d.secs.length c0, .slice a1 d.pend.length c1, .bool d.off, .int .i64 lf, .slice a2 n2 c2, .int .i64 f, .int .i64 c, .slice aL l.length cL, .bool false] :: (R ++ E)) := H
          repeat' (first | refine Z H ?_ | (refine Zc ?_ ?_ <;> intro hc <;> first | (exfalso; omega) | skip) | (refine Y ?_; try change C _ _ _ _ _ _) | (refine Zs H ?_; clear H; (try clear w); intro w H) | (refine Zn H ?_; clear H; (try clear w); (first | ((fail_if_success (have := bl1)); intro bl1 w H) | ((fail_if_success (have := bl2)); intro bl2 w H) | ((fail_if_success (have := bl3)); intro bl3 w H) | ((fail_if_success (have := bl4)); intro bl4 w H) | intro _ w H)) | (refine Ze H ?_; clear H; (try clear w); intro gv w H))
          exact ⟨rfl, by (repeat (first | exact Agr.refl | exact Agr.hav | refine Agr.upd rfl ?_ | refine Agr.in rfl ?_)), s1, Ro.Le.refl _, rfl, H⟩
        · intro s1 h w E hs1; (conv => whnf); rintro _ rfl; (conv => whnf); intro H; replace H : Holds s1 w (var bl3 58 zlog :: var bl2 34 [.int .i64 k, .int .i64 p, .int .u32 v, .int .i64 cd] :: var bl1 58 [.slice a0 d.secs.length c0, .slice a1 d.pend.length c1, .bool d.off, .int .i64 lf, .slice a2 n2 c2, .int .i64 f, .int .i64 c, .slice aL l.length cL, .bool false] :: (R ++ E)) := H
          repeat' (first | refine Z H ?_ | (refine Zc ?_ ?_ <;> intro hc <;> first | (exfalso; omega) | skip) | (refine Y ?_; try change C _ _ _ _ _ _) | (refine Zs H ?_; clear H; (try clear w); intro w H) | (refine Zn H ?_; clear H; (try clear w); (first | ((fail_if_success (have := bl1)); intro bl1 w H) | ((fail_if_success (have := bl2)); intro bl2 w H) | ((fail_if_success (have := bl3)); intro bl3 w H) | ((fail_if_success (have := bl4)); intro bl4 w H) | intro _ w H)) | (refine Ze H ?_; clear H; (try clear w); intro gv w H))
          exact ⟨rfl, by (repeat (first | exact Agr.refl | exact Agr.hav | refine Agr.upd rfl ?_ | refine Agr.in rfl ?_)), s1, Ro.Le.refl _, rfl, H⟩
        · intro s1 h w E hs1; (conv => whnf); rintro _ rfl; (conv => whnf); intro H; replace H : Holds s1 w (var bl3 58 zlog :: var bl2 34 [.int .i64 k, .int .i64 p, .int .u32 v, .int .i64 cd] :: var bl1 58 [.slice a0 d.secs.length c0, .slice a1 d.pend.length c1, .bool d.off, .int .i64 lf, .slice a2 n2 c2, .int .i64 f, .int .i64 c, .slice aL l.length cL, .bool false] :: (R ++ E)) := H
          repeat' (first | refine Z H ?_ | (refine Zc ?_ ?_ <;> intro hc <;> first | (exfalso; omega) | skip) | (refine Y ?_; try change C _ _ _ _ _ _) | (refine Zs H ?_; clear H; (try clear w); intro w H) | (refine Zn H ?_; clear H; (try clear w); (first | ((fail_if_success (have := bl1)); intro bl1 w H) | ((fail_if_success (have := bl2)); intro bl2 w H) | ((fail_if_success (have := bl3)); intro bl3 w H) | ((fail_if_success (have := bl4)); intro bl4 w H) | intro _ w H)) | (refine Ze H ?_; clear H; (try clear w); intro gv w H))
          exact ⟨rfl, by (repeat (first | exact Agr.refl | exact Agr.hav | refine Agr.upd rfl ?_ | refine Agr.in rfl ?_)), s1, Ro.Le.refl _, rfl, H⟩
        · intro s1 h w E hs1; (conv => whnf); rintro _ rfl; (conv => whnf); rintro _ rfl; (conv => whnf); intro H; replace H : Holds s1 w (var bl3 58 zlog :: var bl2 34 [.int .i64 k, .int .i64 p, .int .u32 v, .int .i64 cd] :: var bl1 58 [.slice a0 d.secs.length c0, .slice a1 d.pend.length c1, .bool d.off, .int .i64 lf, .slice a2 n2 c2, .int .i64 f, .int .i64 c, .slice aL l.length cL, .bool false] :: (R ++ E)) := H
          repeat' (first | refine Z H ?_ | (refine Zc ?_ ?_ <;> intro hc <;> first | (exfalso; omega) | skip) | (refine Y ?_; try change C _ _ _ _ _ _) | (refine Zs H ?_; clear H; (try clear w); intro w H) | (refine Zn H ?_; clear H; (try clear w); (first | ((fail_if_success (have := bl1)); intro bl1 w H) | ((fail_if_success (have := bl2)); intro bl2 w H) | ((fail_if_success (have := bl3)); intro bl3 w H) | ((fail_if_success (have := bl4)); intro bl4 w H) | intro _ w H)) | (refine Ze H ?_; clear H; (try clear w); intro gv w H))
          exact ⟨rfl, by (repeat (first | exact Agr.refl | exact Agr.hav | refine Agr.upd rfl ?_ | refine Agr.in rfl ?_)), s1, Ro.Le.refl _, rfl, H⟩
        · intro s1 h w E hs1; (conv => whnf); intro H; replace H : Holds s1 w (var bl3 58 zlog :: var bl2 34 [.int .i64 k, .int .i64 p, .int .u32 v, .int .i64 cd] :: var bl1 58 [.slice a0 d.secs.length c0, .slice a1 d.pend.length c1, .bool d.off, .int .i64 lf, .slice a2 n2 c2, .int .i64 f, .int .i64 c, .slice aL l.length cL, .bool false] :: (R ++ E)) := H
          repeat' (first | refine Z H ?_ | (refine Zc ?_ ?_ <;> intro hc <;> first | (exfalso; omega) | skip) | (refine Y ?_; try change C _ _ _ _ _ _) | (refine Zs H ?_; clear H; (try clear w); intro w H) | (refine Zn H ?_; clear H; (try clear w); (first | ((fail_if_success (have := bl1)); intro bl1 w H) | ((fail_if_success (have := bl2)); intro bl2 w H) | ((fail_if_success (have := bl3)); intro bl3 w H) | ((fail_if_success (have := bl4)); intro bl4 w H) | intro _ w H)) | (refine Ze H ?_; clear H; (try clear w); intro gv w H))
          exact ⟨rfl, by (repeat (first | exact Agr.refl | exact Agr.hav | refine Agr.upd rfl ?_ | refine Agr.in rfl ?_)), s1, Ro.Le.refl _, rfl, H⟩
        · intro s1 h w E hs1; (conv => whnf); rintro _ rfl; (conv => whnf); intro H; replace H : Holds s1 w (var bl3 58 zlog :: var bl2 34 [.int .i64 k, .int .i64 p, .int .u32 v, .int .i64 cd] :: var bl1 58 [.slice a0 d.secs.length c0, .slice a1 d.pend.length c1, .bool d.off, .int .i64 lf, .slice a2 n2 c2, .int .i64 f, .int .i64 c, .slice aL l.length cL, .bool false] :: (R ++ E)) := H
          repeat' (first | refine Z H ?_ | (refine Zc ?_ ?_ <;> intro hc <;> first | (exfalso; omega) | skip) | (refine Y ?_; try change C _ _ _ _ _ _) | (refine Zs H ?_; clear H; (try clear w); intro w H) | (refine Zn H ?_; clear H; (try clear w); (first | ((fail_if_success (have := bl1)); intro bl1 w H) | ((fail_if_success (have := bl2)); intro bl2 w H) | ((fail_if_success (have := bl3)); intro bl3 w H) | ((fail_if_success (have := bl4)); intro bl4 w H) | intro _ w H)) | (refine Ze H ?_; clear H; (try clear w); intro gv w H))
          exact ⟨rfl, by (repeat (first | exact Agr.refl | exact Agr.hav | refine Agr.upd rfl ?_ | refine Agr.in rfl ?_)), s1, Ro.Le.refl _, rfl, H⟩
        · intro s1 h w E hs1; (conv => whnf); rintro _ rfl; (conv => whnf); intro H; replace H : Holds s1 w (var bl3 58 zlog :: var bl2 34 [.int .i64 k, .int .i64 p, .int .u32 v, .int .i64 cd] :: var bl1 58 [.slice a0 d.secs.length c0, .slice a1 d.pend.length c1, .bool d.off, .int .i64 lf, .slice a2 n2 c2, .int .i64 f, .int .i64 c, .slice aL l.length cL, .bool false] :: (R ++ E)) := H
          repeat' (first | refine Z H ?_ | (refine Zc ?_ ?_ <;> intro hc <;> first | (exfalso; omega) | skip) | (refine Y ?_; try change C _ _ _ _ _ _) | (refine Zs H ?_; clear H; (try clear w); intro w H) | (refine Zn H ?_; clear H; (try clear w); (first | ((fail_if_success (have := bl1)); intro bl1 w H) | ((fail_if_success (have := bl2)); intro bl2 w H) | ((fail_if_success (have := bl3)); intro bl3 w H) | ((fail_if_success (have := bl4)); intro bl4 w H) | intro _ w H)) | (refine Ze H ?_; clear H; (try clear w); intro gv w H))
          exact ⟨rfl, by (repeat (first | exact Agr.refl | exact Agr.hav | refine Agr.upd rfl ?_ | refine Agr.in rfl ?_)), s1, Ro.Le.refl _, rfl, H⟩
        · intro s1 h w E hs1; (conv => whnf); intro H; replace H : Holds s1 w (var bl3 58 zlog :: var bl2 34 [.int .i64 k, .int .i64 p, .int .u32 v, .int .i64 cd] :: var bl1 58 [.slice a0 d.secs.length c0, .slice a1 d.pend.length c1, .bool d.off, .int .i64 lf, .slice a2 n2 c2, .int .i64 f, .int .i64 c, .slice aL l.length cL, .bool false] :: (R ++ E)) := H
          repeat' (first | refine Z H ?_ | (refine Zc ?_ ?_ <;> intro hc <;> first | (exfalso; omega) | skip) | (refine Y ?_; try change C _ _ _ _ _ _) | (refine Zs H ?_; clear H; (try clear w); intro w H) | (refine Zn H ?_; clear H; (try clear w); (first | ((fail_if_success (have := bl1)); intro bl1 w H) | ((fail_if_success (have := bl2)); intro bl2 w H) | ((fail_if_success (have := bl3)); intro bl3 w H) | ((fail_if_success (have := bl4)); intro bl4 w H) | intro _ w H)) | (refine Ze H ?_; clear H; (try clear w); intro gv w H))
          exact ⟨rfl, by (repeat (first | exact Agr.refl | exact Agr.hav | refine Agr.upd rfl ?_ | refine Agr.in rfl ?_)), s1, Ro.Le.refl _, rfl, H⟩
        · intro s1 h w E hs1; (conv => whnf); rintro _ rfl; (conv => whnf); rintro _ rfl; (conv => whnf); intro H; replace H : Holds s1 w (var bl3 58 zlog :: var bl2 34 [.int .i64 k, .int .i64 p, .int .u32 v, .int .i64 cd] :: var bl1 58 [.slice a0 d.secs.length c0, .slice a1 d.pend.length c1, .bool d.off, .int .i64 lf, .slice a2 n2 c2, .int .i64 f, .int .i64 c, .slice aL l.length cL, .bool false] :: (R ++ E)) := H
          (refine X.call (Sector20_s (n := l.length) (k := k) (p := p) (v := v) (c := cd) H (by omega) (by omega) (by omega) hvv (by omega)) ?_; (try clear H); rintro _ w ⟨s2, rfl, hs2, H⟩; refine ⟨_, rfl, ?_⟩)
          rw [hsec]
          repeat' (first | refine Z H ?_ | (refine Zc ?_ ?_ <;> intro hc <;> first | (exfalso; omega) | skip) | (refine Y ?_; try change C _ _ _ _ _ _) | (refine Zs H ?_; clear H; (try clear w); intro w H) | (refine Zn H ?_; clear H; (try clear w); (first | ((fail_if_success (have := bl1)); intro bl1 w H) | ((fail_if_success (have := bl2)); intro bl2 w H) | ((fail_if_success (have := bl3)); intro bl3 w H) | ((fail_if_success (have := bl4)); intro bl4 w H) | intro _ w H)) | (refine Ze H ?_; clear H; (try clear w); intro gv w H))
          exact ⟨rfl, by (repeat (first | exact Agr.refl | exact Agr.hav | refine Agr.upd rfl ?_ | refine Agr.in rfl ?_)), s2, hs2, rfl, H⟩
        · intro s1 h w E hs1; (conv => whnf); rintro _ rfl; (conv => whnf); rintro _ rfl; (conv => whnf); rintro _ rfl; (conv => whnf); intro H; replace H : Holds s1 w (var bl3 58 zlog :: var bl2 34 [.int .i64 k, .int .i64 p, .int .u32 v, .int .i64 cd] :: var bl1 58 [.slice a0 d.secs.length c0, .slice a1 d.pend.length c1, .bool d.off, .int .i64 lf, .slice a2 n2 c2, .int .i64 f, .int .i64 c, .slice aL l.length cL, .bool false] :: (R ++ E)) := H
          rw [show (f : Int) + (l.length : Int) = ((f + l.length : Nat) : Int) by omega]
          have hW := Write_r (n := ((f + l.length : Nat) : Int)) (b := sec) H (hR.mono hs1) (by omega) (by omega)
          rw [hdw] at hW
          (refine X.call (hW) ?_; (try clear H); rintro _ w ⟨s2, v1, rfl, hs2, hR1, H⟩; refine ⟨_, rfl, ?_⟩)
          repeat' (first | refine Z H ?_ | (refine Zc ?_ ?_ <;> intro hc <;> first | (exfalso; omega) | skip) | (refine Y ?_; try change C _ _ _ _ _ _) | (refine Zs H ?_; clear H; (try clear w); intro w H) | (refine Zn H ?_; clear H; (try clear w); (first | ((fail_if_success (have := bl1)); intro bl1 w H) | ((fail_if_success (have := bl2)); intro bl2 w H) | ((fail_if_success (have := bl3)); intro bl3 w H) | ((fail_if_success (have := bl4)); intro bl4 w H) | intro _ w H)) | (refine Ze H ?_; clear H; (try clear w); intro gv w H))
          exact ⟨rfl, by (repeat (first | exact Agr.refl | exact Agr.hav | refine Agr.upd rfl ?_ | refine Agr.in rfl ?_)), s2, hs2, ⟨v1, rfl, hR1⟩, H⟩
        · intro s1 h w E hs1; (conv => whnf); rintro _ ⟨v1, rfl, hR1⟩; (conv => whnf); intro H; replace H : Holds s1 w (var bl3 58 zlog :: var bl2 34 [.int .i64 k, .int .i64 p, .int .u32 v, .int .i64 cd] :: var bl1 58 [.slice a0 d.secs.length c0, .slice a1 d.pend.length c1, .bool d.off, .int .i64 lf, .slice a2 n2 c2, .int .i64 f, .int .i64 c, .slice aL l.length cL, .bool false] :: (R ++ E)) := H
          repeat' (first | refine Z H ?_ | (refine Zc ?_ ?_ <;> intro hc <;> first | (exfalso; omega) | skip) | (refine Y ?_; try change C _ _ _ _ _ _) | (refine Zs H ?_; clear H; (try clear w); intro w H) | (refine Zn H ?_; clear H; (try clear w); (first | ((fail_if_success (have := bl1)); intro bl1 w H) | ((fail_if_success (have := bl2)); intro bl2 w H) | ((fail_if_success (have := bl3)); intro bl3 w H) | ((fail_if_success (have := bl4)); intro bl4 w H) | intro _ w H)) | (refine Ze H ?_; clear H; (try clear w); intro gv w H))
          exact ⟨rfl, by (repeat (first | exact Agr.refl | exact Agr.hav | refine Agr.upd rfl ?_ | refine Agr.in rfl ?_)), s1, Ro.Le.refl _, ⟨v1, rfl, hR1⟩, H⟩
        · intro s1 h w E hs1; (conv => whnf); rintro _ ⟨v1, rfl, hR1⟩; (conv => whnf); intro H; replace H : Holds s1 w (var bl3 58 zlog :: var bl2 34 [.int .i64 k, .int .i64 p, .int .u32 v, .int .i64 cd] :: var bl1 58 [.slice a0 d.secs.length c0, .slice a1 d.pend.length c1, .bool d.off, .int .i64 lf, .slice a2 n2 c2, .int .i64 f, .int .i64 c, .slice aL l.length cL, .bool false] :: (R ++ E)) := H
          repeat' (first | refine Z H ?_ | (refine Zc ?_ ?_ <;> intro hc <;> first | (exfalso; omega) | skip) | (refine Y ?_; try change C _ _ _ _ _ _) | (refine Zs H ?_; clear H; (try clear w); intro w H) | (refine Zn H ?_; clear H; (try clear w); (first | ((fail_if_success (have := bl1)); intro bl1 w H) | ((fail_if_success (have := bl2)); intro bl2 w H) | ((fail_if_success (have := bl3)); intro bl3 w H) | ((fail_if_success (have := bl4)); intro bl4 w H) | intro _ w H)) | (refine Ze H ?_; clear H; (try clear w); intro gv w H))
          exact ⟨rfl, by (repeat (first | exact Agr.refl | exact Agr.hav | refine Agr.upd rfl ?_ | refine Agr.in rfl ?_)), s1, Ro.Le.refl _, hR1, H⟩
        · intro s1 h w E hs1; (conv => whnf); rintro _ ⟨v1, rfl, hR1⟩; (conv => whnf); intro H; replace H : Holds s1 w (var bl3 58 zlog :: var bl2 34 [.int .i64 k, .int .i64 p, .int .u32 v, .int .i64 cd] :: var bl1 58 [.slice a0 d.secs.length c0, .slice a1 d.pend.length c1, .bool d.off, .int .i64 lf, .slice a2 n2 c2, .int .i64 f, .int .i64 c, .slice aL l.length cL, .bool false] :: (R ++ E)) := H
          repeat' (first | refine Z H ?_ | (refine Zc ?_ ?_ <;> intro hc <;> first | (exfalso; omega) | skip) | (refine Y ?_; try change C _ _ _ _ _ _) | (refine Zs H ?_; clear H; (try clear w); intro w H) | (refine Zn H ?_; clear H; (try clear w); (first | ((fail_if_success (have := bl1)); intro bl1 w H) | ((fail_if_success (have := bl2)); intro bl2 w H) | ((fail_if_success (have := bl3)); intro bl3 w H) | ((fail_if_success (have := bl4)); intro bl4 w H) | intro _ w H)) | (refine Ze H ?_; clear H; (try clear w); intro gv w H))
          exact ⟨rfl, by (repeat (first | exact Agr.refl | exact Agr.hav | refine Agr.upd rfl ?_ | refine Agr.in rfl ?_)), s1, Ro.Le.refl _, rfl, H⟩
        · intro s1 h w E hs1; (conv => whnf); intro H; replace H : Holds s1 w (var bl3 58 zlog :: var bl2 34 [.int .i64 k, .int .i64 p, .int .u32 v, .int .i64 cd] :: var bl1 58 [.slice a0 d.secs.length c0, .slice a1 d.pend.length c1, .bool d.off, .int .i64 lf, .slice a2 n2 c2, .int .i64 f, .int .i64 c, .slice aL l.length cL, .bool false] :: (R ++ E)) := H
          repeat' (first | refine Z H ?_ | (refine Zc ?_ ?_ <;> intro hc <;> first | (exfalso; omega) | skip) | (refine Y ?_; try change C _ _ _ _ _ _) | (refine Zs H ?_; clear H; (try clear w); intro w H) | (refine Zn H ?_; clear H; (try clear w); (first | ((fail_if_success (have := bl1)); intro bl1 w H) | ((fail_if_success (have := bl2)); intro bl2 w H) | ((fail_if_success (have := bl3)); intro bl3 w H) | ((fail_if_success (have := bl4)); intro bl4 w H) | intro _ w H)) | (refine Ze H ?_; clear H; (try clear w); intro gv w H))
          exact ⟨rfl, by (repeat (first | exact Agr.refl | exact Agr.hav | refine Agr.upd rfl ?_ | refine Agr.in rfl ?_)), s1, Ro.Le.refl _, ⟨bl4, rfl⟩, H⟩
        · intro s1 h w E hs1; (conv => whnf)
          rintro _ ⟨b4, rfl⟩; (conv => whnf)
          rintro v1 hR1; (conv => whnf)
          obtain ⟨b0, k0, b1, k1, lf1, b2, m2, k2, rfl⟩ := refCells hR1
          intro H
          replace H : Holds s1 w (var b4 54 [.slice none 0 0, .slice none 0 0, .bool false, .int .i64 0, .slice none 0 0] :: var bl3 58 zlog :: var bl2 34 [.int .i64 k, .int .i64 p, .int .u32 v, .int .i64 cd] :: var bl1 58 [.slice a0 d.secs.length c0, .slice a1 d.pend.length c1, .bool d.off, .int .i64 lf, .slice a2 n2 c2, .int .i64 f, .int .i64 c, .slice aL l.length cL, .bool false] :: (R ++ E)) := H
          repeat' (first | refine Z H ?_ | (refine Zc ?_ ?_ <;> intro hc <;> first | (exfalso; omega) | skip) | (refine Y ?_; try change C _ _ _ _ _ _) | (refine Zs H ?_; clear H; (try clear w); intro w H) | (refine Zn H ?_; clear H; (try clear w); (first | ((fail_if_success (have := bl1)); intro bl1 w H) | ((fail_if_success (have := bl2)); intro bl2 w H) | ((fail_if_success (have := bl3)); intro bl3 w H) | ((fail_if_success (have := bl4)); intro bl4 w H) | intro _ w H)) | (refine Ze H ?_; clear H; (try clear w); intro gv w H))
          exact ⟨rfl, by (repeat (first | exact Agr.refl | exact Agr.hav | refine Agr.upd rfl ?_ | refine Agr.in rfl ?_)), s1, Ro.Le.refl _, ⟨b4, rfl⟩, H⟩
      · intro s4 h w hs4; (conv => whnf)
        rintro v1 hR1; (conv => whnf)
        obtain ⟨b0, k0, b1, k1, lf1, b2, m2, k2, rfl⟩ := refCells hR1
        rintro _ rfl; (conv => whnf)
        rintro _ ⟨b4, rfl⟩; (conv => whnf)
        intro H
        replace H : Holds s4 w (var b4 54 [.slice b0 d1.secs.length k0, .slice b1 d1.pend.length k1, .bool d1.off, .int .i64 lf1, .slice b2 m2 k2] :: var bl3 58 zlog :: var bl2 34 [.int .i64 k, .int .i64 p, .int .u32 v, .int .i64 cd] :: var bl1 58 [.slice a0 d.secs.length c0, .slice a1 d.pend.length c1, .bool d.off, .int .i64 lf, .slice a2 n2 c2, .int .i64 f, .int .i64 c, .slice aL l.length cL, .bool false] :: R) := H
        by_cases hc0 : code = 0
        · subst hc0
          rw [if_pos rfl]
          change L _ _ _ _ [_] _ _
          repeat' (first | refine Z H ?_ | (refine Zc ?_ ?_ <;> intro hc <;> first | (exfalso; omega) | skip) | (refine Y ?_; try change C _ _ _ _ _ _) | (refine Zs H ?_; clear H; (try clear w); intro w H) | (refine Zn H ?_; clear H; (try clear w); (first | ((fail_if_success (have := bl1)); intro bl1 w H) | ((fail_if_success (have := bl2)); intro bl2 w H) | ((fail_if_success (have := bl3)); intro bl3 w H) | ((fail_if_success (have := bl4)); intro bl4 w H) | intro _ w H)) | (refine Ze H ?_; clear H; (try clear w); intro gv w H))
          refine ⟨rfl, ?_⟩
          repeat' (first | refine Z H ?_ | (refine Zc ?_ ?_ <;> intro hc <;> first | (exfalso; omega) | skip) | (refine Y ?_; try change C _ _ _ _ _ _) | (refine Zs H ?_; clear H; (try clear w); intro w H) | (refine Zn H ?_; clear H; (try clear w); (first | ((fail_if_success (have := bl1)); intro bl1 w H) | ((fail_if_success (have := bl2)); intro bl2 w H) | ((fail_if_success (have := bl3)); intro bl3 w H) | ((fail_if_success (have := bl4)); intro bl4 w H) | intro _ w H)) | (refine Ze H ?_; clear H; (try clear w); intro gv w H))
          have hF := Flush_r H hR1 (by omega)
          generalize d1.flush = pf at *
          obtain ⟨d2, code2⟩ := pf
          dsimp only at hF ⊢
          (refine X.call (hF) ?_; (try clear H); rintro _ w ⟨s5, v2, rfl, hs5, hR2, H⟩; refine ⟨_, rfl, ?_⟩)
          clear hF
          obtain ⟨e0, q0, e1, q1, lf2, e2, n3, q2, rfl⟩ := refCells hR2
          by_cases hc2 : code2 = 0
          · subst hc2
            rw [if_pos rfl]
            repeat' (first | refine Z H ?_ | (refine Zc ?_ ?_ <;> intro hc <;> first | (exfalso; omega) | skip) | (refine Y ?_; try change C _ _ _ _ _ _) | (refine Zs H ?_; clear H; (try clear w); intro w H) | (refine Zn H ?_; clear H; (try clear w); (first | ((fail_if_success (have := bl1)); intro bl1 w H) | ((fail_if_success (have := bl2)); intro bl2 w H) | ((fail_if_success (have := bl3)); intro bl3 w H) | ((fail_if_success (have := bl4)); intro bl4 w H) | intro _ w H)) | (refine Ze H ?_; clear H; (try clear w); intro gv w H))
            have hs5' := hs4.trans hs5
            repeat' (first | (refine X.stp [.slice e0 d2.secs.length q0, .slice e1 d2.pend.length q1, .bool d2.off, .int .i64 lf2, .slice e2 n3 q2, .int .i64 f, .int .i64 c, .slice aL l.length cL, .bool false] H ?_; clear H; intro w H) | refine Z H ?_ | (refine Zc ?_ ?_ <;> intro hc <;> first | (exfalso; omega) | skip) | (refine Y ?_; try change C _ _ _ _ _ _) | (refine Zs H ?_; clear H; (try clear w); intro w H) | (refine Zn H ?_; clear H; (try clear w); (first | ((fail_if_success (have := bl1)); intro bl1 w H) | ((fail_if_success (have := bl2)); intro bl2 w H) | ((fail_if_success (have := bl3)); intro bl3 w H) | ((fail_if_success (have := bl4)); intro bl4 w H) | intro _ w H)) | (refine Ze H ?_; clear H; (try clear w); intro gv w H))
            refine C.flow (appFS bl1 (.slice aL l.length cL) l.length (l.flatMap En.cells) [.int .i64 k, .int .i64 p, .int .u32 v, .int .i64 cd]) [6, 7] [1, 2, 4, 5, 6, 7] H (by kernel_rfl) rfl rfl ?_ ?_
            · repeat' (first | exact StepsF.nil | refine StepsF.cons ?_ ?_)
              · intro s1 h w E hs1; (conv => whnf); intro H; replace H : Holds s1 w (var b4 54 [.slice e0 d2.secs.length q0, .slice e1 d2.pend.length q1, .bool d2.off, .int .i64 lf2, .slice e2 n3 q2] :: var bl3 58 zlog :: var bl2 34 [.int .i64 k, .int .i64 p, .int .u32 v, .int .i64 cd] :: var bl1 58 [.slice e0 d2.secs.length q0, .slice e1 d2.pend.length q1, .bool d2.off, .int .i64 lf2, .slice e2 n3 q2, .int .i64 f, .int .i64 c, .slice aL l.length cL, .bool false] :: (R ++ E)) := H
                repeat' (first | refine Z H ?_ | (refine Zc ?_ ?_ <;> intro hc <;> first | (exfalso; omega) | skip) | (refine Y ?_; try change C _ _ _ _ _ _) | (refine Zs H ?_; clear H; (try clear w); intro w H) | (refine Zn H ?_; clear H; (try clear w); (first | ((fail_if_success (have := bl1)); intro bl1 w H) | ((fail_if_success (have := bl2)); intro bl2 w H) | ((fail_if_success (have := bl3)); intro bl3 w H) | ((fail_if_success (have := bl4)); intro bl4 w H) | intro _ w H)) | (refine Ze H ?_; clear H; (try clear w); intro gv w H))
                exact ⟨rfl, by (repeat (first | exact Agr.refl | exact Agr.hav | refine Agr.upd rfl ?_ | refine Agr.in rfl ?_)), s1, Ro.Le.refl _, ⟨_, _, rfl⟩, H⟩
              · intro s1 h w E hs1; (conv => whnf); intro H; replace H : Holds s1 w (var b4 54 [.slice e0 d2.secs.length q0, .slice e1 d2.pend.length q1, .bool d2.off, .int .i64 lf2, .slice e2 n3 q2] :: var bl3 58 zlog :: var bl2 34 [.int .i64 k, .int .i64 p, .int .u32 v, .int .i64 cd] :: var bl1 58 [.slice e0 d2.secs.length q0, .slice e1 d2.pend.length q1, .bool d2.off, .int .i64 lf2, .slice e2 n3 q2, .int .i64 f, .int .i64 c, .slice aL l.length cL, .bool false] :: (R ++ E)) := H
                repeat' (first | refine Z H ?_ | (refine Zc ?_ ?_ <;> intro hc <;> first | (exfalso; omega) | skip) | (refine Y ?_; try change C _ _ _ _ _ _) | (refine Zs H ?_; clear H; (try clear w); intro w H) | (refine Zn H ?_; clear H; (try clear w); (first | ((fail_if_success (have := bl1)); intro bl1 w H) | ((fail_if_success (have := bl2)); intro bl2 w H) | ((fail_if_success (have := bl3)); intro bl3 w H) | ((fail_if_success (have := bl4)); intro bl4 w H) | intro _ w H)) | (refine Ze H ?_; clear H; (try clear w); intro gv w H))
                exact ⟨rfl, by (repeat (first | exact Agr.refl | exact Agr.hav | refine Agr.upd rfl ?_ | refine Agr.in rfl ?_)), s1, Ro.Le.refl _, rfl, H⟩
              · intro s1 h w E hs1; (conv => whnf); rintro _ rfl; (conv => whnf); intro H; replace H : Holds s1 w (var b4 54 [.slice e0 d2.secs.length q0, .slice e1 d2.pend.length q1, .bool d2.off, .int .i64 lf2, .slice e2 n3 q2] :: var bl3 58 zlog :: var bl2 34 [.int .i64 k, .int .i64 p, .int .u32 v, .int .i64 cd] :: var bl1 58 [.slice e0 d2.secs.length q0, .slice e1 d2.pend.length q1, .bool d2.off, .int .i64 lf2, .slice e2 n3 q2, .int .i64 f, .int .i64 c, .slice aL l.length cL, .bool false] :: (R ++ E)) := H
                repeat' (first | refine Z H ?_ | (refine Zc ?_ ?_ <;> intro hc <;> first | (exfalso; omega) | skip) | (refine Y ?_; try change C _ _ _ _ _ _) | (refine Zs H ?_; clear H; (try clear w); intro w H) | (refine Zn H ?_; clear H; (try clear w); (first | ((fail_if_success (have := bl1)); intro bl1 w H) | ((fail_if_success (have := bl2)); intro bl2 w H) | ((fail_if_success (have := bl3)); intro bl3 w H) | ((fail_if_success (have := bl4)); intro bl4 w H) | intro _ w H)) | (refine Ze H ?_; clear H; (try clear w); intro gv w H))
                exact ⟨rfl, by (repeat (first | exact Agr.refl | exact Agr.hav | refine Agr.upd rfl ?_ | refine Agr.in rfl ?_)), s1, Ro.Le.refl _, rfl, H⟩
              · intro s1 h w E hs1; (conv => whnf); rintro _ ⟨aa, cc, rfl⟩; (conv => whnf); rintro _ rfl; (conv => whnf); intro H; replace H : Holds s1 w (row 34 4 (.slice aa 0 cc) 0 [] :: var b4 54 [.slice e0 d2.secs.length q0, .slice e1 d2.pend.length q1, .bool d2.off, .int .i64 lf2, .slice e2 n3 q2] :: var bl3 58 zlog :: var bl2 34 [.int .i64 k, .int .i64 p, .int .u32 v, .int .i64 cd] :: var bl1 58 [.slice e0 d2.secs.length q0, .slice e1 d2.pend.length q1, .bool d2.off, .int .i64 lf2, .slice e2 n3 q2, .int .i64 f, .int .i64 c, .slice aL l.length cL, .bool false] :: (R ++ E)) := H
                refine K.app0 0 H rfl (.ro (hl.mono (hs5'.trans hs1))) (fun u hu => en_one l u hu) (by unfold maxLen; omega) (by omega) rfl rfl rfl ?_
                clear H
                intro a5 c5 w H
                (try simp only [List.set_cons_zero, List.set_cons_succ, List.eraseIdx_cons_zero, List.eraseIdx_cons_succ] at H)
                repeat' (first | refine Z H ?_ | (refine Zc ?_ ?_ <;> intro hc <;> first | (exfalso; omega) | skip) | (refine Y ?_; try change C _ _ _ _ _ _) | (refine Zs H ?_; clear H; (try clear w); intro w H) | (refine Zn H ?_; clear H; (try clear w); (first | ((fail_if_success (have := bl1)); intro bl1 w H) | ((fail_if_success (have := bl2)); intro bl2 w H) | ((fail_if_success (have := bl3)); intro bl3 w H) | ((fail_if_success (have := bl4)); intro bl4 w H) | intro _ w H)) | (refine Ze H ?_; clear H; (try clear w); intro gv w H))
                exact ⟨rfl, by (repeat (first | exact Agr.refl | exact Agr.hav | refine Agr.upd rfl ?_ | refine Agr.in rfl ?_)), s1, Ro.Le.refl _, ⟨_, _, rfl⟩, H⟩
              · intro s1 h w E hs1; (conv => whnf); intro H; replace H : Holds s1 w (var b4 54 [.slice e0 d2.secs.length q0, .slice e1 d2.pend.length q1, .bool d2.off, .int .i64 lf2, .slice e2 n3 q2] :: var bl3 58 zlog :: var bl2 34 [.int .i64 k, .int .i64 p, .int .u32 v, .int .i64 cd] :: var bl1 58 [.slice e0 d2.secs.length q0, .slice e1 d2.pend.length q1, .bool d2.off, .int .i64 lf2, .slice e2 n3 q2, .int .i64 f, .int .i64 c, .slice aL l.length cL, .bool false] :: (R ++ E)) := H
                repeat' (first | refine Z H ?_ | (refine Zc ?_ ?_ <;> intro hc <;> first | (exfalso; omega) | skip) | (refine Y ?_; try change C _ _ _ _ _ _) | (refine Zs H ?_; clear H; (try clear w); intro w H) | (refine Zn H ?_; clear H; (try clear w); (first | ((fail_if_success (have := bl1)); intro bl1 w H) | ((fail_if_success (have := bl2)); intro bl2 w H) | ((fail_if_success (have := bl3)); intro bl3 w H) | ((fail_if_success (have := bl4)); intro bl4 w H) | intro _ w H)) | (refine Ze H ?_; clear H; (try clear w); intro gv w H))
                exact ⟨rfl, by (repeat (first | exact Agr.refl | exact Agr.hav | refine Agr.upd rfl ?_ | refine Agr.in rfl ?_)), s1, Ro.Le.refl _, rfl, H⟩
              · intro s1 h w E hs1; (conv => whnf); rintro _ rfl; (conv => whnf); intro H; replace H : Holds s1 w (var b4 54 [.slice e0 d2.secs.length q0, .slice e1 d2.pend.length q1, .bool d2.off, .int .i64 lf2, .slice e2 n3 q2] :: var bl3 58 zlog :: var bl2 34 [.int .i64 k, .int .i64 p, .int .u32 v, .int .i64 cd] :: var bl1 58 [.slice e0 d2.secs.length q0, .slice e1 d2.pend.length q1, .bool d2.off, .int .i64 lf2, .slice e2 n3 q2, .int .i64 f, .int .i64 c, .slice aL l.length cL, .bool false] :: (R ++ E)) := H
                refine K.one H rfl rfl (by conv => lhs; whnf) (by rfl) (by rfl) ?_; clear H; (try clear w); intro g1 w H
                obtain ⟨s2, hs2, H, hS⟩ := H.fixRow
                repeat' (first | refine Z H ?_ | (refine Zc ?_ ?_ <;> intro hc <;> first | (exfalso; omega) | skip) | (refine Y ?_; try change C _ _ _ _ _ _) | (refine Zs H ?_; clear H; (try clear w); intro w H) | (refine Zn H ?_; clear H; (try clear w); (first | ((fail_if_success (have := bl1)); intro bl1 w H) | ((fail_if_success (have := bl2)); intro bl2 w H) | ((fail_if_success (have := bl3)); intro bl3 w H) | ((fail_if_success (have := bl4)); intro bl4 w H) | intro _ w H)) | (refine Ze H ?_; clear H; (try clear w); intro gv w H))
                exact ⟨rfl, by (repeat (first | exact Agr.refl | exact Agr.hav | refine Agr.upd rfl ?_ | refine Agr.in rfl ?_)), s2, hs2, ⟨_, _, rfl, hS⟩, H⟩
              · intro s1 h w E hs1; (conv => whnf); rintro _ ⟨aa, cc, rfl⟩; (conv => whnf); rintro _ ⟨a5, c5, rfl, hS⟩; (conv => whnf); intro H; replace H : Holds s1 w (row 34 4 (.slice aa l.length cc) l.length (l.flatMap En.cells) :: var b4 54 [.slice e0 d2.secs.length q0, .slice e1 d2.pend.length q1, .bool d2.off, .int .i64 lf2, .slice e2 n3 q2] :: var bl3 58 zlog :: var bl2 34 [.int .i64 k, .int .i64 p, .int .u32 v, .int .i64 cd] :: var bl1 58 [.slice e0 d2.secs.length q0, .slice e1 d2.pend.length q1, .bool d2.off, .int .i64 lf2, .slice e2 n3 q2, .int .i64 f, .int .i64 c, .slice aL l.length cL, .bool false] :: (R ++ E)) := H
                refine K.app 0 H rfl (.ro hS) (by simp [Value.oneCell']) (by unfold maxLen; omega) (by omega) rfl rfl rfl ?_
                clear H
                intro a6 c6 w H
                (try simp only [List.set_cons_zero, List.set_cons_succ, List.eraseIdx_cons_zero, List.eraseIdx_cons_succ] at H)
                repeat' (first | refine Z H ?_ | (refine Zc ?_ ?_ <;> intro hc <;> first | (exfalso; omega) | skip) | (refine Y ?_; try change C _ _ _ _ _ _) | (refine Zs H ?_; clear H; (try clear w); intro w H) | (refine Zn H ?_; clear H; (try clear w); (first | ((fail_if_success (have := bl1)); intro bl1 w H) | ((fail_if_success (have := bl2)); intro bl2 w H) | ((fail_if_success (have := bl3)); intro bl3 w H) | ((fail_if_success (have := bl4)); intro bl4 w H) | intro _ w H)) | (refine Ze H ?_; clear H; (try clear w); intro gv w H))
                exact ⟨rfl, by (repeat (first | exact Agr.refl | exact Agr.hav | refine Agr.upd rfl ?_ | refine Agr.in rfl ?_)), s1, Ro.Le.refl _, ⟨_, _, rfl⟩, H⟩
              · intro s1 h w E hs1; (conv => whnf); intro H; replace H : Holds s1 w (var b4 54 [.slice e0 d2.secs.length q0, .slice e1 d2.pend.length q1, .bool d2.off, .int .i64 lf2, .slice e2 n3 q2] :: var bl3 58 zlog :: var bl2 34 [.int .i64 k, .int .i64 p, .int .u32 v, .int .i64 cd] :: var bl1 58 [.slice e0 d2.secs.length q0, .slice e1 d2.pend.length q1, .bool d2.off, .int .i64 lf2, .slice e2 n3 q2, .int .i64 f, .int .i64 c, .slice aL l.length cL, .bool false] :: (R ++ E)) := H
                repeat' (first | refine Z H ?_ | (refine Zc ?_ ?_ <;> intro hc <;> first | (exfalso; omega) | skip) | (refine Y ?_; try change C _ _ _ _ _ _) | (refine Zs H ?_; clear H; (try clear w); intro w H) | (refine Zn H ?_; clear H; (try clear w); (first | ((fail_if_success (have := bl1)); intro bl1 w H) | ((fail_if_success (have := bl2)); intro bl2 w H) | ((fail_if_success (have := bl3)); intro bl3 w H) | ((fail_if_success (have := bl4)); intro bl4 w H) | intro _ w H)) | (refine Ze H ?_; clear H; (try clear w); intro gv w H))
                exact ⟨rfl, by (repeat (first | exact Agr.refl | exact Agr.hav | refine Agr.upd rfl ?_ | refine Agr.in rfl ?_)), s1, Ro.Le.refl _, rfl, H⟩
            · intro s1 h w hs1; (conv => whnf); rintro _ ⟨a6, c6, rfl⟩; (conv => whnf); rintro _ rfl; (conv => whnf); intro H; replace H : Holds s1 w (row 34 4 (.slice a6 (l.length + 1) c6) (l.length + 1) (l.flatMap En.cells ++ [.int .i64 k, .int .i64 p, .int .u32 v, .int .i64 cd]) :: var b4 54 [.slice e0 d2.secs.length q0, .slice e1 d2.pend.length q1, .bool d2.off, .int .i64 lf2, .slice e2 n3 q2] :: var bl3 58 zlog :: var bl2 34 [.int .i64 k, .int .i64 p, .int .u32 v, .int .i64 cd] :: var bl1 58 [.slice e0 d2.secs.length q0, .slice e1 d2.pend.length q1, .bool d2.off, .int .i64 lf2, .slice e2 n3 q2, .int .i64 f, .int .i64 c, .slice aL l.length cL, .bool false] :: R) := H
              change L _ _ _ _ [_] _ _
              repeat' (first | refine Z H ?_ | (refine Zc ?_ ?_ <;> intro hc <;> first | (exfalso; omega) | skip) | (refine Y ?_; try change C _ _ _ _ _ _) | (refine Zs H ?_; clear H; (try clear w); intro w H) | (refine Zn H ?_; clear H; (try clear w); (first | ((fail_if_success (have := bl1)); intro bl1 w H) | ((fail_if_success (have := bl2)); intro bl2 w H) | ((fail_if_success (have := bl3)); intro bl3 w H) | ((fail_if_success (have := bl4)); intro bl4 w H) | intro _ w H)) | (refine Ze H ?_; clear H; (try clear w); intro gv w H))
              refine ⟨rfl, ?_⟩
              repeat' (first | refine Z H ?_ | (refine Zc ?_ ?_ <;> intro hc <;> first | (exfalso; omega) | skip) | (refine Y ?_; try change C _ _ _ _ _ _) | (refine Zs H ?_; clear H; (try clear w); intro w H) | (refine Zn H ?_; clear H; (try clear w); (first | ((fail_if_success (have := bl1)); intro bl1 w H) | ((fail_if_success (have := bl2)); intro bl2 w H) | ((fail_if_success (have := bl3)); intro bl3 w H) | ((fail_if_success (have := bl4)); intro bl4 w H) | intro _ w H)) | (refine Ze H ?_; clear H; (try clear w); intro gv w H))
              refine ⟨_, resVT H rfl, ?_⟩
              have H' : Holds s1 w (row 34 4 (.slice a6 (l.length + 1) c6) (l.length + 1) (l.flatMap En.cells ++ [.int .i64 k, .int .i64 p, .int .u32 v, .int .i64 cd]) :: R) := H.arr
              obtain ⟨s6, hs6, H', hS⟩ := H'.fixRow
              refine ⟨s6, _, rfl, (hs5'.trans hs1).trans hs6, H', e0, q0, e1, q1, lf2, e2, n3, q2, a6, c6, ?_, hR2.mono (hs1.trans hs6), ?_⟩
              · rw [List.length_append]; rfl
              · rw [List.length_append, flat_en]; exact hS
          · rw [if_neg hc2]
            repeat' (first | (refine X.stp [.slice e0 d2.secs.length q0, .slice e1 d2.pend.length q1, .bool d2.off, .int .i64 lf2, .slice e2 n3 q2, .int .i64 f, .int .i64 c, .slice aL l.length cL, .bool false] H ?_; clear H; intro w H) | refine Z H ?_ | (refine Zc ?_ ?_ <;> intro hc <;> first | (exfalso; omega) | skip) | (refine Y ?_; try change C _ _ _ _ _ _) | (refine Zs H ?_; clear H; (try clear w); intro w H) | (refine Zn H ?_; clear H; (try clear w); (first | ((fail_if_success (have := bl1)); intro bl1 w H) | ((fail_if_success (have := bl2)); intro bl2 w H) | ((fail_if_success (have := bl3)); intro bl3 w H) | ((fail_if_success (have := bl4)); intro bl4 w H) | intro _ w H)) | (refine Ze H ?_; clear H; (try clear w); intro gv w H))
            refine ⟨_, resVT H rfl, s5, _, rfl, hs4.trans hs5, H.arr, e0, q0, e1, q1, lf2, e2, n3, q2, aL, cL, rfl, hR2, hl.mono (hs4.trans hs5)⟩
        · rw [if_neg hc0]
          change L _ _ _ _ [_] _ _
          repeat' (first | refine Z H ?_ | (refine Zc ?_ ?_ <;> intro hc <;> first | (exfalso; omega) | skip) | (refine Y ?_; try change C _ _ _ _ _ _) | (refine Zs H ?_; clear H; (try clear w); intro w H) | (refine Zn H ?_; clear H; (try clear w); (first | ((fail_if_success (have := bl1)); intro bl1 w H) | ((fail_if_success (have := bl2)); intro bl2 w H) | ((fail_if_success (have := bl3)); intro bl3 w H) | ((fail_if_success (have := bl4)); intro bl4 w H) | intro _ w H)) | (refine Ze H ?_; clear H; (try clear w); intro gv w H))
          refine ⟨rfl, ?_⟩
          repeat' (first | (refine X.stp [.slice b0 d1.secs.length k0, .slice b1 d1.pend.length k1, .bool d1.off, .int .i64 lf1, .slice b2 m2 k2, .int .i64 f, .int .i64 c, .slice aL l.length cL, .bool false] H ?_; clear H; intro w H) | refine Z H ?_ | (refine Zc ?_ ?_ <;> intro hc <;> first | (exfalso; omega) | skip) | (refine Y ?_; try change C _ _ _ _ _ _) | (refine Zs H ?_; clear H; (try clear w); intro w H) | (refine Zn H ?_; clear H; (try clear w); (first | ((fail_if_success (have := bl1)); intro bl1 w H) | ((fail_if_success (have := bl2)); intro bl2 w H) | ((fail_if_success (have := bl3)); intro bl3 w H) | ((fail_if_success (have := bl4)); intro bl4 w H) | intro _ w H)) | (refine Ze H ?_; clear H; (try clear w); intro gv w H))
          refine ⟨_, resVT H rfl, s4, _, rfl, hs4, H.arr, b0, k0, b1, k1, lf1, b2, m2, k2, aL, cL, rfl, hR1, hl.mono hs4⟩
end
end Go.Proofs.YtbknpbihgfphaaaDoor

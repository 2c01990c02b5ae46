/- IoschedShares, walked. -/
import Derived.Test.YtmcojfpomejnnaaIoO
set_option linter.unusedSimpArgs false
set_option linter.unusedVariables false
namespace Go.Proofs.Ytmcojfpomejnnaa
open Go Go.RowKit Go.Own

theorem range_pin {s : Ro} {v : Value} {n : Nat} {f : Nat → Value} (h : SlS s v 1 n ((List.range n).map f)) (hn : 0 < n) : ∃ g o c, v = .slice (some ⟨g, o, none⟩) n c ∧ ∀ i, i < n → Pin s g (o + i * 1) (f i) := by
  obtain ⟨g, o, c, rfl, _, _, h3⟩ := posS h hn (by decide)
  exact ⟨g, o, c, rfl, fun i hi => by rw [Nat.mul_one]; exact h3 i _ (by simp [hi])⟩
theorem wait_le {m : SM} (h : ∀ p ∈ m.parts, p.q.length ≤ 16) (j : Nat) : m.wait j ≤ 16 := by
  unfold SM.wait
  cases hj : m.parts[j]? with
  | none => simp
  | some p => exact h p (List.mem_of_getElem? hj)
set_option maxRecDepth 100000 in
set_option maxHeartbeats 1000000 in
theorem shares_walk {s : Ro} {w : World} {x : Shp} {acts : List Act15} {va : Option Addr} {vc : Nat} (H : Holds s w []) (hx : x.Ok s) (ha : SlS s (.slice va acts.length vc) 8 acts.length (acts.flatMap Act15.cells)) (hok : ∀ a ∈ acts, a.Ok s) :
    Calls Try.prog 7 #[.agg x.cells.toArray, .slice va acts.length vc] w fun e w' => e = .returned (.bool true) ∧ Fin s w' := by
  refine enter Try.func7 rfl Try.ntmps7 rfl ?_
  repeat' (first | refine Z H ?_ | (refine Zc ?_ ?_ <;> intro hc <;> first | (exfalso; omega) | skip) | (refine Y ?_; try change C _ _ _ _ _ _) | (refine Zs H ?_; clear H; (try clear w); intro w H) | (refine Zn H ?_; clear H; (try clear w); (first | ((fail_if_success (have := bl1)); intro bl1 w H) | intro _ w H)) | (refine Ze H ?_; clear H; (try clear w); intro gv w H))
  (refine X.call (made_s (x := x) H hx ha hok) ?_; (try clear H); rintro _ w ⟨s1, b, bS, x1, rfl, hs1, hx1, hm1, hS⟩; refine ⟨_, rfl, ?_⟩)
  obtain ⟨⟨hrl, hl8, hl32⟩, hxs⟩ := may0' hm1
  obtain ⟨hsa, hsls, hpl⟩ := play15_sane x1 (acts.take 40)
  have hbd := (play15_bd x1 (acts.take 40)).le (k := 40) (by rw [List.length_take]; omega)
  generalize (play15 x1 (acts.take 40)).1 = m0 at *
  generalize (play15 x1 (acts.take 40)).2 = d0 at *
  obtain ⟨va', cap, sa, sc, ps, hr, hsl, H⟩ := hS
  have hw16 : ∀ p ∈ m0.parts, p.q.length ≤ 16 := by
    intro p hp
    obtain ⟨j, hjl, rfl⟩ := List.getElem_of_mem hp
    have hP := hr.all j (by rw [hr.len]; exact hjl) hjl
    have := hP.cnt
    have := hP.ok.c16
    omega
  repeat' (first | ((fail_if_success (with_reducible show C _ _ _ (Code.seq (Code.seq (Code.region 6 _ _) _) _) _ _)); refine Z H ?_) | (refine Zc ?_ ?_ <;> intro hc <;> first | (exfalso; omega) | skip) | (refine Y ?_; try change C _ _ _ _ _ _) | (refine Zs H ?_; clear H; (try clear w); intro w H) | (refine Zn H ?_; clear H; (try clear w); (first | ((fail_if_success (have := bl1)); intro bl1 w H) | intro _ w H)) | (refine Ze H ?_; clear H; (try clear w); intro gv w H))
  replace H := (H.nilRow 3 1).nilRow 41 1
  have hS := Sch.close (b := b) (bS := bS) (va := va') (sa := sa) (cap := cap) (sc := sc) (d := d0) hr hsl H
  clear hr hsl H
  refine C.cut [7, 8, 9, 25, 26, 27, 28, 29, 30, 31, 32, 33, 34, 35, 36, 37, 38, 39, 40, 41, 42, 43] [7, 8] rfl (fun vs w => ∃ aw cw av cv, vs = [.slice aw x1.xs.length cw, .slice av x1.xs.length cv] ∧ Sch s1 w b bS m0 (dsk b d0 :: row 3 1 (.slice aw x1.xs.length cw) x1.xs.length ((List.range x1.xs.length).map fun j => Value.int .i64 (m0.wait j : Int)) :: row 41 1 (.slice av x1.xs.length cv) x1.xs.length ((List.range x1.xs.length).map fun j => Value.int .u64 (m0.serv j : Int)) :: var bl1 58 x1.cells :: [])) ?_ ?_
  · obtain ⟨va', cap, sa, sc, ps, hr, hsl, H⟩ := hS
    repeat' (first | refine Z H ?_ | (refine Zc ?_ ?_ <;> intro hc <;> first | (exfalso; omega) | skip) | (refine Y ?_; try change C _ _ _ _ _ _) | (refine Zs H ?_; clear H; (try clear w); intro w H) | (refine Zn H ?_; clear H; (try clear w); (first | ((fail_if_success (have := bl1)); intro bl1 w H) | intro _ w H)) | (refine Ze H ?_; clear H; (try clear w); intro gv w H))
    have hS := Sch.close (b := b) (bS := bS) (va := va') (sa := sa) (cap := cap) (sc := sc) (d := d0) hr hsl H
    clear hr hsl H
    have hS' : Sch s1 _ b bS m0 (dsk b d0 :: row 3 1 (.slice none 0 0) 0 [] :: row 41 1 (.slice none 0 0) 0 [] :: var bl1 58 x1.cells :: []) := hS.arr
    refine C.loopS [7, 8, 9, 25, 26, 27, 28, 29, 30, 31, 32, 33, 34, 35, 36, 37, 38, 39, 40, 41, 42, 43] [7, 8, 9] rfl (fun k vs w => ∃ i : Nat, ∃ aw cw av cv, k = x1.xs.length - i ∧ i ≤ x1.xs.length ∧ vs = [.slice aw i cw, .slice av i cv, .int .i64 (i : Int)] ∧ Sch s1 w b bS m0 (dsk b d0 :: row 3 1 (.slice aw i cw) i ((List.range i).map fun j => Value.int .i64 (m0.wait j : Int)) :: row 41 1 (.slice av i cv) i ((List.range i).map fun j => Value.int .u64 (m0.serv j : Int)) :: var bl1 58 x1.cells :: [])) x1.xs.length ⟨0, none, 0, none, 0, rfl, by omega, rfl, hS'⟩ ?_
    clear hS hS'
    rintro k vs hv w ⟨i, aw, cw, av, cv, rfl, hi, rfl, hS⟩
    obtain ⟨va', cap, sa, sc, ps, hr, hsl, H⟩ := hS
    by_cases hlt : i < x1.xs.length
    · repeat' (first | refine Z H ?_ | (refine Zc ?_ ?_ <;> intro hc <;> first | (exfalso; omega) | skip) | (refine Y ?_; try change C _ _ _ _ _ _) | (refine Zs H ?_; clear H; (try clear w); intro w H) | (refine Zn H ?_; clear H; (try clear w); (first | ((fail_if_success (have := bl1)); intro bl1 w H) | intro _ w H)) | (refine Ze H ?_; clear H; (try clear w); intro gv w H))
      have hS := Sch.close (b := b) (bS := bS) (va := va') (sa := sa) (cap := cap) (sc := sc) (d := d0) hr hsl H
      have hV := Waiting_q (i := (i : Int)) hS
      rw [waiting_wait] at hV
      (refine X.call (hV) ?_; (try clear H); rintro _ w ⟨rfl, hS⟩; refine ⟨_, rfl, ?_⟩)
      clear hV hr hsl
      obtain ⟨va', cap, sa, sc, ps, hr, hsl, H⟩ := hS
      repeat' (first | refine Z H ?_ | (refine Zc ?_ ?_ <;> intro hc <;> first | (exfalso; omega) | skip) | (refine Y ?_; try change C _ _ _ _ _ _) | (refine Zs H ?_; clear H; (try clear w); intro w H) | (refine Zn H ?_; clear H; (try clear w); (first | ((fail_if_success (have := bl1)); intro bl1 w H) | intro _ w H)) | (refine Ze H ?_; clear H; (try clear w); intro gv w H))
      refine K.one H rfl rfl (by conv => lhs; whnf) (by rfl) (by rfl) ?_; clear H; (try clear w); intro g1 w H
      repeat' (first | (refine X.app H ?_; clear H; intro a3 c3 w H) | refine Z H ?_ | (refine Zc ?_ ?_ <;> intro hc <;> first | (exfalso; omega) | skip) | (refine Y ?_; try change C _ _ _ _ _ _) | (refine Zs H ?_; clear H; (try clear w); intro w H) | (refine Zn H ?_; clear H; (try clear w); (first | ((fail_if_success (have := bl1)); intro bl1 w H) | intro _ w H)) | (refine Ze H ?_; clear H; (try clear w); intro gv w H))
      have hS := Sch.close (b := b) (bS := bS) (va := va') (sa := sa) (cap := cap) (sc := sc) (d := d0) hr hsl H
      have hV := Served_q (i := (i : Int)) hS
      rw [servedN_serv] at hV
      (refine X.call (hV) ?_; (try clear H); rintro _ w ⟨rfl, hS⟩; refine ⟨_, rfl, ?_⟩)
      clear hV hr hsl
      obtain ⟨va', cap, sa, sc, ps, hr, hsl, H⟩ := hS
      repeat' (first | refine Z H ?_ | (refine Zc ?_ ?_ <;> intro hc <;> first | (exfalso; omega) | skip) | (refine Y ?_; try change C _ _ _ _ _ _) | (refine Zs H ?_; clear H; (try clear w); intro w H) | (refine Zn H ?_; clear H; (try clear w); (first | ((fail_if_success (have := bl1)); intro bl1 w H) | intro _ w H)) | (refine Ze H ?_; clear H; (try clear w); intro gv w H))
      refine K.one H rfl rfl (by conv => lhs; whnf) (by rfl) (by rfl) ?_; clear H; (try clear w); intro g1 w H
      repeat' (first | (refine X.app H ?_; clear H; intro a4 c4 w H) | refine Z H ?_ | (refine Zc ?_ ?_ <;> intro hc <;> first | (exfalso; omega) | skip) | (refine Y ?_; try change C _ _ _ _ _ _) | (refine Zs H ?_; clear H; (try clear w); intro w H) | (refine Zn H ?_; clear H; (try clear w); (first | ((fail_if_success (have := bl1)); intro bl1 w H) | intro _ w H)) | (refine Ze H ?_; clear H; (try clear w); intro gv w H))
      have hS := Sch.close (b := b) (bS := bS) (va := va') (sa := sa) (cap := cap) (sc := sc) (d := d0) hr hsl H
      have hS' : Sch s1 _ b bS m0 (dsk b d0 :: row 3 1 (.slice a3 (i + 1) c3) (i + 1) (((List.range i).map fun j => Value.int .i64 (m0.wait j : Int)) ++ [.int .i64 (m0.wait i : Int)]) :: row 41 1 (.slice a4 (i + 1) c4) (i + 1) (((List.range i).map fun j => Value.int .u64 (m0.serv j : Int)) ++ [.int .u64 (m0.serv i : Int)]) :: var bl1 58 x1.cells :: []) := hS.arr
      refine ⟨by (repeat (first | exact Agr.refl | exact Agr.hav | refine Agr.upd rfl ?_ | refine Agr.in rfl ?_)), x1.xs.length - (i + 1), by omega, i + 1, a3, c3, a4, c4, rfl, by omega, rfl, ?_⟩
      rw [List.range_succ, List.map_append, List.map_append]
      exact hS'
    · have : i = x1.xs.length := by omega
      subst this
      repeat' (first | refine Z H ?_ | (refine Zc ?_ ?_ <;> intro hc <;> first | (exfalso; omega) | skip) | (refine Y ?_; try change C _ _ _ _ _ _) | (refine Zs H ?_; clear H; (try clear w); intro w H) | (refine Zn H ?_; clear H; (try clear w); (first | ((fail_if_success (have := bl1)); intro bl1 w H) | intro _ w H)) | (refine Ze H ?_; clear H; (try clear w); intro gv w H))
      have hS := Sch.close (b := b) (bS := bS) (va := va') (sa := sa) (cap := cap) (sc := sc) (d := d0) hr hsl H
      exact ⟨by (repeat (first | exact Agr.refl | exact Agr.hav | refine Agr.upd rfl ?_ | refine Agr.in rfl ?_)), aw, cw, av, cv, rfl, hS.arr⟩
  clear hS
  rintro vs hv w ⟨aw, cw, av, cv, rfl, hS⟩
  obtain ⟨va', cap, sa, sc, ps, hr, hsl, H⟩ := hS
  replace H : Holds s1 w (row 3 1 (.slice aw x1.xs.length cw) x1.xs.length ((List.range x1.xs.length).map fun j => Value.int .i64 (m0.wait j : Int)) :: row 41 1 (.slice av x1.xs.length cv) x1.xs.length ((List.range x1.xs.length).map fun j => Value.int .u64 (m0.serv j : Int)) :: var bS 136 [.slice va' ps.length cap, .slice sa m0.slots.length sc, .int .i64 (m0.next : Int)] :: row 143 70 (.slice va' ps.length cap) ps.length (ps.flatMap Pr.cells) :: dsk b d0 :: var bl1 58 x1.cells :: []) := H.arr
  obtain ⟨s2, hs2, H', hw1⟩ := H.fixRow
  clear H
  obtain ⟨s3, hs3, H, hw2⟩ := H'.fixRow
  clear H'
  replace hw1 := hw1.mono hs3
  have hS := Sch.close (b := b) (bS := bS) (va := va') (sa := sa) (cap := cap) (sc := sc) (d := d0) (hr.mono (hs2.trans hs3)) (hsl.mono (hs2.trans hs3)) H
  clear hr hsl H
  obtain ⟨va', cap, sa, sc, ps, hr, hsl, H⟩ := hS
  repeat' (first | ((fail_if_success (with_reducible show C _ _ _ (Code.seq (Code.seq (Code.region 10 _ _) _) _) _ _)); refine Z H ?_) | (refine Zc ?_ ?_ <;> intro hc <;> first | (exfalso; omega) | skip) | (refine Y ?_; try change C _ _ _ _ _ _) | (refine Zs H ?_; clear H; (try clear w); intro w H) | (refine Zn H ?_; clear H; (try clear w); (first | ((fail_if_success (have := bl1)); intro bl1 w H) | intro _ w H)) | (refine Ze H ?_; clear H; (try clear w); intro gv w H))
  have hS := Sch.close (b := b) (bS := bS) (va := va') (sa := sa) (cap := cap) (sc := sc) (d := d0) hr hsl H
  clear hr hsl H
  have hst : x1.slots.length = 0 ∨ Rnd m0 0 m0 := by
    rcases hsa.nxt with h | h
    · exact .inr (Rnd.start hsa h)
    · left; rw [← hsls, h]; rfl
  refine C.cut [4, 10, 11, 12, 13, 44, 45, 46, 47, 48, 49, 50, 51, 52, 53, 54, 55, 56, 57, 58, 59, 60, 61, 62, 63, 64, 65, 66, 67, 68, 69, 70, 71, 72, 73, 74, 75, 76, 77, 78, 79] [] rfl (fun vs w => ∃ m d, (∀ j : Nat, m.wait j = m0.wait j - cntS x1.slots (j : Int) ∧ m.serv j = m0.serv j + min (m0.wait j) (cntS x1.slots (j : Int))) ∧ Sch s3 w b bS m (dsk b d :: var bl1 58 x1.cells :: [])) ?_ ?_
  · obtain ⟨va', cap, sa, sc, ps, hr, hsl, H⟩ := hS
    repeat' (first | refine Z H ?_ | (refine Zc ?_ ?_ <;> intro hc <;> first | (exfalso; omega) | skip) | (refine Y ?_; try change C _ _ _ _ _ _) | (refine Zs H ?_; clear H; (try clear w); intro w H) | (refine Zn H ?_; clear H; (try clear w); (first | ((fail_if_success (have := bl1)); intro bl1 w H) | intro _ w H)) | (refine Ze H ?_; clear H; (try clear w); intro gv w H))
    have hS := Sch.close (b := b) (bS := bS) (va := va') (sa := sa) (cap := cap) (sc := sc) (d := d0) hr hsl H
    clear hr hsl H
    refine C.loopS [4, 10, 11, 12, 13, 44, 45, 46, 47, 48, 49, 50, 51, 52, 53, 54, 55, 56, 57, 58, 59, 60, 61, 62, 63, 64, 65, 66, 67, 68, 69, 70, 71, 72, 73, 74, 75, 76, 77, 78, 79] [10] rfl (fun k vs w => ∃ i : Nat, ∃ m d, k = x1.slots.length - i ∧ i ≤ x1.slots.length ∧ vs = [.int .i64 (i : Int)] ∧ (x1.slots.length = 0 ∧ m = m0 ∨ Rnd m0 i m) ∧ Bd (40 + i) m d ∧ Sch s3 w b bS m (dsk b d :: var bl1 58 x1.cells :: [])) x1.slots.length ⟨0, m0, d0, rfl, by omega, rfl, hst.imp (fun h => ⟨h, rfl⟩) id, hbd, hS.arr⟩ ?_
    clear hS
    rintro k vs hv w ⟨i, m, d, rfl, hi, rfl, hR, hb2, hS⟩
    obtain ⟨va', cap, sa, sc, ps, hr, hsl, H⟩ := hS
    by_cases hlt : i < x1.slots.length
    · have hR' : Rnd m0 i m := by
        rcases hR with ⟨h, _⟩ | h
        · omega
        · exact h
      have hnx : m.next < x1.slots.length := by rw [hR'.next, hsls]; exact Nat.mod_lt _ (by omega)
      repeat' (first | refine Z H ?_ | (refine Zc ?_ ?_ <;> intro hc <;> first | (exfalso; omega) | skip) | (refine Y ?_; try change C _ _ _ _ _ _) | (refine Zs H ?_; clear H; (try clear w); intro w H) | (refine Zn H ?_; clear H; (try clear w); (first | ((fail_if_success (have := bl1)); intro bl1 w H) | intro _ w H)) | (refine Ze H ?_; clear H; (try clear w); intro gv w H))
      have hS := Sch.close (b := b) (bS := bS) (va := va') (sa := sa) (cap := cap) (sc := sc) (d := d) hr hsl H
      (refine X.call (Next_s hS) ?_; (try clear H); rintro _ w ⟨rfl, hS⟩; refine ⟨_, rfl, ?_⟩)
      clear hr hsl
      obtain ⟨va', cap, sa, sc, ps, hr, hsl, H⟩ := hS
      repeat' (first | refine Z H ?_ | (refine Zc ?_ ?_ <;> intro hc <;> first | (exfalso; omega) | skip) | (refine Y ?_; try change C _ _ _ _ _ _) | (refine Zs H ?_; clear H; (try clear w); intro w H) | (refine Zn H ?_; clear H; (try clear w); (first | ((fail_if_success (have := bl1)); intro bl1 w H) | intro _ w H)) | (refine Ze H ?_; clear H; (try clear w); intro gv w H))
      have hS := Sch.close (b := b) (bS := bS) (va := va') (sa := sa) (cap := cap) (sc := sc) (d := d) hr hsl H
      have hT := Slot_s hS (by have := hb2.ep.pl; omega) (fun p hp => by have := hb2.served p hp; omega)
      have hRn := hR'.slot (by rw [hsls]; omega) d
      have hbn := hb2.slot
      have hpart := fun x => slot_part (m := m) d (x := x)
      rw [hR'.slots, hsls, List.getElem?_eq_getElem hnx] at hpart
      obtain ⟨gl, ol, hla, hpin⟩ := int_pin (hx1.mono (hs2.trans hs3)).hl (by omega)
      have pn := hpin m.next hnx
      clear hpin
      generalize x1.slots[m.next] = sv at *
      generalize hso : m.slot d = r at *
      obtain ⟨m', d', o⟩ := r
      simp only at hT hRn hbn hpart
      obtain ⟨xs1, rooms1, slots1, xa1, ra1, la1, xc1, rc1, lc1⟩ := x1
      dsimp only at hla pn hnx
      subst hla
      dsimp only at *
      cases o with
      | none =>
        simp only [Option.getD_none, Option.isSome_none, Dn.zero, List.length_nil] at hT
        (refine X.call (hT) ?_; (try clear H); rintro _ w ⟨t2, a2, c2, rfl, hS⟩; refine ⟨_, rfl, ?_⟩)
        clear hT hr hsl
        obtain ⟨va', cap, sa, sc, ps, hr, hsl, H⟩ := hS
        dsimp only [Shp.cells] at H
        repeat' (first | refine Z H ?_ | (refine Zc ?_ ?_ <;> intro hc <;> first | (exfalso; omega) | skip) | (refine Y ?_; try change C _ _ _ _ _ _) | (refine Zs H ?_; clear H; (try clear w); intro w H) | (refine Zn H ?_; clear H; (try clear w); (first | ((fail_if_success (have := bl1)); intro bl1 w H) | intro _ w H)) | (refine Ze H ?_; clear H; (try clear w); intro gv w H))
        refine C.drawn1 [0, 0, 0, 0, 0, 1, 0, 0, 0, 0, 0, 0, 0, 1, 0, 1, 0, 0, 1, 0, 0, 0] [0, 1, 3, 7, 7, 23, 55, 127, 255, 511, 1023, 2047, 4095, 8191, 4095, 20479, 4095, 118783, 249855, 524287, 1048575, 2097151] (by kernel_rfl) ?_; replace H := H.drew
        repeat' (first | refine Z H ?_ | (refine Zc ?_ ?_ <;> intro hc <;> first | (exfalso; omega) | skip) | (refine Y ?_; try change C _ _ _ _ _ _) | (refine Zs H ?_; clear H; (try clear w); intro w H) | (refine Zn H ?_; clear H; (try clear w); (first | ((fail_if_success (have := bl1)); intro bl1 w H) | intro _ w H)) | (refine Ze H ?_; clear H; (try clear w); intro gv w H))
        have hS := Sch.close (b := b) (bS := bS) (va := va') (sa := sa) (cap := cap) (sc := sc) (d := d') hr hsl H
        have hS' : Sch s3 _ b bS m' (dsk b d' :: var bl1 58 [.slice xa1 xs1.length xc1, .slice ra1 rooms1.length rc1, .slice (some ⟨gl, ol, none⟩) slots1.length lc1] :: []) := hS.arr
        exact ⟨by (repeat (first | exact Agr.refl | exact Agr.hav | refine Agr.upd rfl ?_ | refine Agr.in rfl ?_)), slots1.length - (i + 1), by omega, i + 1, m', d', rfl, by omega, rfl, .inr hRn, hbn.le (by omega), hS'⟩
      | some x =>
        have hxp := hpart x rfl
        injection hxp with hxp
        simp only [Option.getD_some, Option.isSome_some] at hT
        (refine X.call (hT) ?_; (try clear H); rintro _ w ⟨t2, a2, c2, rfl, hS⟩; refine ⟨_, rfl, ?_⟩)
        clear hT hr hsl
        obtain ⟨va', cap, sa, sc, ps, hr, hsl, H⟩ := hS
        dsimp only [Shp.cells] at H
        repeat' (first | refine Z H ?_ | (refine Zc ?_ ?_ <;> intro hc <;> first | (exfalso; omega) | skip) | (refine Y ?_; try change C _ _ _ _ _ _) | (refine Zs H ?_; clear H; (try clear w); intro w H) | (refine Zn H ?_; clear H; (try clear w); (first | ((fail_if_success (have := bl1)); intro bl1 w H) | intro _ w H)) | (refine Ze H ?_; clear H; (try clear w); intro gv w H))
        refine C.drawn1 [0, 0, 0, 0, 0, 1, 0, 0, 0, 0, 0, 0, 0, 1, 0, 1, 0, 0, 1, 0, 0, 0] [0, 1, 3, 7, 7, 23, 55, 127, 255, 511, 1023, 2047, 4095, 8191, 4095, 20479, 4095, 118783, 249855, 524287, 1048575, 2097151] (by kernel_rfl) ?_; replace H := H.drew
        repeat' (first | refine Z H ?_ | (refine Zc ?_ ?_ <;> intro hc <;> first | (exfalso; omega) | skip) | (refine Y ?_; try change C _ _ _ _ _ _) | (refine Zs H ?_; clear H; (try clear w); intro w H) | (refine Zn H ?_; clear H; (try clear w); (first | ((fail_if_success (have := bl1)); intro bl1 w H) | intro _ w H)) | (refine Ze H ?_; clear H; (try clear w); intro gv w H))
        have hS := Sch.close (b := b) (bS := bS) (va := va') (sa := sa) (cap := cap) (sc := sc) (d := d') hr hsl H
        have hS' : Sch s3 _ b bS m' (dsk b d' :: var bl1 58 [.slice xa1 xs1.length xc1, .slice ra1 rooms1.length rc1, .slice (some ⟨gl, ol, none⟩) slots1.length lc1] :: []) := hS.arr
        exact ⟨by (repeat (first | exact Agr.refl | exact Agr.hav | refine Agr.upd rfl ?_ | refine Agr.in rfl ?_)), slots1.length - (i + 1), by omega, i + 1, m', d', rfl, by omega, rfl, .inr hRn, hbn.le (by omega), hS'⟩
    · repeat' (first | refine Z H ?_ | (refine Zc ?_ ?_ <;> intro hc <;> first | (exfalso; omega) | skip) | (refine Y ?_; try change C _ _ _ _ _ _) | (refine Zs H ?_; clear H; (try clear w); intro w H) | (refine Zn H ?_; clear H; (try clear w); (first | ((fail_if_success (have := bl1)); intro bl1 w H) | intro _ w H)) | (refine Ze H ?_; clear H; (try clear w); intro gv w H))
      have hS := Sch.close (b := b) (bS := bS) (va := va') (sa := sa) (cap := cap) (sc := sc) (d := d) hr hsl H
      refine ⟨by (repeat (first | exact Agr.refl | exact Agr.hav | refine Agr.upd rfl ?_ | refine Agr.in rfl ?_)), m, d, fun j => ?_, hS.arr⟩
      rcases hR with ⟨h, rfl⟩ | h
      · have : x1.slots = [] := List.length_eq_zero_iff.1 h
        rw [this]; simp [cntS]
      · have hie : i = m0.slots.length := by rw [hsls]; omega
        subst hie
        have := h.fin j
        rwa [hsls] at this
  clear hS hst
  rintro vs hv w ⟨m, d, hcnt, hS⟩
  obtain ⟨va', cap, sa, sc, ps, hr, hsl, H⟩ := hS
  repeat' (first | refine Z H ?_ | (refine Zc ?_ ?_ <;> intro hc <;> first | (exfalso; omega) | skip) | (refine Y ?_; try change C _ _ _ _ _ _) | (refine Zs H ?_; clear H; (try clear w); intro w H) | (refine Zn H ?_; clear H; (try clear w); (first | ((fail_if_success (have := bl1)); intro bl1 w H) | intro _ w H)) | (refine Ze H ?_; clear H; (try clear w); intro gv w H))
  have hS := Sch.close (b := b) (bS := bS) (va := va') (sa := sa) (cap := cap) (sc := sc) (d := d) hr hsl H
  clear hr hsl H
  refine C.loopS [4, 14, 15, 80, 81, 82, 83, 84, 85, 86, 87, 88, 89, 90, 91, 92, 93, 94, 95, 96, 97, 98, 99, 100, 101, 102, 103, 104, 105, 106, 107, 108, 109, 110, 111, 112, 113, 114, 115, 116, 117, 118, 119, 120, 121, 122, 123] [14] rfl (fun k vs w => ∃ i : Nat, k = x1.xs.length - i ∧ i ≤ x1.xs.length ∧ vs = [.int .i64 (i : Int)] ∧ Sch s3 w b bS m (dsk b d :: var bl1 58 x1.cells :: [])) x1.xs.length ⟨0, rfl, by omega, rfl, hS.arr⟩ ?_
  clear hS
  rintro k vs hv w ⟨i, rfl, hi, rfl, hS⟩
  obtain ⟨va', cap, sa, sc, ps, hr, hsl, H⟩ := hS
  by_cases hlt : i < x1.xs.length
  · obtain ⟨g1, o1, c1, e1, hp1⟩ := range_pin hw1 (by omega)
    obtain ⟨g2, o2, c2, e2, hp2⟩ := range_pin hw2 (by omega)
    cases e1
    cases e2
    have pn1 : Pin s3 g1 (o1 + i * 1) (.int .i64 (m0.wait i : Int)) := hp1 i hlt
    have pn2 : Pin s3 g2 (o2 + i * 1) (.int .u64 (m0.serv i : Int)) := hp2 i hlt
    obtain ⟨hcw, hcs⟩ := hcnt i
    have hwb : m0.wait i ≤ 16 := wait_le hw16 i
    have hsb : m0.serv i ≤ 40 := by
      unfold SM.serv
      cases hj : m0.parts[i]? with
      | none => simp
      | some p => exact hbd.served p (List.mem_of_getElem? hj)
    have hcn : cntS x1.slots (i : Int) ≤ 32 := Nat.le_trans List.countP_le_length hl32
    repeat' (first | refine Z H ?_ | (refine Zc ?_ ?_ <;> intro hc <;> first | (exfalso; omega) | skip) | (refine Y ?_; try change C _ _ _ _ _ _) | (refine Zs H ?_; clear H; (try clear w); intro w H) | (refine Zn H ?_; clear H; (try clear w); (first | ((fail_if_success (have := bl1)); intro bl1 w H) | intro _ w H)) | (refine Ze H ?_; clear H; (try clear w); intro gv w H))
    (refine X.call (slots_s (l := x1.slots) (p := (i : Int)) H (hx1.mono (hs2.trans hs3)).hl (by omega)) ?_; (try clear H); rintro _ w ⟨rfl, H⟩; refine ⟨_, rfl, ?_⟩)
    generalize cntS x1.slots (i : Int) = nn at *
    generalize m0.wait i = w0 at *
    generalize m0.serv i = S0 at *
    have hx : ∃ q : Nat, q = min w0 nn ∧ q ≤ 16 := ⟨_, rfl, by omega⟩
    obtain ⟨q, hq, hq16⟩ := hx
    have hcv : IntKind.u64.wrap (q : Int) = (q : Int) := by simp [IntKind.wrap, IntKind.bits, IntKind.signed]; omega
    have hwr : IntKind.u64.wrap (((S0 + q : Nat) : Int) - (S0 : Int)) = (q : Int) := by rw [show ((S0 + q : Nat) : Int) - (S0 : Int) = (q : Int) by omega]; exact hcv
    have hws : m.serv i = S0 + q := by rw [hcs, hq]
    have hww : m.wait i = w0 - q := by rw [hcw, hq]; omega
    rcases (show (w0 < nn ∧ q = w0) ∨ (nn ≤ w0 ∧ q = nn) by omega) with ⟨hle, rfl⟩ | ⟨hle, rfl⟩
    all_goals
      repeat' (first | refine Z H ?_ | (refine Zc ?_ ?_ <;> intro hc <;> first | (exfalso; omega) | skip) | (refine Y ?_; try change C _ _ _ _ _ _) | (refine Zs H ?_; clear H; (try clear w); intro w H) | (refine Zn H ?_; clear H; (try clear w); (first | ((fail_if_success (have := bl1)); intro bl1 w H) | intro _ w H)) | (refine Ze H ?_; clear H; (try clear w); intro gv w H))
      refine C.drawn2 [g1, g2] [0, 0, 2, 0, 0, 0, 1, 0, 0, 0, 0, 0, 0, 0, 2, 0, 0, 0, 1, 0, 0, 0, 0] [3, 12] [0, 0, 3, 0, 0, 24, 56, 127, 0, 256, 1023, 2047, 4095, 4095, 16383, 4095, 4095, 102399, 233471, 4095, 1019903, 2097151, 4194303] (by kernel_rfl) ?_; replace H := H.drew; simp only [segL, List.take_succ_cons, List.take_zero, List.drop_succ_cons, List.drop_zero]; have H0 := H
      repeat' (first | refine Z H ?_ | (refine Zc ?_ ?_ <;> intro hc <;> first | (exfalso; omega) | skip) | (refine Y ?_; try change C _ _ _ _ _ _) | (refine Zs H ?_; clear H; (try clear w); intro w H) | (refine Zn H ?_; clear H; (try clear w); (first | ((fail_if_success (have := bl1)); intro bl1 w H) | intro _ w H)) | (refine Ze H ?_; clear H; (try clear w); intro gv w H))
      have hS := Sch.close (b := b) (bS := bS) (va := va') (sa := sa) (cap := cap) (sc := sc) (d := d) hr hsl H
      have hV := Served_q (i := (i : Int)) hS
      rw [servedN_serv, hws] at hV
      clear hr hsl hS
      (refine X.call (hV) ?_; (try clear H); rintro _ w ⟨rfl, va', cap, sa, sc, ps, hr, hsl, H⟩; refine ⟨_, rfl, ?_⟩); refine L.nil ?_; refine ⟨rfl, rfl, (by repeat (first | exact subN_nil | refine subN_cons (by simp) ?_)), (by first | exact keep_same | (repeat (first | exact keepV H0 H | exact keepP H0 H | exact keep_nil | refine keep_cons ?_ ?_))), ?_⟩; clear H0; have H0 := H
      clear hV
      repeat' (first | (refine K.convI Try.underlying3 rfl rfl rfl ?_; rw [hcv]) | (refine K.arith _ rfl rfl rfl rfl rfl ?_; rw [hwr]) | refine Z H ?_ | (refine Zc ?_ ?_ <;> intro hc <;> first | (exfalso; omega) | skip) | (refine Y ?_; try change C _ _ _ _ _ _) | (refine Zs H ?_; clear H; (try clear w); intro w H) | (refine Zn H ?_; clear H; (try clear w); (first | ((fail_if_success (have := bl1)); intro bl1 w H) | intro _ w H)) | (refine Ze H ?_; clear H; (try clear w); intro gv w H))
      have hS := Sch.close (b := b) (bS := bS) (va := va') (sa := sa) (cap := cap) (sc := sc) (d := d) hr hsl H
      have hV := Waiting_q (i := (i : Int)) hS
      rw [waiting_wait, hww] at hV
      clear hr hsl hS
      (refine X.call (hV) ?_; (try clear H); rintro _ w ⟨rfl, va', cap, sa, sc, ps, hr, hsl, H⟩; refine ⟨_, rfl, ?_⟩); refine L.nil ?_; refine ⟨rfl, rfl, (by repeat (first | exact subN_nil | refine subN_cons (by simp) ?_)), (by first | exact keep_same | (repeat (first | exact keepV H0 H | exact keepP H0 H | exact keep_nil | refine keep_cons ?_ ?_))), ?_⟩; clear H0; have H0 := H
      clear hV
      repeat' (first | refine Z H ?_ | (refine Zc ?_ ?_ <;> intro hc <;> first | (exfalso; omega) | skip) | (refine Y ?_; try change C _ _ _ _ _ _) | (refine Zs H ?_; clear H; (try clear w); intro w H) | (refine Zn H ?_; clear H; (try clear w); (first | ((fail_if_success (have := bl1)); intro bl1 w H) | intro _ w H)) | (refine Ze H ?_; clear H; (try clear w); intro gv w H))
      refine ⟨rfl, rfl, (by repeat (first | exact subN_nil | refine subN_cons (by simp) ?_)), (by first | exact keep_same | (repeat (first | exact keepV H0 H | exact keepP H0 H | exact keep_nil | refine keep_cons ?_ ?_))), ?_⟩; clear H0; have H0 := H
      repeat' (first | refine Z H ?_ | (refine Zc ?_ ?_ <;> intro hc <;> first | (exfalso; omega) | skip) | (refine Y ?_; try change C _ _ _ _ _ _) | (refine Zs H ?_; clear H; (try clear w); intro w H) | (refine Zn H ?_; clear H; (try clear w); (first | ((fail_if_success (have := bl1)); intro bl1 w H) | intro _ w H)) | (refine Ze H ?_; clear H; (try clear w); intro gv w H))
      have hS := Sch.close (b := b) (bS := bS) (va := va') (sa := sa) (cap := cap) (sc := sc) (d := d) hr hsl H
      exact ⟨by (repeat (first | exact Agr.refl | exact Agr.hav | refine Agr.upd rfl ?_ | refine Agr.in rfl ?_)), x1.xs.length - (i + 1), by omega, i + 1, rfl, by omega, rfl, hS.arr⟩
  · repeat' (first | refine Z H ?_ | (refine Zc ?_ ?_ <;> intro hc <;> first | (exfalso; omega) | skip) | (refine Y ?_; try change C _ _ _ _ _ _) | (refine Zs H ?_; clear H; (try clear w); intro w H) | (refine Zn H ?_; clear H; (try clear w); (first | ((fail_if_success (have := bl1)); intro bl1 w H) | intro _ w H)) | (refine Ze H ?_; clear H; (try clear w); intro gv w H))
    (refine X.call (awake15 H) ?_; (try clear H); rintro _ w ⟨rfl, H⟩; refine ⟨_, rfl, ?_⟩)
    repeat' (first | refine Z H ?_ | (refine Zc ?_ ?_ <;> intro hc <;> first | (exfalso; omega) | skip) | (refine Y ?_; try change C _ _ _ _ _ _) | (refine Zs H ?_; clear H; (try clear w); intro w H) | (refine Zn H ?_; clear H; (try clear w); (first | ((fail_if_success (have := bl1)); intro bl1 w H) | intro _ w H)) | (refine Ze H ?_; clear H; (try clear w); intro gv w H))
    exact ⟨_, resT rfl, rfl, H.done (hs1.trans (hs2.trans hs3))⟩

theorem shares_rdg {w : World} {cs : List Value} {v : Value} (hx : cs.length = Try.prog.cellsOf 58) (g0 : Rdg Try.prog w 58 cs) (g2 : Rdg Try.prog w 23 [v]) : Calls Try.prog 7 #[.agg cs.toArray, v] w fun e w' => e = .returned (.bool true) ∧ Only [] w w' := by
  obtain ⟨x, rfl, ox⟩ := shp_of cs hx g0
  obtain ⟨l, h1, h2⟩ := acts15_of g2
  obtain ⟨a, c, rfl, _⟩ := slS_shape h1
  exact (shares_walk (Holds.start w) ox h1 h2).mono fun e w' h => ⟨h.1, h.2.only⟩
end Go.Proofs.Ytmcojfpomejnnaa

/- IoschedApart: law15.run, walked. -/
import Derived.Test.YtmcojfpomejnnaaIoQ
set_option linter.unusedSimpArgs false
set_option linter.unusedVariables false
namespace Go.Proofs.Ytmcojfpomejnnaa
open Go Go.RowKit Go.Own

/-- a Done in memory -/
structure Dv where
  dn : Dn
  da : Option Addr
  dc : Nat
def Dv.cells (v : Dv) : List Value := [.int .i64 v.dn.part, .int .u64 (v.dn.n : Int), .slice v.da v.dn.data.length v.dc, .int .i64 v.dn.code]
def Dv.ok (s : Ro) (v : Dv) : Prop := SlS s (.slice v.da v.dn.data.length v.dc) 1 v.dn.data.length (u8s v.dn.data)
def Dv.nope : Dv := ⟨Dn.nope, none, 0⟩
theorem Dv.nope_ok (s : Ro) : Dv.nope.ok s := SlS.nil s 1
theorem build_done1 (x : Int) (w : World) : (Instr.build 48 [(0, .int .i64 x)].toArray).run Try.prog w = .ok (.agg #[.int .i64 x, .int .u64 0, .slice none 0 0, .int .i64 0]) w := by kernel_rfl
theorem build_done2 (n : Nat) (c : Int) (w : World) : (Instr.build 48 [(1, .int .u64 (n : Int)), (3, .int .i64 c)].toArray).run Try.prog w = .ok (.agg #[.int .i64 0, .int .u64 (n : Int), .slice none 0 0, .int .i64 c]) w := by kernel_rfl
theorem flat_dv (l : List Dv) (v : Dv) : (l ++ [v]).flatMap Dv.cells = l.flatMap Dv.cells ++ [.int .i64 v.dn.part, .int .u64 (v.dn.n : Int), .slice v.da v.dn.data.length v.dc, .int .i64 v.dn.code] := by simp [Dv.cells]
section
variable {pt : Int} {l : List Act15} {i : Nat} {m : SM} {o : List Dn}
theorem oth_none (h : ¬ i < l.length) : askOth pt l i m = m := by unfold askOth; rw [List.getElem?_eq_none (by omega)]
theorem oth_same (h : i < l.length) (hp : l[i].part = pt) : askOth pt l i m = m := by unfold askOth; rw [List.getElem?_eq_getElem h]; simp only; rw [if_pos hp]
theorem oth_ask (h : i < l.length) (hp : l[i].part ≠ pt) : askOth pt l i m = (m.ask l[i].part l[i].kind l[i].at_ l[i].req).1 := by unfold askOth; rw [List.getElem?_eq_getElem h]; simp only; rw [if_neg hp]
theorem own_none (h : ¬ i < l.length) : askOwn pt l i m o = (m, o) := by unfold askOwn; rw [List.getElem?_eq_none (by omega)]
theorem own_ask (h : i < l.length) : askOwn pt l i m o = ((m.ask pt l[i].kind l[i].at_ l[i].req).1, o ++ [Dn.mk 0 (m.ask pt l[i].kind l[i].at_ l[i].req).2.1 [] (m.ask pt l[i].kind l[i].at_ l[i].req).2.2]) := by unfold askOwn; rw [List.getElem?_eq_getElem h]
end

section
variable {s : Ro} {w : World} {R : List Asn}
set_option maxRecDepth 100000 in
set_option maxHeartbeats 1000000 in
theorem run_s {x : Shp} {pt : Int} {own others : List Act15} {oa ta : Option Addr} {oc tc : Nat} (H : Holds s w R) (hx : x.Ok s) (hm : mayM 16 x.xs x.rooms x.slots = 0) (hpt : I64 pt) (ho : SlS s (.slice oa own.length oc) 8 own.length (own.flatMap Act15.cells)) (hok : ∀ a ∈ own, a.Ok s) (ht : SlS s (.slice ta others.length tc) 8 others.length (others.flatMap Act15.cells)) (htk : ∀ a ∈ others, a.Ok s) :
    Calls Try.prog 40 #[.agg x.cells.toArray, .int .i64 pt, .slice oa own.length oc, .slice ta others.length tc] w fun e w' => ∃ s', ∃ vs : List Dv, ∃ aa cc, e = .returned (.slice aa vs.length cc) ∧ s.Le s' ∧ vs.map Dv.dn = (runA x pt own others 30).2.2 ∧ (∀ v ∈ vs, v.ok s') ∧ Holds s' w' (row 48 4 (.slice aa vs.length cc) vs.length (vs.flatMap Dv.cells) :: R) := by
  have bx : x.xs.length ≤ 1000 ∧ x.rooms.length ≤ 1000 ∧ x.slots.length ≤ 1000 := by
    have := (may0' hm).1
    omega
  refine enter Try.func40 rfl Try.ntmps40 rfl ?_
  repeat' (first | refine Z H ?_ | (refine Zc ?_ ?_ <;> intro hc <;> first | (exfalso; omega) | skip) | (refine Y ?_; try change C _ _ _ _ _ _) | (refine Zs H ?_; clear H; (try clear w); intro w H) | (refine Zn H ?_; clear H; (try clear w); intro _ w H) | (refine Ze H ?_; clear H; (try clear w); intro gv w H))
  (refine X.call (New_s (n := 16) H (by decide) (by decide)) ?_; (try clear H); rintro _ w ⟨b, rfl, H⟩; refine ⟨_, rfl, ?_⟩)
  repeat' (first | refine Z H ?_ | (refine Zc ?_ ?_ <;> intro hc <;> first | (exfalso; omega) | skip) | (refine Y ?_; try change C _ _ _ _ _ _) | (refine Zs H ?_; clear H; (try clear w); intro w H) | (refine Zn H ?_; clear H; (try clear w); intro _ w H) | (refine Ze H ?_; clear H; (try clear w); intro gv w H))
  (refine X.call (New_q1 H hx.hx hx.hxo hx.hr hx.hl bx.1 bx.2.1 bx.2.2 hm) ?_; (try clear H); rintro _ w ⟨s2, bS, rfl, hs2, hS⟩; refine ⟨_, rfl, ?_⟩)
  obtain ⟨va', cap, sa, sc, ps, hr, hsl, H⟩ := hS
  repeat' (first | refine Z H ?_ | (refine Zc ?_ ?_ <;> intro hc <;> first | (exfalso; omega) | skip) | (refine Y ?_; try change C _ _ _ _ _ _) | (refine Zs H ?_; clear H; (try clear w); intro w H) | (refine Zn H ?_; clear H; (try clear w); intro _ w H) | (refine Ze H ?_; clear H; (try clear w); intro gv w H))
  replace H := H.nilRow 48 4
  have hS := Sch.close (b := b) (bS := bS) (va := va') (sa := sa) (cap := cap) (sc := sc) (d := DM.new 16) hr hsl H
  have hS' : Sch s2 _ b bS (SM.new x.xs x.rooms x.slots) (dsk b (DM.new 16) :: row 48 4 (.slice none 0 0) 0 [] :: R) := hS.arr
  clear hr hsl H
  refine C.loopS [13, 14, 15, 16, 17, 18, 38, 39, 40, 41, 42, 43, 44, 45, 46, 47, 48, 49, 50, 51, 52, 53, 54, 55, 56, 57, 58, 59, 60, 61, 62, 63, 64, 65, 66, 67, 68, 69, 70, 71, 72, 73, 74, 75, 76, 77, 78, 79, 80, 81, 82, 83, 84, 85, 86, 87, 88, 89, 90, 91, 92, 93, 94, 95, 96, 97, 98, 99, 100, 101, 102, 103, 104, 105] [13, 14] rfl (fun k vs w => ∃ i : Nat, ∃ s', ∃ outs : List Dv, ∃ aa cc, k = 30 - i ∧ i ≤ 30 ∧ vs = [.slice aa outs.length cc, .int .i64 (i : Int)] ∧ s2.Le s' ∧ outs.map Dv.dn = (runA x pt own others i).2.2 ∧ (∀ v ∈ outs, v.ok s') ∧ Sch s' w b bS (runA x pt own others i).1 (dsk b (runA x pt own others i).2.1 :: row 48 4 (.slice aa outs.length cc) outs.length (outs.flatMap Dv.cells) :: R)) 30 ⟨0, s2, [], none, 0, rfl, by omega, rfl, Ro.Le.refl _, rfl, by simp, hS'⟩ ?_
  clear hS hS'
  rintro k vs hv w ⟨i, s3, outs, aa, cc, rfl, hi, rfl, hs3, hou, hok', hS⟩
  have hbd := (run_bd x pt own others i).le (k := 90) (by omega)
  have hol := (run_len x pt own others i).2
  rw [← hou, List.length_map] at hol
  by_cases hlt : i < 30
  · have hsu : runA x pt own others (i + 1) = turnA pt own others i (runA x pt own others i) := rfl
    rw [turnA] at hsu
    generalize runA x pt own others i = p at *
    obtain ⟨m, d, o⟩ := p
    simp only at hsu hou hS hbd
    subst hou
    obtain ⟨va', cap, sa, sc, ps, hr, hsl, H⟩ := hS
    repeat' (first | ((fail_if_success (with_reducible show C _ _ _ (Code.seq (Code.seq (Code.region 11 _ _) _) _) _ _)); refine Z H ?_) | (refine Zc ?_ ?_ <;> intro hc <;> first | (exfalso; omega) | skip) | (refine Y ?_; try change C _ _ _ _ _ _) | (refine Zs H ?_; clear H; (try clear w); intro w H) | (refine Zn H ?_; clear H; (try clear w); intro _ w H) | (refine Ze H ?_; clear H; (try clear w); intro gv w H))
    have hS := Sch.close (b := b) (bS := bS) (va := va') (sa := sa) (cap := cap) (sc := sc) (d := d) hr hsl H
    clear hr hsl H
    refine C.cut [42, 43, 44, 45, 46, 47, 48, 49, 50, 51, 52, 53, 54, 55, 56, 57, 58, 59, 60, 61, 62, 63, 64, 65, 66] [] rfl (fun vs w => ∃ s', s3.Le s' ∧ Sch s' w b bS (askOth pt others i m) (dsk b d :: row 48 4 (.slice aa outs.length cc) outs.length (outs.flatMap Dv.cells) :: R)) ?_ ?_
    · obtain ⟨va', cap, sa, sc, ps, hr, hsl, H⟩ := hS
      by_cases hio : i < others.length
      · obtain ⟨gl, ol, cl, hv2, _, _, hpin⟩ := elemS (ht.mono (hs2.trans hs3)) (fun _ _ => rfl) (by decide) (by omega)
        cases hv2
        have hak := (htk _ (List.getElem_mem hio)).mono (hs2.trans hs3)
        have hpA : ∀ j v, (others[i].cells)[j]? = some v → Pin s3 gl (ol + i * 8 + j) v := hpin i hio
        have hoS := oth_same (pt := pt) (m := m) hio
        have hoA := oth_ask (pt := pt) (m := m) hio
        clear hpin
        generalize others[i] = a at *
        obtain ⟨ado, apart, akind, aat, adata, afill, aoff, akv, akeep⟩ := a
        have p1 : Pin s3 gl (ol + i * 8 + 1) (.int .i64 apart) := hpA 1 _ rfl
        have hpA' : ∀ j v, ([.int .i64 ado, .int .i64 apart, .int .i64 akind, .int .i64 aat, .bool adata, u8 afill, .int .i64 aoff, akv] : List Value)[j]? = some v → Pin s3 gl (ol + i * 8 + j) v := hpA
        clear hpA
        obtain ⟨ka, kc, hkv, _, _⟩ := slS_shape hak.keep
        simp only at hoS hoA
        by_cases hne : apart = pt
        · repeat' (first | refine Z H ?_ | (refine Zc ?_ ?_ <;> intro hc <;> first | (exfalso; omega) | skip) | (refine Y ?_; try change C _ _ _ _ _ _) | (refine Zs H ?_; clear H; (try clear w); intro w H) | (refine Zn H ?_; clear H; (try clear w); intro _ w H) | (refine Ze H ?_; clear H; (try clear w); intro gv w H))
          have hS := Sch.close (b := b) (bS := bS) (va := va') (sa := sa) (cap := cap) (sc := sc) (d := d) hr hsl H
          rw [hoS hne]
          exact ⟨by (repeat (first | exact Agr.refl | exact Agr.hav | refine Agr.upd rfl ?_ | refine Agr.in rfl ?_)), s3, Ro.Le.refl _, hS.arr⟩
        · rw [hoA hne]
          repeat' (first | refine Z H ?_ | (refine Zc ?_ ?_ <;> intro hc <;> first | (exfalso; omega) | skip) | (refine Y ?_; try change C _ _ _ _ _ _) | (refine Zs H ?_; clear H; (try clear w); intro w H) | (refine Zn H ?_; clear H; (try clear w); intro _ w H) | (refine Ze H ?_; clear H; (try clear w); intro gv w H))
          refine C.drawn5 [0, 1, 2, 3, 4, 5, 6, 7, 8, 9, 10, 11] [0, 0, 0, 0, 0, 1, 0, 0, 0, 4, 2, 3] [11, 1] [0, 0, 0, 6, 14, 30, 0, 0, 192, 448, 960, 2047] (by kernel_rfl) ?_; replace H := H.drew; simp only [Reg.pick, List.filterMap_cons, List.filterMap_nil, List.getElem?_toArray, List.getElem?_cons_zero, List.getElem?_cons_succ, segN, List.take_succ_cons, List.take_zero, List.drop_succ_cons, List.drop_zero]
          repeat' (first | refine Z H ?_ | (refine Zc ?_ ?_ <;> intro hc <;> first | (exfalso; omega) | skip) | (refine Y ?_; try change C _ _ _ _ _ _) | (refine Zs H ?_; clear H; (try clear w); intro w H) | (refine Zn H ?_; clear H; (try clear w); intro _ w H) | (refine Ze H ?_; clear H; (try clear w); intro gv w H))
          (refine X.call (Request_e (a := ⟨ado, apart, akind, aat, adata, afill, aoff, akv, akeep⟩) H hkv) ?_; (try clear H); rintro _ w ⟨t1, a1, c1, rfl, ho, H⟩; refine ⟨_, rfl, ?_⟩); refine L.nil ?_; refine ⟨rfl, rfl, (by first | exact fun h => Bool.noConfusion (show false = true from h) | exact fun _ => ext_same | exact fun _ => ext_only (by assumption)), ?_⟩
          clear ho
          repeat' (first | refine Z H ?_ | (refine Zc ?_ ?_ <;> intro hc <;> first | (exfalso; omega) | skip) | (refine Y ?_; try change C _ _ _ _ _ _) | (refine Zs H ?_; clear H; (try clear w); intro w H) | (refine Zn H ?_; clear H; (try clear w); intro _ w H) | (refine Ze H ?_; clear H; (try clear w); intro gv w H))
          have hrl := req_len ⟨ado, apart, akind, aat, adata, afill, aoff, akv, akeep⟩
          generalize Act15.req ⟨ado, apart, akind, aat, adata, afill, aoff, akv, akeep⟩ = l at *
          have hS := Sch.close (b := b) (bS := bS) (va := va') (sa := sa) (cap := cap) (sc := sc) (d := d) hr hsl H
          have hA := Ask_s (i := apart) (k := akind) (a := aat) (l := l) hS (.own 1 _ rfl) hak.hp hak.ha (by omega) (fun p hp => by have := hbd.last p hp; omega)
          (refine X.call (hA) ?_; (try clear H); rintro _ w ⟨s4, rfl, hs4, hS⟩; refine ⟨_, rfl, ?_⟩); refine L.nil ?_; refine ⟨rfl, rfl, (by first | exact fun h => Bool.noConfusion (show false = true from h) | exact fun _ => ext_same | exact fun _ => ext_only (by assumption)), ?_⟩
          clear hA hr hsl
          obtain ⟨va', cap, sa, sc, ps, hr, hsl, H⟩ := hS
          repeat' (first | refine Z H ?_ | (refine Zc ?_ ?_ <;> intro hc <;> first | (exfalso; omega) | skip) | (refine Y ?_; try change C _ _ _ _ _ _) | (refine Zs H ?_; clear H; (try clear w); intro w H) | (refine Zn H ?_; clear H; (try clear w); intro _ w H) | (refine Ze H ?_; clear H; (try clear w); intro gv w H))
          have hS := Sch.close (b := b) (bS := bS) (va := va') (sa := sa) (cap := cap) (sc := sc) (d := d) hr hsl H
          exact ⟨by (repeat (first | exact Agr.refl | exact Agr.hav | refine Agr.upd rfl ?_ | refine Agr.in rfl ?_)), s4, hs4, hS.arr⟩
      · repeat' (first | refine Z H ?_ | (refine Zc ?_ ?_ <;> intro hc <;> first | (exfalso; omega) | skip) | (refine Y ?_; try change C _ _ _ _ _ _) | (refine Zs H ?_; clear H; (try clear w); intro w H) | (refine Zn H ?_; clear H; (try clear w); intro _ w H) | (refine Ze H ?_; clear H; (try clear w); intro gv w H))
        have hS := Sch.close (b := b) (bS := bS) (va := va') (sa := sa) (cap := cap) (sc := sc) (d := d) hr hsl H
        rw [oth_none hio]
        exact ⟨by (repeat (first | exact Agr.refl | exact Agr.hav | refine Agr.upd rfl ?_ | refine Agr.in rfl ?_)), s3, Ro.Le.refl _, hS.arr⟩
    clear hS
    rintro vs hv1 w ⟨s4, hs4, hS⟩
    replace hbd := oth_bd (pt := pt) (others := others) (i := i) hbd
    generalize askOth pt others i m = m1 at *
    obtain ⟨va', cap, sa, sc, ps, hr, hsl, H⟩ := hS
    repeat' (first | ((fail_if_success (with_reducible show C _ _ _ (Code.seq (Code.seq (Code.region 13 _ _) _) _) _ _)); refine Z H ?_) | (refine Zc ?_ ?_ <;> intro hc <;> first | (exfalso; omega) | skip) | (refine Y ?_; try change C _ _ _ _ _ _) | (refine Zs H ?_; clear H; (try clear w); intro w H) | (refine Zn H ?_; clear H; (try clear w); intro _ w H) | (refine Ze H ?_; clear H; (try clear w); intro gv w H))
    have hS := Sch.close (b := b) (bS := bS) (va := va') (sa := sa) (cap := cap) (sc := sc) (d := d) hr hsl H
    clear hr hsl H
    refine C.cut [13, 15, 16, 67, 68, 69, 70, 71, 72, 73, 74, 75, 76, 77, 78, 79, 80, 81, 82, 83, 84, 85, 86, 87] [13] rfl (fun vs w => ∃ s', ∃ outs' : List Dv, ∃ aa' cc', vs = [.slice aa' outs'.length cc'] ∧ s4.Le s' ∧ outs'.length ≤ 2 * i + 1 ∧ outs'.map Dv.dn = (askOwn pt own i m1 (outs.map Dv.dn)).2 ∧ (∀ v ∈ outs', v.ok s') ∧ Sch s' w b bS (askOwn pt own i m1 (outs.map Dv.dn)).1 (dsk b d :: row 48 4 (.slice aa' outs'.length cc') outs'.length (outs'.flatMap Dv.cells) :: R)) ?_ ?_
    · obtain ⟨va', cap, sa, sc, ps, hr, hsl, H⟩ := hS
      by_cases hio : i < own.length
      · obtain ⟨gl, ol, cl, hv2, _, _, hpin⟩ := elemS (ho.mono (hs2.trans (hs3.trans hs4))) (fun _ _ => rfl) (by decide) (by omega)
        cases hv2
        have hak := (hok _ (List.getElem_mem hio)).mono (hs2.trans (hs3.trans hs4))
        have hpA : ∀ j v, (own[i].cells)[j]? = some v → Pin s4 gl (ol + i * 8 + j) v := hpin i hio
        rw [own_ask hio]
        clear hpin
        generalize own[i] = a at *
        obtain ⟨ado, apart, akind, aat, adata, afill, aoff, akv, akeep⟩ := a
        have hpA' : ∀ j v, ([.int .i64 ado, .int .i64 apart, .int .i64 akind, .int .i64 aat, .bool adata, u8 afill, .int .i64 aoff, akv] : List Value)[j]? = some v → Pin s4 gl (ol + i * 8 + j) v := hpA
        clear hpA
        obtain ⟨ka, kc, hkv, _, _⟩ := slS_shape hak.keep
        repeat' (first | refine Z H ?_ | (refine Zc ?_ ?_ <;> intro hc <;> first | (exfalso; omega) | skip) | (refine Y ?_; try change C _ _ _ _ _ _) | (refine Zs H ?_; clear H; (try clear w); intro w H) | (refine Zn H ?_; clear H; (try clear w); intro _ w H) | (refine Ze H ?_; clear H; (try clear w); intro gv w H))
        (refine X.call (Request_s (a := ⟨ado, apart, akind, aat, adata, afill, aoff, akv, akeep⟩) H hkv) ?_; (try clear H); rintro _ w ⟨t1, a1, c1, rfl, H⟩; refine ⟨_, rfl, ?_⟩)
        have hrl := req_len ⟨ado, apart, akind, aat, adata, afill, aoff, akv, akeep⟩
        generalize Act15.req ⟨ado, apart, akind, aat, adata, afill, aoff, akv, akeep⟩ = l at *
        dsimp only
        have hS := Sch.close (b := b) (bS := bS) (va := va') (sa := sa) (cap := cap) (sc := sc) (d := d) hr hsl H
        have hA := Ask_s (i := pt) (k := akind) (a := aat) (l := l) hS (.own 1 _ rfl) hpt hak.ha (by omega) (fun p hp => by have := hbd.last p hp; omega)
        generalize m1.ask pt akind aat l = r at *
        obtain ⟨m2, an, ac⟩ := r
        dsimp only at hA
        (refine X.call (hA) ?_; (try clear H); rintro _ w ⟨s5, rfl, hs5, hS⟩; refine ⟨_, rfl, ?_⟩)
        clear hA hr hsl
        obtain ⟨va', cap, sa, sc, ps, hr, hsl, H⟩ := hS
        repeat' (first | (refine K.build [(1, .int .u64 _), (3, .int .i64 _)] (.agg #[.int .i64 0, .int .u64 _, .slice none 0 0, .int .i64 _]) (build_done2 _ _) rfl rfl rfl ?_) | refine Z H ?_ | (refine Zc ?_ ?_ <;> intro hc <;> first | (exfalso; omega) | skip) | (refine Y ?_; try change C _ _ _ _ _ _) | (refine Zs H ?_; clear H; (try clear w); intro w H) | (refine Zn H ?_; clear H; (try clear w); intro _ w H) | (refine Ze H ?_; clear H; (try clear w); intro gv w H))
        refine K.one H rfl rfl (by conv => lhs; whnf) (by rfl) (by rfl) ?_; clear H; (try clear w); intro g1 w H
        repeat' (first | (refine X.app H ?_; clear H; intro a3 c3 w H) | refine Z H ?_ | (refine Zc ?_ ?_ <;> intro hc <;> first | (exfalso; omega) | skip) | (refine Y ?_; try change C _ _ _ _ _ _) | (refine Zs H ?_; clear H; (try clear w); intro w H) | (refine Zn H ?_; clear H; (try clear w); intro _ w H) | (refine Ze H ?_; clear H; (try clear w); intro gv w H))
        have hS := Sch.close (b := b) (bS := bS) (va := va') (sa := sa) (cap := cap) (sc := sc) (d := d) hr hsl H
        have hS' : Sch s5 _ b bS m2 (dsk b d :: row 48 4 (.slice a3 (outs.length + 1) c3) (outs.length + 1) (outs.flatMap Dv.cells ++ [.int .i64 0, .int .u64 (an : Int), .slice none 0 0, .int .i64 ac]) :: R) := hS.arr
        refine ⟨by (repeat (first | exact Agr.refl | exact Agr.hav | refine Agr.upd rfl ?_ | refine Agr.in rfl ?_)), s5, outs ++ [⟨⟨0, an, [], ac⟩, none, 0⟩], a3, c3, by rw [List.length_append]; rfl, hs5, by simp; omega, by simp, fun v hv => ?_, ?_⟩
        · rcases List.mem_append.1 hv with hv | hv
          · exact (hok' v hv).mono (hs4.trans hs5)
          · rw [List.mem_singleton.1 hv]; exact SlS.nil _ 1
        · rw [flat_dv, List.length_append]
          exact hS'
      · rw [own_none hio]
        repeat' (first | refine Z H ?_ | (refine Zc ?_ ?_ <;> intro hc <;> first | (exfalso; omega) | skip) | (refine Y ?_; try change C _ _ _ _ _ _) | (refine Zs H ?_; clear H; (try clear w); intro w H) | (refine Zn H ?_; clear H; (try clear w); intro _ w H) | (refine Ze H ?_; clear H; (try clear w); intro gv w H))
        have hS := Sch.close (b := b) (bS := bS) (va := va') (sa := sa) (cap := cap) (sc := sc) (d := d) hr hsl H
        exact ⟨by (repeat (first | exact Agr.refl | exact Agr.hav | refine Agr.upd rfl ?_ | refine Agr.in rfl ?_)), s4, outs, aa, cc, rfl, Ro.Le.refl _, by omega, rfl, fun v hv => (hok' v hv).mono hs4, hS.arr⟩
    clear hS
    rintro vs hv2 w ⟨s5, outs1, a1, c1, rfl, hs5, hol1, hou1, hok1, hS⟩
    replace hbd := own_bd (pt := pt) (own := own) (i := i) (o := outs.map Dv.dn) hbd
    generalize askOwn pt own i m1 (outs.map Dv.dn) = r at *
    obtain ⟨m2, o2⟩ := r
    dsimp only at hsu hou1 hS hbd
    subst hou1
    obtain ⟨va', cap, sa, sc, ps, hr, hsl, H⟩ := hS
    repeat' (first | refine Z H ?_ | (refine Zc ?_ ?_ <;> intro hc <;> first | (exfalso; omega) | skip) | (refine Y ?_; try change C _ _ _ _ _ _) | (refine Zs H ?_; clear H; (try clear w); intro w H) | (refine Zn H ?_; clear H; (try clear w); intro _ w H) | (refine Ze H ?_; clear H; (try clear w); intro gv w H))
    have hS := Sch.close (b := b) (bS := bS) (va := va') (sa := sa) (cap := cap) (sc := sc) (d := d) hr hsl H
    have hT := Slot_s hS (by have := hbd.ep.pl; omega) (fun p hp => by have := hbd.served p hp; omega)
    generalize m2.slot d = r at *
    obtain ⟨m3, d3, oo⟩ := r
    dsimp only at hT hsu
    cases oo with
    | none =>
      have hee : see pt none = Dn.nope := rfl
      simp only [Option.getD_none, Option.isSome_none, Dn.zero, List.length_nil] at hT
      (refine X.call (hT) ?_; (try clear H); rintro _ w ⟨t2, a2, c2, rfl, hS⟩; refine ⟨_, rfl, ?_⟩)
      clear hT hr hsl
      obtain ⟨va', cap, sa, sc, ps, hr, hsl, H⟩ := hS
      repeat' (first | (refine K.build [(0, .int .i64 (-1))] (.agg #[.int .i64 (-1), .int .u64 0, .slice none 0 0, .int .i64 0]) (build_done1 _) rfl rfl rfl ?_) | refine Z H ?_ | (refine Zc ?_ ?_ <;> intro hc <;> first | (exfalso; omega) | skip) | (refine Y ?_; try change C _ _ _ _ _ _) | (refine Zs H ?_; clear H; (try clear w); intro w H) | (refine Zn H ?_; clear H; (try clear w); intro _ w H) | (refine Ze H ?_; clear H; (try clear w); intro gv w H))
      refine K.one H rfl rfl (by conv => lhs; whnf) (by rfl) (by rfl) ?_; clear H; (try clear w); intro g1 w H
      repeat' (first | (refine X.app H ?_; clear H; intro a4 c4 w H) | refine Z H ?_ | (refine Zc ?_ ?_ <;> intro hc <;> first | (exfalso; omega) | skip) | (refine Y ?_; try change C _ _ _ _ _ _) | (refine Zs H ?_; clear H; (try clear w); intro w H) | (refine Zn H ?_; clear H; (try clear w); intro _ w H) | (refine Ze H ?_; clear H; (try clear w); intro gv w H))
      have hS := Sch.close (b := b) (bS := bS) (va := va') (sa := sa) (cap := cap) (sc := sc) (d := d3) hr hsl H
      have hS' : Sch s5 _ b bS m3 (dsk b d3 :: row 48 4 (.slice a4 (outs1.length + 1) c4) (outs1.length + 1) (outs1.flatMap Dv.cells ++ [.int .i64 (-1), .int .u64 0, .slice none 0 0, .int .i64 0]) :: R) := hS.arr
      refine ⟨by (repeat (first | exact Agr.refl | exact Agr.hav | refine Agr.upd rfl ?_ | refine Agr.in rfl ?_)), 30 - (i + 1), by omega, i + 1, s5, outs1 ++ [Dv.nope], a4, c4, rfl, by omega, by rw [List.length_append]; rfl, hs3.trans (hs4.trans hs5), by rw [hsu]; simp [hee, Dv.nope], fun v hv => ?_, ?_⟩
      · rcases List.mem_append.1 hv with hv | hv
        · exact (hok1 v hv)
        · rw [List.mem_singleton.1 hv]; exact Dv.nope_ok _
      · rw [flat_dv, List.length_append, hsu]
        exact hS'
    | some y =>
      simp only [Option.getD_some, Option.isSome_some] at hT
      (refine X.call (hT) ?_; (try clear H); rintro _ w ⟨t2, a2, c2, rfl, hS⟩; refine ⟨_, rfl, ?_⟩)
      clear hT hr hsl
      obtain ⟨va', cap, sa, sc, ps, hr, hsl, H⟩ := hS
      first | (have hT : Holds _ _ (row t2 _ _ _ _ :: _) := H; clear hT) | (replace H := H.up 1 rfl; (try simp only [List.set_cons_zero, List.set_cons_succ, List.eraseIdx_cons_zero, List.eraseIdx_cons_succ] at H); have hT : Holds _ _ (row t2 _ _ _ _ :: _) := H; clear hT) | (replace H := H.up 2 rfl; (try simp only [List.set_cons_zero, List.set_cons_succ, List.eraseIdx_cons_zero, List.eraseIdx_cons_succ] at H); have hT : Holds _ _ (row t2 _ _ _ _ :: _) := H; clear hT) | (replace H := H.up 3 rfl; (try simp only [List.set_cons_zero, List.set_cons_succ, List.eraseIdx_cons_zero, List.eraseIdx_cons_succ] at H); have hT : Holds _ _ (row t2 _ _ _ _ :: _) := H; clear hT) | (replace H := H.up 4 rfl; (try simp only [List.set_cons_zero, List.set_cons_succ, List.eraseIdx_cons_zero, List.eraseIdx_cons_succ] at H); have hT : Holds _ _ (row t2 _ _ _ _ :: _) := H; clear hT) | (replace H := H.up 5 rfl; (try simp only [List.set_cons_zero, List.set_cons_succ, List.eraseIdx_cons_zero, List.eraseIdx_cons_succ] at H); have hT : Holds _ _ (row t2 _ _ _ _ :: _) := H; clear hT) | (replace H := H.up 6 rfl; (try simp only [List.set_cons_zero, List.set_cons_succ, List.eraseIdx_cons_zero, List.eraseIdx_cons_succ] at H); have hT : Holds _ _ (row t2 _ _ _ _ :: _) := H; clear hT)
      obtain ⟨s6, hs6, H1, hd⟩ := H.fixRow
      clear H
      have H := H1
      clear H1
      replace hr := hr.mono hs6
      replace hsl := hsl.mono hs6
      by_cases hyp : y.part = pt
      · have hee : see pt (some y) = y := by simp only [see]; rw [if_pos hyp]
        repeat' (first | refine Z H ?_ | (refine Zc ?_ ?_ <;> intro hc <;> first | (exfalso; omega) | skip) | (refine Y ?_; try change C _ _ _ _ _ _) | (refine Zs H ?_; clear H; (try clear w); intro w H) | (refine Zn H ?_; clear H; (try clear w); intro _ w H) | (refine Ze H ?_; clear H; (try clear w); intro gv w H))
        refine K.one H rfl rfl (by conv => lhs; whnf) (by rfl) (by rfl) ?_; clear H; (try clear w); intro g1 w H
        repeat' (first | (refine X.app H ?_; clear H; intro a4 c4 w H) | refine Z H ?_ | (refine Zc ?_ ?_ <;> intro hc <;> first | (exfalso; omega) | skip) | (refine Y ?_; try change C _ _ _ _ _ _) | (refine Zs H ?_; clear H; (try clear w); intro w H) | (refine Zn H ?_; clear H; (try clear w); intro _ w H) | (refine Ze H ?_; clear H; (try clear w); intro gv w H))
        have hS := Sch.close (b := b) (bS := bS) (va := va') (sa := sa) (cap := cap) (sc := sc) (d := d3) hr hsl H
        have hS' : Sch s6 _ b bS m3 (dsk b d3 :: row 48 4 (.slice a4 (outs1.length + 1) c4) (outs1.length + 1) (outs1.flatMap Dv.cells ++ [.int .i64 y.part, .int .u64 (y.n : Int), .slice a2 y.data.length c2, .int .i64 y.code]) :: R) := hS.arr
        refine ⟨by (repeat (first | exact Agr.refl | exact Agr.hav | refine Agr.upd rfl ?_ | refine Agr.in rfl ?_)), 30 - (i + 1), by omega, i + 1, s6, outs1 ++ [⟨y, a2, c2⟩], a4, c4, rfl, by omega, by rw [List.length_append]; rfl, hs3.trans (hs4.trans (hs5.trans hs6)), by rw [hsu]; simp [hee, Dv.nope], fun v hv => ?_, ?_⟩
        · rcases List.mem_append.1 hv with hv | hv
          · exact (hok1 v hv).mono hs6
          · rw [List.mem_singleton.1 hv]; exact hd
        · rw [flat_dv, List.length_append, hsu]
          exact hS'
      · have hee : see pt (some y) = Dn.nope := by simp only [see]; rw [if_neg hyp]
        repeat' (first | (refine K.build [(0, .int .i64 (-1))] (.agg #[.int .i64 (-1), .int .u64 0, .slice none 0 0, .int .i64 0]) (build_done1 _) rfl rfl rfl ?_) | refine Z H ?_ | (refine Zc ?_ ?_ <;> intro hc <;> first | (exfalso; omega) | skip) | (refine Y ?_; try change C _ _ _ _ _ _) | (refine Zs H ?_; clear H; (try clear w); intro w H) | (refine Zn H ?_; clear H; (try clear w); intro _ w H) | (refine Ze H ?_; clear H; (try clear w); intro gv w H))
        refine K.one H rfl rfl (by conv => lhs; whnf) (by rfl) (by rfl) ?_; clear H; (try clear w); intro g1 w H
        repeat' (first | (refine X.app H ?_; clear H; intro a4 c4 w H) | refine Z H ?_ | (refine Zc ?_ ?_ <;> intro hc <;> first | (exfalso; omega) | skip) | (refine Y ?_; try change C _ _ _ _ _ _) | (refine Zs H ?_; clear H; (try clear w); intro w H) | (refine Zn H ?_; clear H; (try clear w); intro _ w H) | (refine Ze H ?_; clear H; (try clear w); intro gv w H))
        have hS := Sch.close (b := b) (bS := bS) (va := va') (sa := sa) (cap := cap) (sc := sc) (d := d3) hr hsl H
        have hS' : Sch s6 _ b bS m3 (dsk b d3 :: row 48 4 (.slice a4 (outs1.length + 1) c4) (outs1.length + 1) (outs1.flatMap Dv.cells ++ [.int .i64 (-1), .int .u64 0, .slice none 0 0, .int .i64 0]) :: R) := hS.arr
        refine ⟨by (repeat (first | exact Agr.refl | exact Agr.hav | refine Agr.upd rfl ?_ | refine Agr.in rfl ?_)), 30 - (i + 1), by omega, i + 1, s6, outs1 ++ [Dv.nope], a4, c4, rfl, by omega, by rw [List.length_append]; rfl, hs3.trans (hs4.trans (hs5.trans hs6)), by rw [hsu]; simp [hee, Dv.nope], fun v hv => ?_, ?_⟩
        · rcases List.mem_append.1 hv with hv | hv
          · exact (hok1 v hv).mono hs6
          · rw [List.mem_singleton.1 hv]; exact Dv.nope_ok _
        · rw [flat_dv, List.length_append, hsu]
          exact hS'
  · have hie : i = 30 := by omega
    subst hie
    obtain ⟨va', cap, sa, sc, ps, hr, hsl, H⟩ := hS
    repeat' (first | refine Z H ?_ | (refine Zc ?_ ?_ <;> intro hc <;> first | (exfalso; omega) | skip) | (refine Y ?_; try change C _ _ _ _ _ _) | (refine Zs H ?_; clear H; (try clear w); intro w H) | (refine Zn H ?_; clear H; (try clear w); intro _ w H) | (refine Ze H ?_; clear H; (try clear w); intro gv w H))
    exact ⟨_, resT rfl, s3, outs, aa, cc, rfl, hs2.trans hs3, hou, hok', H.arr⟩
end
end Go.Proofs.Ytmcojfpomejnnaa

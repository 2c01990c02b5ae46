/- Squeezed copy of the texts Wj Wk. -/
import Derived.Test.YtgilmcpdpggikaaGreatDoorQK8f
set_option maxRecDepth 100000
set_option maxHeartbeats 1000000
set_option linter.unusedSimpArgs false
set_option linter.unusedVariables false
namespace Go.Proofs.YtgilmcpdpggikaaGreatDoor
open Go Go.RowKit Go.Own
abbrev zlog16 : List Value := [.slice none 0 0, .slice none 0 0, .bool false, .int .i64 0, .slice none 0 0, .int .i64 0, .slice none 0 0, .int .u32 0, .int .i64 0, .int .i64 0, .bool false]
def GotW (d : DM) (f : Nat) (pa : Option Addr) (pn pc e h u : Nat) (dd : Bool) (code : Int) (s : Ro) (v : Value) : Prop := ∃ cs, v = .tuple #[.agg cs.toArray, .int .i64 code] ∧ RefW s cs d f pa pn pc e h u dd
theorem GotW.mono {d : DM} {f pn pc e h u : Nat} {pa : Option Addr} {dd : Bool} {code : Int} {s s' : Ro} {v : Value} (hs : s.Le s') (k : GotW d f pa pn pc e h u dd code s v) : GotW d f pa pn pc e h u dd code s' v := by
 obtain ⟨cs, h, k⟩ := k; exact ⟨cs, h, k.mono hs⟩
def AggW (d : DM) (f : Nat) (pa : Option Addr) (pn pc e h u : Nat) (dd : Bool) (s : Ro) (v : Value) : Prop := ∃ cs, v = .agg cs.toArray ∧ RefW s cs d f pa pn pc e h u dd
theorem AggW.mono {d : DM} {f pn pc e h u : Nat} {pa : Option Addr} {dd : Bool} {s s' : Ro} {v : Value} (hs : s.Le s') (k : AggW d f pa pn pc e h u dd s v) : AggW d f pa pn pc e h u dd s' v := by
 obtain ⟨cs, h, k⟩ := k; exact ⟨cs, h, k.mono hs⟩
def wrS (ats : List Nat) (ls : List (List UInt8)) : List St := List.zipWith St.w ats ls
def ints (ats : List Nat) : List Value := ats.map fun (a : Nat) => .int .i64 (a : Int)
def allFS (cs : List Value) (tv uv : Value) (i gt ot gu ou a : Nat) (l : List UInt8) (d : DM) (f : Nat) (pa : Option Addr) (pn pc e h u : Nat) (dd : Bool) (code : Int) : List FS := [
 FS.v 18 [] (.agg cs.toArray),
 FS.v 19 [] tv,
 FS.v 20 [] (.int .i64 (i : Int)),
 FS.v 21 [1, 2] (.pointer (some ⟨gt, ot + i * 1, none⟩)),
 FS.v 22 [3] (.int .i64 (a : Int)),
 FS.v 23 [] uv,
 FS.v 24 [] (.int .i64 (i : Int)),
 FS.v 25 [5, 6] (.pointer (some ⟨gu, ou + i * 1, none⟩)),
 FS.v 26 [7] (.string (bst l)),
 FS.f 27 [0, 4, 8] (GotW d f pa pn pc e h u dd code) GotW.mono,
 FS.f 17 [9] (GotW d f pa pn pc e h u dd code) GotW.mono,
 FS.f 28 [10] (AggW d f pa pn pc e h u dd) AggW.mono,
 FS.v 29 [10] (.int .i64 code),
 FS.new 9 173 zlog16,
 FS.put2 9 28 13 [13, 11] 173,
 FS.v 10 [12] (.int .i64 code)]
theorem run_fJ (x : Ext) (d : DM) : run x [.f] d = d.flush := by
 rw [run]
 split
 ·rename_i hz; rw [run, ← hz]
 ·rfl
theorem pwrite_inW {d : DM} {f n : Nat} {l : List UInt8} (hn : n < 52) (hf : f + 52 ≤ 1000) : pwrite d ((f : Int), 52) (n : Int) l = d.write ((f + n : Nat) : Int) l := by
 have hpm : placeM (f : Int) 52 (n : Int) = (((f + n : Nat) : Int), 0) := by
  unfold placeM
  rw [if_neg (by omega), if_neg (by omega)]
  simp
 unfold pwrite; simp only; rw [hpm]; simp only [if_true]
section
variable {s : Ro} {w : World} {R : List Asn}
theorem all_s {d : DM} {f pn pc e hme u : Nat} {pa : Option Addr} {dd : Bool} {cs : List Value} {ats : List Nat} {ls : List (List UInt8)} {tv uv : Value} (H : Holds s w R) (hR : RefW s cs d f pa pn pc e hme u dd) (ht : SlS s tv 1 ats.length (ints ats)) (hu : SlS s uv 1 ats.length (strs ls)) (hlen : ls.length = ats.length) (hn : ats.length ≤ 100) (ha : ∀ a ∈ ats, a < 52) (hl : ∀ l ∈ ls, l.length ≤ 1000) (hf : f ≤ 100) (hpl : d.pend.length ≤ 10000) : Calls Tryz.prog 118 #[.agg cs.toArray, tv, uv] w fun y w' => ∃ s' cs', y = .returned (.tuple #[.agg cs'.toArray, .int .i64 (run ((f : Int), 52) (wrS ats ls ++ [.f]) d).2]) ∧ s.Le s' ∧ RefW s' cs' (run ((f : Int), 52) (wrS ats ls ++ [.f]) d).1 f pa pn pc e hme u dd ∧ Holds s' w' R := by
 have ht' := ht
 obtain ⟨ta, tc, rfl, _⟩ := ht'
 have hu' := hu
 obtain ⟨ua, uc, rfl, _⟩ := hu'
 have hR0 := hR
 obtain ⟨a0, c0, a1, c1, lf, a2, n2, c2, rfl, hD⟩ := hR0
 refine enter Tryz.func118 rfl Tryz.ntmps118 rfl ?_
 repeat' (first | refine Go8 H ?_ | (refine Gs8 H ?_; clear H; (try clear w); intro w H) | (refine Gn H ?_; clear H; (try clear w); (first | ((fail_if_success (have := bl1)); intro bl1 w H) | ((fail_if_success (have := bl2)); intro bl2 w H) | ((fail_if_success (have := bl3)); intro bl3 w H) | intro _ w H)))
 refine C.loopS [7, 8, 9, 10, 11, 12, 13, 14, 15, 16, 17, 18, 19, 20, 21, 22, 23, 24, 25, 26, 27, 28, 29, 30, 31, 32, 33, 34] [8] rfl (fun k vs w => ∃ i : Nat, ∃ di : DM, ∃ s' cs', k = ats.length - i ∧ i ≤ ats.length ∧ vs = [.int .i64 (i : Int)] ∧ s.Le s' ∧ di.pend.length ≤ 10000 + i ∧ RefW s' cs' di f pa pn pc e hme u dd ∧ run ((f : Int), 52) (wrS ats ls ++ [.f]) d = run ((f : Int), 52) (wrS (ats.drop i) (ls.drop i) ++ [.f]) di ∧ Holds s' w (var bl2 173 zlog16 :: var bl1 173 cs' :: R)) ats.length ⟨0, d, s, _, rfl, Nat.zero_le _, rfl, Ro.Le.refl _, hpl, hR, rfl, H⟩ ?_
 clear H
 rintro k vs hv w ⟨i, di, s0, cs, rfl, hi, rfl, hs0, hdi, hRi, hrun, H⟩
 generalize run ((f : Int), 52) (wrS ats ls ++ [.f]) d = res at *
 have hRc := hRi
 obtain ⟨b0, k0, b1, k1, lf', b2, m2, k2, hcs, hDi⟩ := hRc
 by_cases hlt : i < ats.length
 ·obtain ⟨gt, ot, c', hsv, _, _, hpt⟩ := posS (ht.mono hs0) (by omega) (by decide)
  cases hsv
  obtain ⟨gu, ou, c'', hsv, _, _, hpu⟩ := posS (hu.mono hs0) (by omega) (by decide)
  cases hsv
  have hlu : i < ls.length := by omega
  have pt : Pin s0 gt (ot + i * 1) (.int .i64 (ats[i] : Int)) := by rw [Nat.mul_one]; exact hpt i _ (by unfold ints; simp [hlt])
  have pu : Pin s0 gu (ou + i * 1) (.string (bst ls[i])) := by rw [Nat.mul_one]; exact hpu i _ (by unfold strs; simp [hlu])
  clear hpt hpu
  have hai := ha ats[i] (List.getElem_mem hlt)
  have hli := hl ls[i] (List.getElem_mem hlu)
  rw [List.drop_eq_getElem_cons hlt, List.drop_eq_getElem_cons hlu] at hrun
  generalize ats[i] = a at *
  generalize ls[i] = l at *
  rw [wrS, List.zipWith_cons_cons, List.cons_append, show List.zipWith St.w (ats.drop (i + 1)) (ls.drop (i + 1)) = wrS (ats.drop (i + 1)) (ls.drop (i + 1)) from rfl] at hrun
  have hpw : pwrite di ((f : Int), 52) (a : Int) l = di.write ((f + a : Nat) : Int) l := pwrite_inW hai (by omega)
  have hpl2 := pend_pwriteW di ((f : Int), 52) (a : Int) l
  subst hcs
  refine Gq8 H ?_
  generalize hdw : di.write ((f + a : Nat) : Int) l = dw at *
  obtain ⟨d', code⟩ := dw
  rw [hpw] at hpl2
  dsimp only at hpl2
  refine C.flow (allFS [.slice b0 di.secs.length k0, .slice b1 di.pend.length k1, .bool di.off, .int .i64 lf', .slice b2 m2 k2, .int .i64 (f : Int), .slice pa pn pc, .int .u32 (e : Int), .int .i64 (hme : Int), .int .i64 (u : Int), .bool dd] (.slice (some ⟨gt, ot, none⟩) ats.length tc) (.slice (some ⟨gu, ou, none⟩) ats.length uc) i gt ot gu ou a l d' f pa pn pc e hme u dd code) [11, 14, 15] [0, 1, 2, 3, 4, 5, 6, 7, 8, 9, 10, 11, 12, 14, 15] H (by kernel_rfl) rfl rfl ?_ ?_
  ·repeat' (first | exact StepsF.nil | refine StepsF.cons ?_ ?_)
   ·intro s1 h w E hs1; (conv => whnf); intro H; replace H : Holds s1 w (var bl2 173 zlog16 :: var bl1 173 [.slice b0 di.secs.length k0, .slice b1 di.pend.length k1, .bool di.off, .int .i64 lf', .slice b2 m2 k2, .int .i64 (f : Int), .slice pa pn pc, .int .u32 (e : Int), .int .i64 (hme : Int), .int .i64 (u : Int), .bool dd] :: (R ++ E)) := H
    refine Gq8 H ?_
    exact ⟨rfl, agr, s1, Ro.Le.refl _, rfl, H⟩
   ·intro s1 h w E hs1; (conv => whnf); intro H; replace H : Holds s1 w (var bl2 173 zlog16 :: var bl1 173 [.slice b0 di.secs.length k0, .slice b1 di.pend.length k1, .bool di.off, .int .i64 lf', .slice b2 m2 k2, .int .i64 (f : Int), .slice pa pn pc, .int .u32 (e : Int), .int .i64 (hme : Int), .int .i64 (u : Int), .bool dd] :: (R ++ E)) := H
    refine Gq8 H ?_
    exact ⟨rfl, agr, s1, Ro.Le.refl _, rfl, H⟩
   ·intro s1 h w E hs1; (conv => whnf); intro H; replace H : Holds s1 w (var bl2 173 zlog16 :: var bl1 173 [.slice b0 di.secs.length k0, .slice b1 di.pend.length k1, .bool di.off, .int .i64 lf', .slice b2 m2 k2, .int .i64 (f : Int), .slice pa pn pc, .int .u32 (e : Int), .int .i64 (hme : Int), .int .i64 (u : Int), .bool dd] :: (R ++ E)) := H
    refine Gq8 H ?_
    exact ⟨rfl, agr, s1, Ro.Le.refl _, rfl, H⟩
   ·intro s1 h w E hs1; (conv => whnf); rintro _ rfl; (conv => whnf); rintro _ rfl; (conv => whnf); intro H; replace H : Holds s1 w (var bl2 173 zlog16 :: var bl1 173 [.slice b0 di.secs.length k0, .slice b1 di.pend.length k1, .bool di.off, .int .i64 lf', .slice b2 m2 k2, .int .i64 (f : Int), .slice pa pn pc, .int .u32 (e : Int), .int .i64 (hme : Int), .int .i64 (u : Int), .bool dd] :: (R ++ E)) := H
    have pt1 := pt.mono hs1
    repeat' (first | (refine K.ia (i := i) rfl rfl rfl rfl rfl (by omega) ?_) | refine Go8 H ?_ | (refine Gs8 H ?_; clear H; (try clear w); intro w H) | (refine Gn H ?_; clear H; (try clear w); (first | ((fail_if_success (have := bl1)); intro bl1 w H) | ((fail_if_success (have := bl2)); intro bl2 w H) | ((fail_if_success (have := bl3)); intro bl3 w H) | intro _ w H)))
    exact ⟨rfl, agr, s1, Ro.Le.refl _, rfl, H⟩
   ·intro s1 h w E hs1; (conv => whnf); rintro _ rfl; (conv => whnf); intro H; replace H : Holds s1 w (var bl2 173 zlog16 :: var bl1 173 [.slice b0 di.secs.length k0, .slice b1 di.pend.length k1, .bool di.off, .int .i64 lf', .slice b2 m2 k2, .int .i64 (f : Int), .slice pa pn pc, .int .u32 (e : Int), .int .i64 (hme : Int), .int .i64 (u : Int), .bool dd] :: (R ++ E)) := H
    have pt1 := pt.mono hs1
    refine Gq8 H ?_
    exact ⟨rfl, agr, s1, Ro.Le.refl _, rfl, H⟩
   ·intro s1 h w E hs1; (conv => whnf); intro H; replace H : Holds s1 w (var bl2 173 zlog16 :: var bl1 173 [.slice b0 di.secs.length k0, .slice b1 di.pend.length k1, .bool di.off, .int .i64 lf', .slice b2 m2 k2, .int .i64 (f : Int), .slice pa pn pc, .int .u32 (e : Int), .int .i64 (hme : Int), .int .i64 (u : Int), .bool dd] :: (R ++ E)) := H
    refine Gq8 H ?_
    exact ⟨rfl, agr, s1, Ro.Le.refl _, rfl, H⟩
   ·intro s1 h w E hs1; (conv => whnf); intro H; replace H : Holds s1 w (var bl2 173 zlog16 :: var bl1 173 [.slice b0 di.secs.length k0, .slice b1 di.pend.length k1, .bool di.off, .int .i64 lf', .slice b2 m2 k2, .int .i64 (f : Int), .slice pa pn pc, .int .u32 (e : Int), .int .i64 (hme : Int), .int .i64 (u : Int), .bool dd] :: (R ++ E)) := H
    refine Gq8 H ?_
    exact ⟨rfl, agr, s1, Ro.Le.refl _, rfl, H⟩
   ·intro s1 h w E hs1; (conv => whnf); rintro _ rfl; (conv => whnf); rintro _ rfl; (conv => whnf); intro H; replace H : Holds s1 w (var bl2 173 zlog16 :: var bl1 173 [.slice b0 di.secs.length k0, .slice b1 di.pend.length k1, .bool di.off, .int .i64 lf', .slice b2 m2 k2, .int .i64 (f : Int), .slice pa pn pc, .int .u32 (e : Int), .int .i64 (hme : Int), .int .i64 (u : Int), .bool dd] :: (R ++ E)) := H
    refine Gq8 H ?_
    exact ⟨rfl, agr, s1, Ro.Le.refl _, rfl, H⟩
   ·intro s1 h w E hs1; (conv => whnf); rintro _ rfl; (conv => whnf); intro H; replace H : Holds s1 w (var bl2 173 zlog16 :: var bl1 173 [.slice b0 di.secs.length k0, .slice b1 di.pend.length k1, .bool di.off, .int .i64 lf', .slice b2 m2 k2, .int .i64 (f : Int), .slice pa pn pc, .int .u32 (e : Int), .int .i64 (hme : Int), .int .i64 (u : Int), .bool dd] :: (R ++ E)) := H
    have pu1 := pu.mono hs1
    refine Gq8 H ?_
    exact ⟨rfl, agr, s1, Ro.Le.refl _, rfl, H⟩
   ·intro s1 h w E hs1; (conv => whnf); rintro _ rfl; (conv => whnf); rintro _ rfl; (conv => whnf); rintro _ rfl; (conv => whnf); intro H; replace H : Holds s1 w (var bl2 173 zlog16 :: var bl1 173 [.slice b0 di.secs.length k0, .slice b1 di.pend.length k1, .bool di.off, .int .i64 lf', .slice b2 m2 k2, .int .i64 (f : Int), .slice pa pn pc, .int .u32 (e : Int), .int .i64 (hme : Int), .int .i64 (u : Int), .bool dd] :: (R ++ E)) := H
    have hW := write_s (at' := a) (l := l) H (hRi.mono hs1) (by omega) hli (by omega)
    rw [hdw] at hW
    (refine X.call (hW) ?_; (try clear H); rintro _ w ⟨s2, cs2, rfl, hs2, hR2, H⟩; refine ⟨_, rfl, ?_⟩)
    refine Gq8 H ?_
    exact ⟨rfl, agr, s2, hs2, ⟨cs2, rfl, hR2⟩, H⟩
   ·intro s1 h w E hs1; (conv => whnf); rintro _ ⟨cs2, rfl, hR2⟩; (conv => whnf); intro H; replace H : Holds s1 w (var bl2 173 zlog16 :: var bl1 173 [.slice b0 di.secs.length k0, .slice b1 di.pend.length k1, .bool di.off, .int .i64 lf', .slice b2 m2 k2, .int .i64 (f : Int), .slice pa pn pc, .int .u32 (e : Int), .int .i64 (hme : Int), .int .i64 (u : Int), .bool dd] :: (R ++ E)) := H
    refine Gq8 H ?_
    exact ⟨rfl, agr, s1, Ro.Le.refl _, ⟨cs2, rfl, hR2⟩, H⟩
   ·intro s1 h w E hs1; (conv => whnf); rintro _ ⟨cs2, rfl, hR2⟩; (conv => whnf); intro H; replace H : Holds s1 w (var bl2 173 zlog16 :: var bl1 173 [.slice b0 di.secs.length k0, .slice b1 di.pend.length k1, .bool di.off, .int .i64 lf', .slice b2 m2 k2, .int .i64 (f : Int), .slice pa pn pc, .int .u32 (e : Int), .int .i64 (hme : Int), .int .i64 (u : Int), .bool dd] :: (R ++ E)) := H
    refine Gq8 H ?_
    exact ⟨rfl, agr, s1, Ro.Le.refl _, ⟨cs2, rfl, hR2⟩, H⟩
   ·intro s1 h w E hs1; (conv => whnf); rintro _ ⟨cs2, rfl, hR2⟩; (conv => whnf); intro H; replace H : Holds s1 w (var bl2 173 zlog16 :: var bl1 173 [.slice b0 di.secs.length k0, .slice b1 di.pend.length k1, .bool di.off, .int .i64 lf', .slice b2 m2 k2, .int .i64 (f : Int), .slice pa pn pc, .int .u32 (e : Int), .int .i64 (hme : Int), .int .i64 (u : Int), .bool dd] :: (R ++ E)) := H
    refine Gq8 H ?_
    exact ⟨rfl, agr, s1, Ro.Le.refl _, rfl, H⟩
   ·intro s1 h w E hs1; (conv => whnf); intro H; replace H : Holds s1 w (var bl2 173 zlog16 :: var bl1 173 [.slice b0 di.secs.length k0, .slice b1 di.pend.length k1, .bool di.off, .int .i64 lf', .slice b2 m2 k2, .int .i64 (f : Int), .slice pa pn pc, .int .u32 (e : Int), .int .i64 (hme : Int), .int .i64 (u : Int), .bool dd] :: (R ++ E)) := H
    (refine Gq8 H ?_; clear H; (try clear w); intro bl3 w H)
    exact ⟨rfl, agr, s1, Ro.Le.refl _, ⟨bl3, rfl⟩, H⟩
   ·intro s1 h w E hs1; (conv => whnf)
    rintro _ ⟨b4, rfl⟩; (conv => whnf)
    rintro v1 ⟨cs2, rfl, hR2⟩; (conv => whnf)
    obtain ⟨d0, q0, d1, q1, lf2, d2, m3, q2, rfl, hD2⟩ := hR2
    intro H
    replace H : Holds s1 w (var b4 173 zlog16 :: var bl2 173 zlog16 :: var bl1 173 [.slice b0 di.secs.length k0, .slice b1 di.pend.length k1, .bool di.off, .int .i64 lf', .slice b2 m2 k2, .int .i64 (f : Int), .slice pa pn pc, .int .u32 (e : Int), .int .i64 (hme : Int), .int .i64 (u : Int), .bool dd] :: (R ++ E)) := H
    (refine Gq8 H ?_; clear H; (try clear w); intro w H)
    exact ⟨rfl, agr, s1, Ro.Le.refl _, ⟨b4, rfl⟩, H⟩
   ·intro s1 h w E hs1; (conv => whnf); rintro _ rfl; (conv => whnf); intro H; replace H : Holds s1 w (var bl2 173 zlog16 :: var bl1 173 [.slice b0 di.secs.length k0, .slice b1 di.pend.length k1, .bool di.off, .int .i64 lf', .slice b2 m2 k2, .int .i64 (f : Int), .slice pa pn pc, .int .u32 (e : Int), .int .i64 (hme : Int), .int .i64 (u : Int), .bool dd] :: (R ++ E)) := H
    refine Gq8 H ?_
    exact ⟨rfl, agr, s1, Ro.Le.refl _, rfl, H⟩
  ·intro s4 h' w hs4; (conv => whnf)
   rintro v1 ⟨cs2, rfl, hR2⟩; (conv => whnf)
   rintro _ ⟨b4, rfl⟩; (conv => whnf)
   rintro _ rfl; (conv => whnf)
   intro H
   replace H : Holds s4 w (var b4 173 cs2 :: var bl2 173 zlog16 :: var bl1 173 [.slice b0 di.secs.length k0, .slice b1 di.pend.length k1, .bool di.off, .int .i64 lf', .slice b2 m2 k2, .int .i64 (f : Int), .slice pa pn pc, .int .u32 (e : Int), .int .i64 (hme : Int), .int .i64 (u : Int), .bool dd] :: R) := H
   refine L.nil ⟨rfl, ?_⟩
   change C _ _ _ _ _ _
   have hR2' := hR2
   obtain ⟨d0, q0, d1, q1, lf2, d2, m3, q2, rfl, hD2⟩ := hR2'
   by_cases hc0 : code = 0
   ·subst hc0
    have hpw0 : (pwrite di ((f : Int), 52) (a : Int) l).2 = 0 := by rw [hpw]
    rw [run_ok _ hpw0, hpw] at hrun
    (refine Gq8 H ?_; clear H; (try clear w); intro w H)
    have H' := H.arr (rs' := var bl2 173 zlog16 :: var bl1 173 [.slice d0 d'.secs.length q0, .slice d1 d'.pend.length q1, .bool d'.off, .int .i64 lf2, .slice d2 m3 q2, .int .i64 (f : Int), .slice pa pn pc, .int .u32 (e : Int), .int .i64 (hme : Int), .int .i64 (u : Int), .bool dd] :: R)
    exact ⟨agr, ats.length - (i + 1), by omega, i + 1, d', s4, _, rfl, by omega, rfl, hs0.trans hs4, by omega, hR2, hrun, H'⟩
   ·have hpw0 : (pwrite di ((f : Int), 52) (a : Int) l).2 ≠ 0 := by rw [hpw]; exact hc0
    rw [run_no _ hpw0, hpw] at hrun
    (refine Gq8 H ?_; clear H; (try clear w); intro w H)
    rw [hrun]
    exact ⟨_, resVT H rfl, s4, _, rfl, hs0.trans hs4, hR2, H.arr⟩
 ·have hie : i = ats.length := by omega
  subst hie
  rw [List.drop_length, List.drop_eq_nil_of_le (by omega), wrS, List.zipWith_nil_left, List.nil_append, run_fJ] at hrun
  subst hcs
  refine Gq8 H ?_
  refine X.call (flush_s H hRi (by omega)) ?_
  clear H
  rintro _ w ⟨s4, cs2, rfl, hs4, hR2, H⟩
  refine ⟨_, rfl, ?_⟩
  have hR2' := hR2
  generalize di.flush = df at *
  obtain ⟨d', code⟩ := df
  dsimp only at hR2 hR2' ⊢
  obtain ⟨d0, q0, d1, q1, lf2, d2, m3, q2, rfl, hD2⟩ := hR2'
  (refine Gq8 H ?_; clear H; (try clear w); intro w H)
  rw [hrun]
  exact ⟨_, resVT H rfl, s4, _, rfl, hs0.trans hs4, hR2, H.arr⟩
end
def homeAts (h n : Nat) : List Nat := (List.range n).map fun i => 2 + 16 * h + i
def pgB (e i : Nat) (pgs : List (List UInt8)) : List UInt8 := secW 80 e ([UInt8.ofNat i] ++ (pgs[i]?.getD []))
def homeLs (e : Nat) (pgs : List (List UInt8)) (n : Nat) : List (List UInt8) := (List.range n).map fun i => pgB e i pgs
theorem homeAts_succ (h n : Nat) : homeAts h (n + 1) = homeAts h n ++ [2 + 16 * h + n] := by simp [homeAts, List.range_succ]
theorem homeLs_succ (e : Nat) (pgs : List (List UInt8)) (n : Nat) : homeLs e pgs (n + 1) = homeLs e pgs n ++ [pgB e n pgs] := by simp [homeLs, List.range_succ]
theorem homeAts_len (h n : Nat) : (homeAts h n).length = n := by simp [homeAts]
theorem homeLs_len (e : Nat) (pgs : List (List UInt8)) (n : Nat) : (homeLs e pgs n).length = n := by simp [homeLs]
theorem ints_app (a b : List Nat) : ints (a ++ b) = ints a ++ ints b := by simp [ints]
theorem strs_app (a b : List (List UInt8)) : strs (a ++ b) = strs a ++ strs b := by simp [strs]
theorem wrS_app {a b : List Nat} {l m : List (List UInt8)} (h : a.length = l.length) : wrS (a ++ b) (l ++ m) = wrS a l ++ wrS b m := by unfold wrS; exact List.zipWith_append h
def setSteps (ats : List Nat) (ls : List (List UInt8)) (e h : Nat) (pgs : List (List UInt8)) : List St := (wrS (ats ++ homeAts h 16) (ls ++ homeLs e pgs 16) ++ [.f]) ++ (wrS [e % 2] [headB e h] ++ [.f])
theorem run_pendJ (x : Ext) : ∀ (l : List St) (d : DM), (run x l d).1.pend.length ≤ d.pend.length + l.length
 | [], d => by simp [run]
 | .w a b :: r, d => by
  have h1 := pend_pwriteW d x (a : Int) b
  rw [List.length_cons]
  by_cases h : (pwrite d x (a : Int) b).2 = 0
  ·rw [run_ok x h]
   have := run_pendJ x r (pwrite d x (a : Int) b).1
   omega
  ·rw [run_no x h]; omega
 | .f :: r, d => by
  have h1 := pend_flushW d
  rw [List.length_cons]
  by_cases h : d.flush.2 = 0
  ·rw [run_fok x h]
   have := run_pendJ x r d.flush.1
   omega
  ·rw [run_fno x h]; omega
theorem homeAts_lt {h : Nat} (hh : h ≤ 1) : ∀ a ∈ homeAts h 16, a < 52 := by
 intro a ha
 unfold homeAts at ha
 obtain ⟨i, hi, rfl⟩ := List.mem_map.1 ha
 have := List.mem_range.1 hi
 omega
theorem pgB_len {e i : Nat} {pgs : List (List UInt8)} (h : ∀ p ∈ pgs, p.length = 40) : (pgB e i pgs).length = 64 := by
 unfold pgB
 refine secW_len ?_
 rw [List.length_append]
 cases hp : pgs[i]? with
 | none => simp
 | some p => have := h p (List.mem_of_getElem? hp); simp [this]
theorem homeLs_le {e : Nat} {pgs : List (List UInt8)} (h : ∀ p ∈ pgs, p.length = 40) : ∀ l ∈ homeLs e pgs 16, l.length ≤ 1000 := by
 intro l hl
 unfold homeLs at hl
 obtain ⟨i, _, rfl⟩ := List.mem_map.1 hl
 rw [pgB_len h]; decide
def setFS (cs : List Value) (e hme : Nat) (sec : List UInt8) (d : DM) (f : Nat) (pa : Option Addr) (pn pc eW hW u : Nat) (dd : Bool) (code : Int) : List FS := [
 FS.v 51 [] (.agg cs.toArray),
 FS.v 52 [] (.int .u32 (e : Int)),
 FS.v 53 [1] (.int .u32 ((e % 2 : Nat) : Int)),
 FS.v 54 [2] (.int .i64 ((e % 2 : Nat) : Int)),
 FS.sl 55 [3] 1 1 [.int .i64 ((e % 2 : Nat) : Int)],
 FS.v 56 [] (.int .u32 (e : Int)),
 FS.v 57 [] (.int .i64 (hme : Int)),
 FS.v 58 [6] (.string (bst [UInt8.ofNat hme])),
 FS.v 59 [5, 7] (.string (bst sec)),
 FS.sl 60 [8] 1 1 [.string (bst sec)],
 FS.f 61 [0, 4, 9] (GotW d f pa pn pc eW hW u dd code) GotW.mono,
 FS.f 62 [10] (AggW d f pa pn pc eW hW u dd) AggW.mono,
 FS.v 63 [10] (.int .i64 code)]
section
variable {s : Ro} {w : World} {R : List Asn}
theorem settle_s {d : DM} {f pc eW hW u : Nat} {pa aa ab : Option Addr} {ca cb : Nat} {dd : Bool} {cs : List Value} {ats : List Nat} {ls pgs : List (List UInt8)} {e hme : Nat} (H : Holds s w (row 3 1 (.slice aa ats.length ca) ats.length (ints ats) :: row 9 1 (.slice ab ats.length cb) ats.length (strs ls) :: R)) (hR : RefW s cs d f pa 16 pc eW hW u dd) (hp : SlS s (.slice pa 16 pc) 1 16 (strs pgs)) (hpg : pgs.length = 16) (hp40 : ∀ p ∈ pgs, p.length = 40) (he : e < 2 ^ 32) (hh : hme ≤ 1) (hlen : ls.length = ats.length) (hn : ats.length ≤ 50) (ha : ∀ a ∈ ats, a < 52) (hl : ∀ l ∈ ls, l.length ≤ 1000) (hf : f ≤ 100) (hpl : d.pend.length ≤ 5000) : Calls Tryz.prog 92 #[.agg cs.toArray, .int .u32 (e : Int), .int .i64 (hme : Int), .slice aa ats.length ca, .slice ab ats.length cb] w fun y w' => ∃ s' cs', y = .returned (.tuple #[.agg cs'.toArray, .int .i64 (run ((f : Int), 52) (setSteps ats ls e hme pgs) d).2]) ∧ s.Le s' ∧ RefW s' cs' (run ((f : Int), 52) (setSteps ats ls e hme pgs) d).1 f pa 16 pc eW hW u dd ∧ Holds s' w' R := by
 have hR0 := hR
 obtain ⟨a0, c0, a1, c1, lf, a2, n2, c2, rfl, hD⟩ := hR0
 refine enter Tryz.func92 rfl Tryz.ntmps92 rfl ?_
 repeat' (first | refine Go8 H ?_ | (refine Gs8 H ?_; clear H; (try clear w); intro w H) | (refine Gn H ?_; clear H; (try clear w); (first | ((fail_if_success (have := bl1)); intro bl1 w H) | ((fail_if_success (have := bl2)); intro bl2 w H) | ((fail_if_success (have := bl3)); intro bl3 w H) | intro _ w H)))
 have H' : Holds s w (row 3 1 (.slice aa ats.length ca) ats.length (ints ats) :: row 9 1 (.slice ab ats.length cb) ats.length (strs ls) :: var bl2 173 zlog16 :: var bl1 173 [.slice a0 d.secs.length c0, .slice a1 d.pend.length c1, .bool d.off, .int .i64 lf, .slice a2 n2 c2, .int .i64 (f : Int), .slice pa 16 pc, .int .u32 (eW : Int), .int .i64 (hW : Int), .int .i64 (u : Int), .bool dd] :: R) := H.arr
 clear H
 refine C.loopS [3, 4, 12, 15, 16, 17, 18, 19, 20, 21, 22, 23, 24, 25, 26, 27, 28, 29, 30, 31, 32, 33, 34, 35, 36, 37, 38, 39] [3, 4, 12] rfl (fun k vs w => ∃ i : Nat, ∃ s' na ca nb cb, k = 16 - i ∧ i ≤ 16 ∧ vs = [.slice na (ats.length + i) ca, .slice nb (ats.length + i) cb, .int .i64 (i : Int)] ∧ s.Le s' ∧ Holds s' w (row 3 1 (.slice na (ats.length + i) ca) (ats.length + i) (ints (ats ++ homeAts hme i)) :: row 9 1 (.slice nb (ats.length + i) cb) (ats.length + i) (strs (ls ++ homeLs e pgs i)) :: var bl2 173 zlog16 :: var bl1 173 [.slice a0 d.secs.length c0, .slice a1 d.pend.length c1, .bool d.off, .int .i64 lf, .slice a2 n2 c2, .int .i64 (f : Int), .slice pa 16 pc, .int .u32 (eW : Int), .int .i64 (hW : Int), .int .i64 (u : Int), .bool dd] :: R)) 16 ⟨0, s, aa, ca, ab, cb, rfl, Nat.zero_le _, rfl, Ro.Le.refl _, by simpa [homeAts, homeLs] using H'⟩ ?_
 clear H'
 rintro k vs hv w ⟨i, s1, na, ca, nb, cb, rfl, hi, rfl, hs1, H⟩
 by_cases hlt : i < 16
 ·obtain ⟨gp, op, c', hsv, _, _, hpp⟩ := posS (hp.mono hs1) (by decide) (by decide)
  cases hsv
  have hip : i < pgs.length := by omega
  have pp : Pin s1 gp (op + i * 1) (.string (bst pgs[i])) := by rw [Nat.mul_one]; exact hpp i _ (by unfold strs; simp [hip])
  have hpl40 := hp40 pgs[i] (List.getElem_mem hip)
  have hpgB : pgB e i pgs = secW 80 e ([UInt8.ofNat i] ++ pgs[i]) := by unfold pgB; rw [List.getElem?_eq_getElem hip]; rfl
  generalize pgs[i] = pg at *
  repeat' (first | (refine J.mul ?_) | refine Go8 H ?_ | (refine Gs8 H ?_; clear H; (try clear w); intro w H) | (refine Gn H ?_; clear H; (try clear w); (first | ((fail_if_success (have := bl1)); intro bl1 w H) | ((fail_if_success (have := bl2)); intro bl2 w H) | ((fail_if_success (have := bl3)); intro bl3 w H) | intro _ w H)))
  refine K.one H rfl rfl (by conv => lhs; whnf) (by rfl) (by rfl) ?_; clear H; (try clear w); intro g1 w H
  repeat' (first | (refine X.app H ?_; clear H; intro a3 c3 w H) | refine Go8 H ?_ | (refine Gs8 H ?_; clear H; (try clear w); intro w H) | (refine Gn H ?_; clear H; (try clear w); (first | ((fail_if_success (have := bl1)); intro bl1 w H) | ((fail_if_success (have := bl2)); intro bl2 w H) | ((fail_if_success (have := bl3)); intro bl3 w H) | intro _ w H)))
  rw [show (2 : Int) + 16 * (hme : Int) + (i : Int) = ((2 + 16 * hme + i : Nat) : Int) by omega] at H
  refine C.drawn5 [0, 1, 2, 4, 5, 6, 7, 8, 3, 9, 10, 11, 12, 13] [0, 0, 0, 0, 1, 0, 0, 1, 2, 0, 3, 3, 3, 0] [9, 2, 1, 1] [0, 0, 0, 4, 0, 16, 0, 112, 240, 508, 1022, 2046, 4095, 8191] (by kernel_rfl) ?_; replace H := H.drew; refine sgA ?_
  repeat' (first | (refine K.ia (i := i) rfl rfl rfl rfl rfl (by omega) ?_) | refine Go8 H ?_ | (refine Gs8 H ?_; clear H; (try clear w); intro w H) | (refine Gn H ?_; clear H; (try clear w); (first | ((fail_if_success (have := bl1)); intro bl1 w H) | ((fail_if_success (have := bl2)); intro bl2 w H) | ((fail_if_success (have := bl3)); intro bl3 w H) | intro _ w H)))
  (refine X.call (one_e (n := i) H (by omega)) ?_; (try clear H); rintro _ w ⟨rfl, ho, H⟩; refine ⟨_, rfl, ?_⟩); refine L.nil ?_; refine ⟨rfl, rfl, q4, ?_⟩
  clear ho
  repeat' (first | (refine J.cat (a := bst [UInt8.ofNat i]) (b := bst pg) ?_ (hl := by rw [bst_size, bst_size, hpl40]; simp); rw [bst_app]) | refine Go8 H ?_ | (refine Gs8 H ?_; clear H; (try clear w); intro w H) | (refine Gn H ?_; clear H; (try clear w); (first | ((fail_if_success (have := bl1)); intro bl1 w H) | ((fail_if_success (have := bl2)); intro bl2 w H) | ((fail_if_success (have := bl3)); intro bl3 w H) | intro _ w H)))
  (refine X.call (Sector16_s (c := 80) (e := e) (m := [UInt8.ofNat i] ++ pg) H he (by simp [hpl40])) ?_; (try clear H); rintro _ w ⟨s2, rfl, hs2, H⟩; refine ⟨_, rfl, ?_⟩); refine L.nil ?_; refine ⟨rfl, rfl, q4, ?_⟩
  rw [← hpgB]
  refine K.one H rfl rfl (by conv => lhs; whnf) (by rfl) (by rfl) ?_; clear H; (try clear w); intro g1 w H
  refine L.nil ?_; refine ⟨rfl, rfl, q4, ?_⟩
  refine X.app H ?_
  clear H
  intro a4 c4 w H
  refine L.nil ?_; refine ⟨rfl, rfl, q4, ?_⟩
  refine Gq8 H ?_
  have H' := H.arr (rs' := row 3 1 (.slice a3 (ats.length + i + 1) c3) (ats.length + i + 1) (ints (ats ++ homeAts hme i) ++ [.int .i64 ((2 + 16 * hme + i : Nat) : Int)]) :: row 9 1 (.slice a4 (ats.length + i + 1) c4) (ats.length + i + 1) (strs (ls ++ homeLs e pgs i) ++ [.string (bst (pgB e i pgs))]) :: var bl2 173 zlog16 :: var bl1 173 [.slice a0 d.secs.length c0, .slice a1 d.pend.length c1, .bool d.off, .int .i64 lf, .slice a2 n2 c2, .int .i64 (f : Int), .slice (some ⟨gp, op, none⟩) 16 pc, .int .u32 (eW : Int), .int .i64 (hW : Int), .int .i64 (u : Int), .bool dd] :: R)
  exact ⟨agr, 16 - (i + 1), by omega, i + 1, s2, a3, c3, a4, c4, rfl, by omega, rfl, hs1.trans hs2, by
   rw [homeAts_succ, homeLs_succ, ← List.append_assoc, ← List.append_assoc, ints_app, strs_app]
   exact H'⟩
 ·have hie : i = 16 := by omega
  subst hie
  refine Gq8 H ?_
  obtain ⟨s2, hs2, H1, hS1⟩ := H.fixRow
  clear H
  obtain ⟨s3, hs3, H2, hS2⟩ := H1.fixRow
  clear H1
  have H := H2
  clear H2
  have hAl : (ats ++ homeAts hme 16).length = ats.length + 16 := by rw [List.length_append, homeAts_len]
  have hLl : (ls ++ homeLs e pgs 16).length = ats.length + 16 := by rw [List.length_append, homeLs_len, hlen]
  have hA := all_s (ats := ats ++ homeAts hme 16) (ls := ls ++ homeLs e pgs 16) (tv := .slice na (ats.length + 16) ca) (uv := .slice nb (ats.length + 16) cb) H (hR.mono ((hs1.trans hs2).trans hs3)) (by rw [hAl]; exact hS1.mono hs3) (by rw [hAl]; exact hS2) (by rw [hAl, hLl]) (by omega) (fun a h => (List.mem_append.1 h).elim (ha a) (homeAts_lt hh a)) (fun l h => (List.mem_append.1 h).elim (hl l) (homeLs_le hp40 l)) hf (by omega)
  have hpend := run_pendJ ((f : Int), 52) (wrS (ats ++ homeAts hme 16) (ls ++ homeLs e pgs 16) ++ [.f]) d
  have hwl : (wrS (ats ++ homeAts hme 16) (ls ++ homeLs e pgs 16) ++ [St.f]).length ≤ ats.length + 17 := by
   rw [List.length_append]
   unfold wrS
   rw [List.length_zipWith, hAl, hLl]
   simp
  unfold setSteps
  rw [run_app]
  generalize run ((f : Int), 52) (wrS (ats ++ homeAts hme 16) (ls ++ homeLs e pgs 16) ++ [.f]) d = r1 at *
  obtain ⟨d', code⟩ := r1
  dsimp only at hA hpend ⊢
  refine X.call hA ?_
  clear H hA
  rintro _ w ⟨s4, cs2, rfl, hs4, hR2, H⟩
  refine ⟨_, rfl, ?_⟩
  have hR2' := hR2
  obtain ⟨d0, q0, d1, q1, lf2, d2, m3, q2, rfl, hD2⟩ := hR2'
  have hs5 := ((hs1.trans hs2).trans hs3).trans hs4
  by_cases hc0 : code = 0
  ·subst hc0
   rw [if_pos rfl]
   (refine Gq8 H ?_; clear H; (try clear w); intro bl3 w H)
   have hsB : secW 72 e [UInt8.ofNat hme] = headB e hme := rfl
   generalize hrB : run ((f : Int), 52) (wrS [e % 2] [headB e hme] ++ [.f]) d' = rB at *
   obtain ⟨dB, codeB⟩ := rB
   dsimp only
   refine C.flow (setFS [.slice d0 d'.secs.length q0, .slice d1 d'.pend.length q1, .bool d'.off, .int .i64 lf2, .slice d2 m3 q2, .int .i64 (f : Int), .slice pa 16 pc, .int .u32 (eW : Int), .int .i64 (hW : Int), .int .i64 (u : Int), .bool dd] e hme (headB e hme) dB f pa 16 pc eW hW u dd codeB) [11, 12] [0, 1, 2, 3, 4, 5, 6, 7, 8, 9, 10, 11, 12] H (by kernel_rfl) rfl rfl ?_ ?_
   ·repeat' (first | exact StepsF.nil | refine StepsF.cons ?_ ?_)
    ·intro s1 h w E hs1; (conv => whnf); intro H; replace H : Holds s1 w (var bl3 173 [.slice d0 d'.secs.length q0, .slice d1 d'.pend.length q1, .bool d'.off, .int .i64 lf2, .slice d2 m3 q2, .int .i64 (f : Int), .slice pa 16 pc, .int .u32 (eW : Int), .int .i64 (hW : Int), .int .i64 (u : Int), .bool dd] :: var bl2 173 zlog16 :: var bl1 173 [.slice a0 d.secs.length c0, .slice a1 d.pend.length c1, .bool d.off, .int .i64 lf, .slice a2 n2 c2, .int .i64 (f : Int), .slice pa 16 pc, .int .u32 (eW : Int), .int .i64 (hW : Int), .int .i64 (u : Int), .bool dd] :: (R ++ E)) := H
     refine Gq8 H ?_
     exact ⟨rfl, agr, s1, Ro.Le.refl _, rfl, H⟩
    ·intro s1 h w E hs1; (conv => whnf); intro H; replace H : Holds s1 w (var bl3 173 [.slice d0 d'.secs.length q0, .slice d1 d'.pend.length q1, .bool d'.off, .int .i64 lf2, .slice d2 m3 q2, .int .i64 (f : Int), .slice pa 16 pc, .int .u32 (eW : Int), .int .i64 (hW : Int), .int .i64 (u : Int), .bool dd] :: var bl2 173 zlog16 :: var bl1 173 [.slice a0 d.secs.length c0, .slice a1 d.pend.length c1, .bool d.off, .int .i64 lf, .slice a2 n2 c2, .int .i64 (f : Int), .slice pa 16 pc, .int .u32 (eW : Int), .int .i64 (hW : Int), .int .i64 (u : Int), .bool dd] :: (R ++ E)) := H
     refine Gq8 H ?_
     exact ⟨rfl, agr, s1, Ro.Le.refl _, rfl, H⟩
    ·intro s1 h w E hs1; (conv => whnf); rintro _ rfl; (conv => whnf); intro H; replace H : Holds s1 w (var bl3 173 [.slice d0 d'.secs.length q0, .slice d1 d'.pend.length q1, .bool d'.off, .int .i64 lf2, .slice d2 m3 q2, .int .i64 (f : Int), .slice pa 16 pc, .int .u32 (eW : Int), .int .i64 (hW : Int), .int .i64 (u : Int), .bool dd] :: var bl2 173 zlog16 :: var bl1 173 [.slice a0 d.secs.length c0, .slice a1 d.pend.length c1, .bool d.off, .int .i64 lf, .slice a2 n2 c2, .int .i64 (f : Int), .slice pa 16 pc, .int .u32 (eW : Int), .int .i64 (hW : Int), .int .i64 (u : Int), .bool dd] :: (R ++ E)) := H
     refine B.rem (a := e) (b := 2) ?_
     refine Gq8 H ?_
     exact ⟨rfl, agr, s1, Ro.Le.refl _, rfl, H⟩
    ·intro s1 h w E hs1; (conv => whnf); rintro _ rfl; (conv => whnf); intro H; replace H : Holds s1 w (var bl3 173 [.slice d0 d'.secs.length q0, .slice d1 d'.pend.length q1, .bool d'.off, .int .i64 lf2, .slice d2 m3 q2, .int .i64 (f : Int), .slice pa 16 pc, .int .u32 (eW : Int), .int .i64 (hW : Int), .int .i64 (u : Int), .bool dd] :: var bl2 173 zlog16 :: var bl1 173 [.slice a0 d.secs.length c0, .slice a1 d.pend.length c1, .bool d.off, .int .i64 lf, .slice a2 n2 c2, .int .i64 (f : Int), .slice pa 16 pc, .int .u32 (eW : Int), .int .i64 (hW : Int), .int .i64 (u : Int), .bool dd] :: (R ++ E)) := H
     refine K.convI Tryz.underlying160 rfl rfl rfl ?_
     rw [IntWalk.i64_in ((e % 2 : Nat) : Int) (by omega)]
     refine Gq8 H ?_
     exact ⟨rfl, agr, s1, Ro.Le.refl _, rfl, H⟩
    ·intro s1 h w E hs1; (conv => whnf); rintro _ rfl; (conv => whnf); intro H; replace H : Holds s1 w (var bl3 173 [.slice d0 d'.secs.length q0, .slice d1 d'.pend.length q1, .bool d'.off, .int .i64 lf2, .slice d2 m3 q2, .int .i64 (f : Int), .slice pa 16 pc, .int .u32 (eW : Int), .int .i64 (hW : Int), .int .i64 (u : Int), .bool dd] :: var bl2 173 zlog16 :: var bl1 173 [.slice a0 d.secs.length c0, .slice a1 d.pend.length c1, .bool d.off, .int .i64 lf, .slice a2 n2 c2, .int .i64 (f : Int), .slice pa 16 pc, .int .u32 (eW : Int), .int .i64 (hW : Int), .int .i64 (u : Int), .bool dd] :: (R ++ E)) := H
     refine K.one H rfl rfl (by conv => lhs; whnf) (by rfl) (by rfl) ?_; clear H; (try clear w); intro g1 w H
     obtain ⟨s2, hs2, H, hS⟩ := H.fixRow
     refine Gq8 H ?_
     exact ⟨rfl, agr, s2, hs2, ⟨_, _, rfl, hS⟩, H⟩
    ·intro s1 h w E hs1; (conv => whnf); intro H; replace H : Holds s1 w (var bl3 173 [.slice d0 d'.secs.length q0, .slice d1 d'.pend.length q1, .bool d'.off, .int .i64 lf2, .slice d2 m3 q2, .int .i64 (f : Int), .slice pa 16 pc, .int .u32 (eW : Int), .int .i64 (hW : Int), .int .i64 (u : Int), .bool dd] :: var bl2 173 zlog16 :: var bl1 173 [.slice a0 d.secs.length c0, .slice a1 d.pend.length c1, .bool d.off, .int .i64 lf, .slice a2 n2 c2, .int .i64 (f : Int), .slice pa 16 pc, .int .u32 (eW : Int), .int .i64 (hW : Int), .int .i64 (u : Int), .bool dd] :: (R ++ E)) := H
     refine Gq8 H ?_
     exact ⟨rfl, agr, s1, Ro.Le.refl _, rfl, H⟩
    ·intro s1 h w E hs1; (conv => whnf); intro H; replace H : Holds s1 w (var bl3 173 [.slice d0 d'.secs.length q0, .slice d1 d'.pend.length q1, .bool d'.off, .int .i64 lf2, .slice d2 m3 q2, .int .i64 (f : Int), .slice pa 16 pc, .int .u32 (eW : Int), .int .i64 (hW : Int), .int .i64 (u : Int), .bool dd] :: var bl2 173 zlog16 :: var bl1 173 [.slice a0 d.secs.length c0, .slice a1 d.pend.length c1, .bool d.off, .int .i64 lf, .slice a2 n2 c2, .int .i64 (f : Int), .slice pa 16 pc, .int .u32 (eW : Int), .int .i64 (hW : Int), .int .i64 (u : Int), .bool dd] :: (R ++ E)) := H
     refine Gq8 H ?_
     exact ⟨rfl, agr, s1, Ro.Le.refl _, rfl, H⟩
    ·intro s1 h w E hs1; (conv => whnf); rintro _ rfl; (conv => whnf); intro H; replace H : Holds s1 w (var bl3 173 [.slice d0 d'.secs.length q0, .slice d1 d'.pend.length q1, .bool d'.off, .int .i64 lf2, .slice d2 m3 q2, .int .i64 (f : Int), .slice pa 16 pc, .int .u32 (eW : Int), .int .i64 (hW : Int), .int .i64 (u : Int), .bool dd] :: var bl2 173 zlog16 :: var bl1 173 [.slice a0 d.secs.length c0, .slice a1 d.pend.length c1, .bool d.off, .int .i64 lf, .slice a2 n2 c2, .int .i64 (f : Int), .slice pa 16 pc, .int .u32 (eW : Int), .int .i64 (hW : Int), .int .i64 (u : Int), .bool dd] :: (R ++ E)) := H
     (refine X.call (one_s (n := hme) H (by omega)) ?_; (try clear H); rintro _ w ⟨rfl, H⟩; refine ⟨_, rfl, ?_⟩)
     refine Gq8 H ?_
     exact ⟨rfl, agr, s1, Ro.Le.refl _, rfl, H⟩
    ·intro s1 h w E hs1; (conv => whnf); rintro _ rfl; (conv => whnf); rintro _ rfl; (conv => whnf); intro H; replace H : Holds s1 w (var bl3 173 [.slice d0 d'.secs.length q0, .slice d1 d'.pend.length q1, .bool d'.off, .int .i64 lf2, .slice d2 m3 q2, .int .i64 (f : Int), .slice pa 16 pc, .int .u32 (eW : Int), .int .i64 (hW : Int), .int .i64 (u : Int), .bool dd] :: var bl2 173 zlog16 :: var bl1 173 [.slice a0 d.secs.length c0, .slice a1 d.pend.length c1, .bool d.off, .int .i64 lf, .slice a2 n2 c2, .int .i64 (f : Int), .slice pa 16 pc, .int .u32 (eW : Int), .int .i64 (hW : Int), .int .i64 (u : Int), .bool dd] :: (R ++ E)) := H
     (refine X.call (Sector16_s (c := 72) (e := e) (m := [UInt8.ofNat hme]) H he (by simp)) ?_; (try clear H); rintro _ w ⟨s2, rfl, hs2, H⟩; refine ⟨_, rfl, ?_⟩)
     rw [hsB]
     refine Gq8 H ?_
     exact ⟨rfl, agr, s2, hs2, rfl, H⟩
    ·intro s1 h w E hs1; (conv => whnf); rintro _ rfl; (conv => whnf); intro H; replace H : Holds s1 w (var bl3 173 [.slice d0 d'.secs.length q0, .slice d1 d'.pend.length q1, .bool d'.off, .int .i64 lf2, .slice d2 m3 q2, .int .i64 (f : Int), .slice pa 16 pc, .int .u32 (eW : Int), .int .i64 (hW : Int), .int .i64 (u : Int), .bool dd] :: var bl2 173 zlog16 :: var bl1 173 [.slice a0 d.secs.length c0, .slice a1 d.pend.length c1, .bool d.off, .int .i64 lf, .slice a2 n2 c2, .int .i64 (f : Int), .slice pa 16 pc, .int .u32 (eW : Int), .int .i64 (hW : Int), .int .i64 (u : Int), .bool dd] :: (R ++ E)) := H
     refine K.one H rfl rfl (by conv => lhs; whnf) (by rfl) (by rfl) ?_; clear H; (try clear w); intro g1 w H
     obtain ⟨s2, hs2, H, hS⟩ := H.fixRow
     refine Gq8 H ?_
     exact ⟨rfl, agr, s2, hs2, ⟨_, _, rfl, hS⟩, H⟩
    ·intro s1 h w E hs1; (conv => whnf); rintro _ rfl; (conv => whnf); rintro _ ⟨x1, y1, rfl, hSa⟩; (conv => whnf); rintro _ ⟨x2, y2, rfl, hSb⟩; (conv => whnf); intro H; replace H : Holds s1 w (var bl3 173 [.slice d0 d'.secs.length q0, .slice d1 d'.pend.length q1, .bool d'.off, .int .i64 lf2, .slice d2 m3 q2, .int .i64 (f : Int), .slice pa 16 pc, .int .u32 (eW : Int), .int .i64 (hW : Int), .int .i64 (u : Int), .bool dd] :: var bl2 173 zlog16 :: var bl1 173 [.slice a0 d.secs.length c0, .slice a1 d.pend.length c1, .bool d.off, .int .i64 lf, .slice a2 n2 c2, .int .i64 (f : Int), .slice pa 16 pc, .int .u32 (eW : Int), .int .i64 (hW : Int), .int .i64 (u : Int), .bool dd] :: (R ++ E)) := H
     have hB := all_s (ats := [e % 2]) (ls := [headB e hme]) H (hR2.mono hs1) hSa hSb rfl (by simp) (by simp; omega) (by simp [headB, secW_len]) hf (by omega)
     rw [hrB] at hB
     (refine X.call (hB) ?_; (try clear H); rintro _ w ⟨s2, cs3, rfl, hs2, hR3, H⟩; refine ⟨_, rfl, ?_⟩)
     refine Gq8 H ?_
     exact ⟨rfl, agr, s2, hs2, ⟨cs3, rfl, hR3⟩, H⟩
    ·intro s1 h w E hs1; (conv => whnf); rintro _ ⟨cs3, rfl, hR3⟩; (conv => whnf); intro H; replace H : Holds s1 w (var bl3 173 [.slice d0 d'.secs.length q0, .slice d1 d'.pend.length q1, .bool d'.off, .int .i64 lf2, .slice d2 m3 q2, .int .i64 (f : Int), .slice pa 16 pc, .int .u32 (eW : Int), .int .i64 (hW : Int), .int .i64 (u : Int), .bool dd] :: var bl2 173 zlog16 :: var bl1 173 [.slice a0 d.secs.length c0, .slice a1 d.pend.length c1, .bool d.off, .int .i64 lf, .slice a2 n2 c2, .int .i64 (f : Int), .slice pa 16 pc, .int .u32 (eW : Int), .int .i64 (hW : Int), .int .i64 (u : Int), .bool dd] :: (R ++ E)) := H
     refine Gq8 H ?_
     exact ⟨rfl, agr, s1, Ro.Le.refl _, ⟨cs3, rfl, hR3⟩, H⟩
    ·intro s1 h w E hs1; (conv => whnf); rintro _ ⟨cs3, rfl, hR3⟩; (conv => whnf); intro H; replace H : Holds s1 w (var bl3 173 [.slice d0 d'.secs.length q0, .slice d1 d'.pend.length q1, .bool d'.off, .int .i64 lf2, .slice d2 m3 q2, .int .i64 (f : Int), .slice pa 16 pc, .int .u32 (eW : Int), .int .i64 (hW : Int), .int .i64 (u : Int), .bool dd] :: var bl2 173 zlog16 :: var bl1 173 [.slice a0 d.secs.length c0, .slice a1 d.pend.length c1, .bool d.off, .int .i64 lf, .slice a2 n2 c2, .int .i64 (f : Int), .slice pa 16 pc, .int .u32 (eW : Int), .int .i64 (hW : Int), .int .i64 (u : Int), .bool dd] :: (R ++ E)) := H
     refine Gq8 H ?_
     exact ⟨rfl, agr, s1, Ro.Le.refl _, rfl, H⟩
   ·intro s6 h' w hs6; (conv => whnf)
    rintro v1 ⟨cs3, rfl, hR3⟩; (conv => whnf)
    rintro _ rfl; (conv => whnf)
    intro H
    replace H : Holds s6 w (var bl3 173 [.slice d0 d'.secs.length q0, .slice d1 d'.pend.length q1, .bool d'.off, .int .i64 lf2, .slice d2 m3 q2, .int .i64 (f : Int), .slice pa 16 pc, .int .u32 (eW : Int), .int .i64 (hW : Int), .int .i64 (u : Int), .bool dd] :: var bl2 173 zlog16 :: var bl1 173 [.slice a0 d.secs.length c0, .slice a1 d.pend.length c1, .bool d.off, .int .i64 lf, .slice a2 n2 c2, .int .i64 (f : Int), .slice pa 16 pc, .int .u32 (eW : Int), .int .i64 (hW : Int), .int .i64 (u : Int), .bool dd] :: R) := H
    obtain ⟨z0, t0, z1, t1, lf3, z2, m4, t2, rfl, hD3⟩ := id hR3
    change L _ _ _ _ [_, _] _ _
    (refine Gq8 H ?_; clear H; (try clear w); intro w H)
    refine ⟨rfl, ?_⟩
    change C _ _ _ _ _ _
    refine Gq8 H ?_
    exact ⟨_, resVT H rfl, s6, _, rfl, hs5.trans hs6, hR3, H.arr⟩
  ·rw [if_neg hc0]
   (refine Gq8 H ?_; clear H; (try clear w); intro bl3 w H)
   exact ⟨_, resVT H rfl, s4, _, rfl, hs5, hR2, H.arr⟩
end
end Go.Proofs.YtgilmcpdpggikaaGreatDoor

/- The document's log (layer 16): Sector, one, write, flush, walked. The document's log (layer 16): all, settle, Format, walked. -/
import Derived.Test.YtbknpbihgfphaaaDoorOpWc
import Derived.Test.YtbknpbihgfphaaaDoorOpK9
import Derived.Test.YtbknpbihgfphaaaDoorOpK8f
import Derived.Test.YtbknpbihgfphaaaDoorOpRc
import Derived.Test.YtbknpbihgfphaaaDoorOpRf
set_option linter.unusedSimpArgs false
set_option linter.unusedVariables false
namespace Go.Proofs.YtbknpbihgfphaaaDoor
open Go Go.RowKit Go.Own
theorem refCellsW {s : Ro} {v : Value} {d : DM} (h : RefS s v d) : ∃ a0 c0 a1 c1 lf a2 n2 c2, v = .agg [.slice a0 d.secs.length c0, .slice a1 d.pend.length c1, .bool d.off, .int .i64 lf, .slice a2 n2 c2].toArray := by
  obtain ⟨_, ah, ch, aw, cw, sa, sc, lf, surv, rfl, _⟩ := h
  exact ⟨ah, ch, aw, cw, lf, sa, _, sc, rfl⟩
/-- a log of the document's in memory: the disk is d, then the other cells -/
def RefW (s : Ro) (cs : List Value) (d : DM) (f : Nat) (pa : Option Addr) (pn pc e h u : Nat) (dd : Bool) : Prop := ∃ a0 c0 a1 c1 lf a2 n2 c2,
  cs = [.slice a0 d.secs.length c0, .slice a1 d.pend.length c1, .bool d.off, .int .i64 lf, .slice a2 n2 c2, .int .i64 (f : Int), .slice pa pn pc, .int .u32 (e : Int), .int .i64 (h : Int), .int .i64 (u : Int), .bool dd] ∧
  RefS s (.agg [.slice a0 d.secs.length c0, .slice a1 d.pend.length c1, .bool d.off, .int .i64 lf, .slice a2 n2 c2].toArray) d
theorem RefW.mono {s s' : Ro} {cs : List Value} {d : DM} {f pn pc e h u : Nat} {pa : Option Addr} {dd : Bool} (k : RefW s cs d f pa pn pc e h u dd) (hs : s.Le s') : RefW s' cs d f pa pn pc e h u dd := by
  obtain ⟨a0, c0, a1, c1, lf, a2, n2, c2, h1, h2⟩ := k
  exact ⟨a0, c0, a1, c1, lf, a2, n2, c2, h1, h2.mono hs⟩
section
variable {s : Ro} {w : World} {R : List Asn}
set_option maxRecDepth 100000 in
set_option maxHeartbeats 1000000 in
theorem Sector16_s {c : UInt8} {e : Nat} {m : List UInt8} (H : Holds s w R) (he : e < 2 ^ 32) (hm : m.length ≤ 55) : Calls Tryd.prog 39 #[.string (bst [c]), .int .u32 (e : Int), .string (bst m)] w fun y w' => ∃ s', y = .returned (.string (bst (secW c e m))) ∧ s.Le s' ∧ Holds s' w' R := by
  have wn : e % 2 ^ 64 = e := Nat.mod_eq_of_lt (by omega)
  have h4 := putN_len e 4
  refine enter Tryd.func39 rfl Tryd.ntmps39 rfl ?_
  repeat' (first | (refine B.conv Tryd.underlying32 ?_; rw [wn]) | refine Z H ?_ | (refine Zc ?_ ?_ <;> intro hc <;> first | (exfalso; omega) | skip) | (refine Y ?_; try change C _ _ _ _ _ _) | (refine Zs H ?_; clear H; (try clear w); intro w H) | (refine Zn H ?_; clear H; (try clear w); intro _ w H) | (refine Ze H ?_; clear H; (try clear w); intro gv w H))
  (refine X.call (Put2_s (n := e) (size := 4) H (by omega) (by decide)) ?_; (try clear H); rintro _ w ⟨a1, c1, rfl, H⟩; refine ⟨_, rfl, ?_⟩)
  repeat' (first | (refine X.stro H ?_) | (refine J.cat (a := bst [c]) (b := bst (putN e 4)) ?_ (hl := by rw [bst_size, bst_size, h4]; simp); rw [bst_app]) | (refine J.cat (a := bst ([c] ++ putN e 4)) (b := bst m) ?_ (hl := by rw [bst_size, bst_size]; simp only [List.length_append, h4, List.length_cons, List.length_nil]; omega); rw [bst_app]) | refine Z H ?_ | (refine Zc ?_ ?_ <;> intro hc <;> first | (exfalso; omega) | skip) | (refine Y ?_; try change C _ _ _ _ _ _) | (refine Zs H ?_; clear H; (try clear w); intro w H) | (refine Zn H ?_; clear H; (try clear w); intro _ w H) | (refine Ze H ?_; clear H; (try clear w); intro gv w H))
  have hsz : (bst (([c] ++ putN e 4) ++ m)).size = 5 + m.length := by rw [bst_size]; simp only [List.length_append, h4, List.length_cons, List.length_nil]
  have hcl := contW_len (c := c) (e := e) hm
  have hs60 : (60 : Int) - ((bst (([c] ++ putN e 4) ++ m)).size : Int) = ((55 - m.length : Nat) : Int) := by rw [hsz]; omega
  repeat' (first | refine Z H ?_ | (refine Zc ?_ ?_ <;> intro hc <;> first | (exfalso; omega) | skip) | (refine Y ?_; try change C _ _ _ _ _ _) | (refine Zs H ?_; clear H; (try clear w); intro w H) | (refine Zn H ?_; clear H; (try clear w); intro _ w H) | (refine Ze H ?_; clear H; (try clear w); intro gv w H))
  rw [hs60]
  (refine X.call (Noughts16_s (n := 55 - m.length) H (by omega)) ?_; (try clear H); rintro _ w ⟨rfl, _, H⟩; refine ⟨_, rfl, ?_⟩)
  refine J.cat (a := bst (([c] ++ putN e 4) ++ m)) (b := bst (List.replicate (55 - m.length) 0)) ?_ (hl := by rw [hsz, bst_size, List.length_replicate]; omega)
  rw [bst_app, show (([c] ++ putN e 4) ++ m) ++ List.replicate (55 - m.length) 0 = contW c e m from rfl]
  refine X.bts (l := contW c e m) H ?_ Tryd.underlying5 (hl := by rw [hcl]; decide)
  clear H
  intro s2 gb cb w hs2 H hS
  repeat' (first | refine Z H ?_ | (refine Zc ?_ ?_ <;> intro hc <;> first | (exfalso; omega) | skip) | (refine Y ?_; try change C _ _ _ _ _ _) | (refine Zs H ?_; clear H; (try clear w); intro w H) | (refine Zn H ?_; clear H; (try clear w); intro _ w H) | (refine Ze H ?_; clear H; (try clear w); intro gv w H))
  (refine X.call (Seal3_s H (.ro hS) (by omega)) ?_; (try clear H); rintro _ w ⟨a2, c2, rfl, H⟩; refine ⟨_, rfl, ?_⟩)
  repeat' (first | (refine X.stro H ?_) | refine Z H ?_ | (refine Zc ?_ ?_ <;> intro hc <;> first | (exfalso; omega) | skip) | (refine Y ?_; try change C _ _ _ _ _ _) | (refine Zs H ?_; clear H; (try clear w); intro w H) | (refine Zn H ?_; clear H; (try clear w); intro _ w H) | (refine Ze H ?_; clear H; (try clear w); intro gv w H))
  exact ⟨_, resT rfl, s2, rfl, hs2, H.tail.tail⟩
set_option maxRecDepth 100000 in
set_option maxHeartbeats 1000000 in
theorem one_s {n : Nat} (H : Holds s w R) (hn : n < 256) : Calls Tryd.prog 89 #[.int .i64 (n : Int)] w fun y w' => y = .returned (.string (bst [UInt8.ofNat n])) ∧ Holds s w' R := by
  have wh : n % 2 ^ 8 = n := Nat.mod_eq_of_lt hn
  have hq := u8_nat hn
  refine enter Tryd.func89 rfl Tryd.ntmps89 rfl ?_
  repeat' (first | (refine B.conv Tryd.underlying3 ?_; rw [wh]) | refine Z H ?_ | (refine Zc ?_ ?_ <;> intro hc <;> first | (exfalso; omega) | skip) | (refine Y ?_; try change C _ _ _ _ _ _) | (refine Zs H ?_; clear H; (try clear w); intro w H) | (refine Zn H ?_; clear H; (try clear w); intro _ w H) | (refine Ze H ?_; clear H; (try clear w); intro gv w H))
  refine K.one H rfl rfl (by conv => lhs; whnf) (by rfl) (by rfl) ?_; clear H; (try clear w); intro g1 w H
  have H' : Holds s w (row 5 1 (.slice (some ⟨g1, 0, none⟩) [UInt8.ofNat n].length 1) [UInt8.ofNat n].length (u8s [UInt8.ofNat n]) :: R) := by
    rw [hq] at H
    exact H
  clear H
  have H := H'
  clear H'
  repeat' (first | (refine X.str (v := .slice (some ⟨g1, 0, none⟩) 1 1) (l := [UInt8.ofNat n]) H ?_ (hb := .own 0 _ rfl)) | refine Z H ?_ | (refine Zc ?_ ?_ <;> intro hc <;> first | (exfalso; omega) | skip) | (refine Y ?_; try change C _ _ _ _ _ _) | (refine Zs H ?_; clear H; (try clear w); intro w H) | (refine Zn H ?_; clear H; (try clear w); intro _ w H) | (refine Ze H ?_; clear H; (try clear w); intro gv w H))
  exact ⟨_, resT rfl, rfl, H.tail⟩
theorem one_e {n : Nat} (H : Holds s w R) (hn : n < 256) : Calls Tryd.prog 89 #[.int .i64 (n : Int)] w fun y w' => y = .returned (.string (bst [UInt8.ofNat n])) ∧ Only [] w w' ∧ Holds s w' R :=
  (one_s H.full hn).mono fun y w' ⟨he, H'⟩ => ⟨he, H.pure0 H'⟩
set_option maxRecDepth 100000 in
set_option maxHeartbeats 1000000 in
theorem write_s {d : DM} {f pn pc e h u at' : Nat} {pa : Option Addr} {dd : Bool} {cs : List Value} {l : List UInt8} (H : Holds s w R) (hR : RefW s cs d f pa pn pc e h u dd) (hf : f + at' ≤ 1000) (hl : l.length ≤ 1000) (hpl : d.pend.length ≤ 100000) : Calls Tryd.prog 114 #[.agg cs.toArray, .int .i64 (at' : Int), .string (bst l)] w fun y w' => ∃ s' cs', y = .returned (.tuple #[.agg cs'.toArray, .int .i64 (d.write ((f + at' : Nat) : Int) l).2]) ∧ s.Le s' ∧ RefW s' cs' (d.write ((f + at' : Nat) : Int) l).1 f pa pn pc e h u dd ∧ Holds s' w' R := by
  obtain ⟨a0, c0, a1, c1, lf, a2, n2, c2, rfl, hD⟩ := hR
  refine enter Tryd.func114 rfl Tryd.ntmps114 rfl ?_
  repeat' (first | (refine X.ldp [.slice a0 d.secs.length c0, .slice a1 d.pend.length c1, .bool d.off, .int .i64 lf, .slice a2 n2 c2] H ?_) | refine Z H ?_ | (refine Zc ?_ ?_ <;> intro hc <;> first | (exfalso; omega) | skip) | (refine Y ?_; try change C _ _ _ _ _ _) | (refine Zs H ?_; clear H; (try clear w); intro w H) | (refine Zn H ?_; clear H; (try clear w); intro _ w H) | (refine Ze H ?_; clear H; (try clear w); intro gv w H))
  rw [show (f : Int) + (at' : Int) = ((f + at' : Nat) : Int) by omega]
  refine X.call (Write_r (n := ((f + at' : Nat) : Int)) (b := l) H hD hpl (by omega)) ?_
  clear H
  rintro _ w ⟨s1, v', rfl, hs1, hD', H⟩
  refine ⟨_, rfl, ?_⟩
  generalize d.write ((f + at' : Nat) : Int) l = dw at *
  obtain ⟨d', code⟩ := dw
  dsimp only at hD' ⊢
  have hDc := hD'
  obtain ⟨b0, k0, b1, k1, lf', b2, m2, k2, rfl⟩ := refCellsW hDc
  repeat' (first | (refine X.stp [.slice b0 d'.secs.length k0, .slice b1 d'.pend.length k1, .bool d'.off, .int .i64 lf', .slice b2 m2 k2, .int .i64 (f : Int), .slice pa pn pc, .int .u32 (e : Int), .int .i64 (h : Int), .int .i64 (u : Int), .bool dd] H ?_; clear H; (try clear w); intro w H) | refine Z H ?_ | (refine Zc ?_ ?_ <;> intro hc <;> first | (exfalso; omega) | skip) | (refine Y ?_; try change C _ _ _ _ _ _) | (refine Zs H ?_; clear H; (try clear w); intro w H) | (refine Zn H ?_; clear H; (try clear w); intro _ w H) | (refine Ze H ?_; clear H; (try clear w); intro gv w H))
  exact ⟨_, resVT H rfl, s1, _, rfl, hs1, ⟨b0, k0, b1, k1, lf', b2, m2, k2, rfl, hD'⟩, H.tail.tail.tail⟩
set_option maxRecDepth 100000 in
set_option maxHeartbeats 1000000 in
theorem flush_s {d : DM} {f pn pc e h u : Nat} {pa : Option Addr} {dd : Bool} {cs : List Value} (H : Holds s w R) (hR : RefW s cs d f pa pn pc e h u dd) (hpl : d.pend.length ≤ 100000) : Calls Tryd.prog 115 #[.agg cs.toArray] w fun y w' => ∃ s' cs', y = .returned (.tuple #[.agg cs'.toArray, .int .i64 d.flush.2]) ∧ s.Le s' ∧ RefW s' cs' d.flush.1 f pa pn pc e h u dd ∧ Holds s' w' R := by
  obtain ⟨a0, c0, a1, c1, lf, a2, n2, c2, rfl, hD⟩ := hR
  refine enter Tryd.func115 rfl Tryd.ntmps115 rfl ?_
  repeat' (first | (refine X.ldp [.slice a0 d.secs.length c0, .slice a1 d.pend.length c1, .bool d.off, .int .i64 lf, .slice a2 n2 c2] H ?_) | refine Z H ?_ | (refine Zc ?_ ?_ <;> intro hc <;> first | (exfalso; omega) | skip) | (refine Y ?_; try change C _ _ _ _ _ _) | (refine Zs H ?_; clear H; (try clear w); intro w H) | (refine Zn H ?_; clear H; (try clear w); intro _ w H) | (refine Ze H ?_; clear H; (try clear w); intro gv w H))
  refine X.call (Flush_r H hD (by omega)) ?_
  clear H
  rintro _ w ⟨s1, v', rfl, hs1, hD', H⟩
  refine ⟨_, rfl, ?_⟩
  generalize d.flush = dw at *
  obtain ⟨d', code⟩ := dw
  dsimp only at hD' ⊢
  have hDc := hD'
  obtain ⟨b0, k0, b1, k1, lf', b2, m2, k2, rfl⟩ := refCellsW hDc
  repeat' (first | (refine X.stp [.slice b0 d'.secs.length k0, .slice b1 d'.pend.length k1, .bool d'.off, .int .i64 lf', .slice b2 m2 k2, .int .i64 (f : Int), .slice pa pn pc, .int .u32 (e : Int), .int .i64 (h : Int), .int .i64 (u : Int), .bool dd] H ?_; clear H; (try clear w); intro w H) | refine Z H ?_ | (refine Zc ?_ ?_ <;> intro hc <;> first | (exfalso; omega) | skip) | (refine Y ?_; try change C _ _ _ _ _ _) | (refine Zs H ?_; clear H; (try clear w); intro w H) | (refine Zn H ?_; clear H; (try clear w); intro _ w H) | (refine Ze H ?_; clear H; (try clear w); intro gv w H))
  exact ⟨_, resVT H rfl, s1, _, rfl, hs1, ⟨b0, k0, b1, k1, lf', b2, m2, k2, rfl, hD'⟩, H.tail.tail.tail⟩
end
end Go.Proofs.YtbknpbihgfphaaaDoor
set_option linter.unusedSimpArgs false
set_option linter.unusedVariables false
namespace Go.Proofs.YtbknpbihgfphaaaDoor
open Go Go.RowKit Go.Own
abbrev zlog16 : List Value := [.slice none 0 0, .slice none 0 0, .bool false, .int .i64 0, .slice none 0 0, .int .i64 0, .slice none 0 0, .int .u32 0, .int .i64 0, .int .i64 0, .bool false]
def GotW (d : DM) (f : Nat) (pa : Option Addr) (pn pc e h u : Nat) (dd : Bool) (code : Int) (s : Ro) (v : Value) : Prop := ∃ cs, v = .tuple #[.agg cs.toArray, .int .i64 code] ∧ RefW s cs d f pa pn pc e h u dd
theorem GotW.mono {d : DM} {f pn pc e h u : Nat} {pa : Option Addr} {dd : Bool} {code : Int} {s s' : Ro} {v : Value} (hs : s.Le s') (k : GotW d f pa pn pc e h u dd code s v) : GotW d f pa pn pc e h u dd code s' v := by
  obtain ⟨cs, h, k⟩ := k; exact ⟨cs, h, k.mono hs⟩
def AggW (d : DM) (f : Nat) (pa : Option Addr) (pn pc e h u : Nat) (dd : Bool) (s : Ro) (v : Value) : Prop := ∃ cs, v = .agg cs.toArray ∧ RefW s cs d f pa pn pc e h u dd
theorem AggW.mono {d : DM} {f pn pc e h u : Nat} {pa : Option Addr} {dd : Bool} {s s' : Ro} {v : Value} (hs : s.Le s') (k : AggW d f pa pn pc e h u dd s v) : AggW d f pa pn pc e h u dd s' v := by
  obtain ⟨cs, h, k⟩ := k; exact ⟨cs, h, k.mono hs⟩
def wrS (ats : List Nat) (ls : List (List UInt8)) : List St := List.zipWith St.w ats ls
def ints (ats : List Nat) : List Value := ats.map fun (a : Nat) => .int .i64 (a : Int)
def allFS (cs : List Value) (tv uv : Value) (i gt ot gu ou a : Nat) (l : List UInt8) (d : DM) (f : Nat) (pa : Option Addr) (pn pc e h u : Nat) (dd : Bool) (code : Int) : List FS := [
/-  0 -/ FS.v 18 [] (.agg cs.toArray),
/-  1 -/ FS.v 19 [] tv,
/-  2 -/ FS.v 20 [] (.int .i64 (i : Int)),
/-  3 -/ FS.v 21 [1, 2] (.pointer (some ⟨gt, ot + i * 1, none⟩)),
/-  4 -/ FS.v 22 [3] (.int .i64 (a : Int)),
/-  5 -/ FS.v 23 [] uv,
/-  6 -/ FS.v 24 [] (.int .i64 (i : Int)),
/-  7 -/ FS.v 25 [5, 6] (.pointer (some ⟨gu, ou + i * 1, none⟩)),
/-  8 -/ FS.v 26 [7] (.string (bst l)),
/-  9 -/ FS.f 27 [0, 4, 8] (GotW d f pa pn pc e h u dd code) GotW.mono,
/- 10 -/ FS.f 17 [9] (GotW d f pa pn pc e h u dd code) GotW.mono,
/- 11 -/ FS.f 28 [10] (AggW d f pa pn pc e h u dd) AggW.mono,
/- 12 -/ FS.v 29 [10] (.int .i64 code),
/- 13 -/ FS.new 9 86 zlog16,
/- 14 -/ FS.put2 9 28 13 [13, 11] 86,
/- 15 -/ FS.v 10 [12] (.int .i64 code)]
theorem run_fJ (x : Ext) (d : DM) : run x [.f] d = d.flush := by
  rw [run]
  split
  · rename_i hz; rw [run, ← hz]
  · rfl
theorem pwrite_inW {d : DM} {f n : Nat} {l : List UInt8} (hn : n < 52) (hf : f + 52 ≤ 1000) : pwrite d ((f : Int), 52) (n : Int) l = d.write ((f + n : Nat) : Int) l := by
  have hpm : placeM (f : Int) 52 (n : Int) = (((f + n : Nat) : Int), 0) := by
    unfold placeM
    rw [if_neg (by omega), if_neg (by omega)]
    simp
  unfold pwrite; simp only; rw [hpm]; simp only [if_true]
section
variable {s : Ro} {w : World} {R : List Asn}
set_option maxRecDepth 100000 in
set_option maxHeartbeats 1000000 in
theorem all_s {d : DM} {f pn pc e hme u : Nat} {pa : Option Addr} {dd : Bool} {cs : List Value} {ats : List Nat} {ls : List (List UInt8)} {tv uv : Value} (H : Holds s w R) (hR : RefW s cs d f pa pn pc e hme u dd) (ht : SlS s tv 1 ats.length (ints ats)) (hu : SlS s uv 1 ats.length (strs ls)) (hlen : ls.length = ats.length) (hn : ats.length ≤ 100) (ha : ∀ a ∈ ats, a < 52) (hl : ∀ l ∈ ls, l.length ≤ 1000) (hf : f ≤ 100) (hpl : d.pend.length ≤ 10000) : Calls Tryd.prog 90 #[.agg cs.toArray, tv, uv] w fun y w' => ∃ s' cs', y = .returned (.tuple #[.agg cs'.toArray, .int .i64 (run ((f : Int), 52) (wrS ats ls ++ [.f]) d).2]) ∧ s.Le s' ∧ RefW s' cs' (run ((f : Int), 52) (wrS ats ls ++ [.f]) d).1 f pa pn pc e hme u dd ∧ Holds s' w' R := by
  have ht' := ht
  obtain ⟨ta, tc, rfl, _⟩ := ht'
  have hu' := hu
  obtain ⟨ua, uc, rfl, _⟩ := hu'
  have hR0 := hR
  obtain ⟨a0, c0, a1, c1, lf, a2, n2, c2, rfl, hD⟩ := hR0
  refine enter Tryd.func90 rfl Tryd.ntmps90 rfl ?_
  repeat' (first | refine Z H ?_ | (refine Zc ?_ ?_ <;> intro hc <;> first | (exfalso; omega) | skip) | (refine Y ?_; try change C _ _ _ _ _ _) | (refine Zs H ?_; clear H; (try clear w); intro w H) | (refine Zn H ?_; clear H; (try clear w); (first | ((fail_if_success (have := bl1)); intro bl1 w H) | ((fail_if_success (have := bl2)); intro bl2 w H) | ((fail_if_success (have := bl3)); intro bl3 w H) | intro _ w H)) | (refine Ze H ?_; clear H; (try clear w); intro gv w H))
  refine C.loopS [7, 8, 9, 10, 11, 12, 13, 14, 15, 16, 17, 18, 19, 20, 21, 22, 23, 24, 25, 26, 27, 28, 29, 30, 31, 32, 33, 34] [8] rfl (fun k vs w => ∃ i : Nat, ∃ di : DM, ∃ s' cs', k = ats.length - i ∧ i ≤ ats.length ∧ vs = [.int .i64 (i : Int)] ∧ s.Le s' ∧ di.pend.length ≤ 10000 + i ∧ RefW s' cs' di f pa pn pc e hme u dd ∧ run ((f : Int), 52) (wrS ats ls ++ [.f]) d = run ((f : Int), 52) (wrS (ats.drop i) (ls.drop i) ++ [.f]) di ∧ Holds s' w (var bl2 86 zlog16 :: var bl1 86 cs' :: R)) ats.length ⟨0, d, s, _, rfl, Nat.zero_le _, rfl, Ro.Le.refl _, hpl, hR, rfl, H⟩ ?_
  clear H
  rintro k vs hv w ⟨i, di, s0, cs, rfl, hi, rfl, hs0, hdi, hRi, hrun, H⟩
  generalize run ((f : Int), 52) (wrS ats ls ++ [.f]) d = res at *
  have hRc := hRi
  obtain ⟨b0, k0, b1, k1, lf', b2, m2, k2, hcs, hDi⟩ := hRc
  by_cases hlt : i < ats.length
  · obtain ⟨gt, ot, c', hsv, _, _, hpt⟩ := posS (ht.mono hs0) (by omega) (by decide)
    cases hsv
    obtain ⟨gu, ou, c'', hsv, _, _, hpu⟩ := posS (hu.mono hs0) (by omega) (by decide)
    cases hsv
    have hlu : i < ls.length := by omega
    have pt : Pin s0 gt (ot + i * 1) (.int .i64 (ats[i] : Int)) := by rw [Nat.mul_one]; exact hpt i _ (by unfold ints; simp [hlt])
    have pu : Pin s0 gu (ou + i * 1) (.string (bst ls[i])) := by rw [Nat.mul_one]; exact hpu i _ (by unfold strs; simp [hlu])
    clear hpt hpu
    have hai := ha ats[i] (List.getElem_mem hlt)
    have hli := hl ls[i] (List.getElem_mem hlu)
    rw [List.drop_eq_getElem_cons hlt, List.drop_eq_getElem_cons hlu] at hrun
    generalize ats[i] = a at *
    generalize ls[i] = l at *
    rw [wrS, List.zipWith_cons_cons, List.cons_append, show List.zipWith St.w (ats.drop (i + 1)) (ls.drop (i + 1)) = wrS (ats.drop (i + 1)) (ls.drop (i + 1)) from rfl] at hrun
    have hpw : pwrite di ((f : Int), 52) (a : Int) l = di.write ((f + a : Nat) : Int) l := pwrite_inW hai (by omega)
    have hpl2 := pend_pwriteW di ((f : Int), 52) (a : Int) l
    subst hcs
    repeat' (first | refine Z H ?_ | (refine Zc ?_ ?_ <;> intro hc <;> first | (exfalso; omega) | skip) | (refine Y ?_; try change C _ _ _ _ _ _) | (refine Zs H ?_; clear H; (try clear w); intro w H) | (refine Zn H ?_; clear H; (try clear w); (first | ((fail_if_success (have := bl1)); intro bl1 w H) | ((fail_if_success (have := bl2)); intro bl2 w H) | ((fail_if_success (have := bl3)); intro bl3 w H) | intro _ w H)) | (refine Ze H ?_; clear H; (try clear w); intro gv w H))
    generalize hdw : di.write ((f + a : Nat) : Int) l = dw at *
    obtain ⟨d', code⟩ := dw
    rw [hpw] at hpl2
    dsimp only at hpl2
    refine C.flow (allFS [.slice b0 di.secs.length k0, .slice b1 di.pend.length k1, .bool di.off, .int .i64 lf', .slice b2 m2 k2, .int .i64 (f : Int), .slice pa pn pc, .int .u32 (e : Int), .int .i64 (hme : Int), .int .i64 (u : Int), .bool dd] (.slice (some ⟨gt, ot, none⟩) ats.length tc) (.slice (some ⟨gu, ou, none⟩) ats.length uc) i gt ot gu ou a l d' f pa pn pc e hme u dd code) [11, 14, 15] [0, 1, 2, 3, 4, 5, 6, 7, 8, 9, 10, 11, 12, 14, 15] H (by kernel_rfl) rfl rfl ?_ ?_
    · repeat' (first | exact StepsF.nil | refine StepsF.cons ?_ ?_)
      · intro s1 h w E hs1; (conv => whnf); intro H; replace H : Holds s1 w (var bl2 86 zlog16 :: var bl1 86 [.slice b0 di.secs.length k0, .slice b1 di.pend.length k1, .bool di.off, .int .i64 lf', .slice b2 m2 k2, .int .i64 (f : Int), .slice pa pn pc, .int .u32 (e : Int), .int .i64 (hme : Int), .int .i64 (u : Int), .bool dd] :: (R ++ E)) := H
        repeat' (first | refine Z H ?_ | (refine Zc ?_ ?_ <;> intro hc <;> first | (exfalso; omega) | skip) | (refine Y ?_; try change C _ _ _ _ _ _) | (refine Zs H ?_; clear H; (try clear w); intro w H) | (refine Zn H ?_; clear H; (try clear w); (first | ((fail_if_success (have := bl1)); intro bl1 w H) | ((fail_if_success (have := bl2)); intro bl2 w H) | ((fail_if_success (have := bl3)); intro bl3 w H) | intro _ w H)) | (refine Ze H ?_; clear H; (try clear w); intro gv w H))
        exact ⟨rfl, by (repeat (first | exact Agr.refl | exact Agr.hav | refine Agr.upd rfl ?_ | refine Agr.in rfl ?_)), s1, Ro.Le.refl _, rfl, H⟩
      · intro s1 h w E hs1; (conv => whnf); intro H; replace H : Holds s1 w (var bl2 86 zlog16 :: var bl1 86 [.slice b0 di.secs.length k0, .slice b1 di.pend.length k1, .bool di.off, .int .i64 lf', .slice b2 m2 k2, .int .i64 (f : Int), .slice pa pn pc, .int .u32 (e : Int), .int .i64 (hme : Int), .int .i64 (u : Int), .bool dd] :: (R ++ E)) := H
        repeat' (first | refine Z H ?_ | (refine Zc ?_ ?_ <;> intro hc <;> first | (exfalso; omega) | skip) | (refine Y ?_; try change C _ _ _ _ _ _) | (refine Zs H ?_; clear H; (try clear w); intro w H) | (refine Zn H ?_; clear H; (try clear w); (first | ((fail_if_success (have := bl1)); intro bl1 w H) | ((fail_if_success (have := bl2)); intro bl2 w H) | ((fail_if_success (have := bl3)); intro bl3 w H) | intro _ w H)) | (refine Ze H ?_; clear H; (try clear w); intro gv w H))
        exact ⟨rfl, by (repeat (first | exact Agr.refl | exact Agr.hav | refine Agr.upd rfl ?_ | refine Agr.in rfl ?_)), s1, Ro.Le.refl _, rfl, H⟩
      · intro s1 h w E hs1; (conv => whnf); intro H; replace H : Holds s1 w (var bl2 86 zlog16 :: var bl1 86 [.slice b0 di.secs.length k0, .slice b1 di.pend.length k1, .bool di.off, .int .i64 lf', .slice b2 m2 k2, .int .i64 (f : Int), .slice pa pn pc, .int .u32 (e : Int), .int .i64 (hme : Int), .int .i64 (u : Int), .bool dd] :: (R ++ E)) := H
        repeat' (first | refine Z H ?_ | (refine Zc ?_ ?_ <;> intro hc <;> first | (exfalso; omega) | skip) | (refine Y ?_; try change C _ _ _ _ _ _) | (refine Zs H ?_; clear H; (try clear w); intro w H) | (refine Zn H ?_; clear H; (try clear w); (first | ((fail_if_success (have := bl1)); intro bl1 w H) | ((fail_if_success (have := bl2)); intro bl2 w H) | ((fail_if_success (have := bl3)); intro bl3 w H) | intro _ w H)) | (refine Ze H ?_; clear H; (try clear w); intro gv w H))
        exact ⟨rfl, by (repeat (first | exact Agr.refl | exact Agr.hav | refine Agr.upd rfl ?_ | refine Agr.in rfl ?_)), s1, Ro.Le.refl _, rfl, H⟩
      · intro s1 h w E hs1; (conv => whnf); rintro _ rfl; (conv => whnf); rintro _ rfl; (conv => whnf); intro H; replace H : Holds s1 w (var bl2 86 zlog16 :: var bl1 86 [.slice b0 di.secs.length k0, .slice b1 di.pend.length k1, .bool di.off, .int .i64 lf', .slice b2 m2 k2, .int .i64 (f : Int), .slice pa pn pc, .int .u32 (e : Int), .int .i64 (hme : Int), .int .i64 (u : Int), .bool dd] :: (R ++ E)) := H
        have pt1 := pt.mono hs1
        repeat' (first | (refine K.ia (i := i) rfl rfl rfl rfl rfl (by omega) ?_) | refine Z H ?_ | (refine Zc ?_ ?_ <;> intro hc <;> first | (exfalso; omega) | skip) | (refine Y ?_; try change C _ _ _ _ _ _) | (refine Zs H ?_; clear H; (try clear w); intro w H) | (refine Zn H ?_; clear H; (try clear w); (first | ((fail_if_success (have := bl1)); intro bl1 w H) | ((fail_if_success (have := bl2)); intro bl2 w H) | ((fail_if_success (have := bl3)); intro bl3 w H) | intro _ w H)) | (refine Ze H ?_; clear H; (try clear w); intro gv w H))
        exact ⟨rfl, by (repeat (first | exact Agr.refl | exact Agr.hav | refine Agr.upd rfl ?_ | refine Agr.in rfl ?_)), s1, Ro.Le.refl _, rfl, H⟩
      · intro s1 h w E hs1; (conv => whnf); rintro _ rfl; (conv => whnf); intro H; replace H : Holds s1 w (var bl2 86 zlog16 :: var bl1 86 [.slice b0 di.secs.length k0, .slice b1 di.pend.length k1, .bool di.off, .int .i64 lf', .slice b2 m2 k2, .int .i64 (f : Int), .slice pa pn pc, .int .u32 (e : Int), .int .i64 (hme : Int), .int .i64 (u : Int), .bool dd] :: (R ++ E)) := H
        have pt1 := pt.mono hs1
        repeat' (first | refine Z H ?_ | (refine Zc ?_ ?_ <;> intro hc <;> first | (exfalso; omega) | skip) | (refine Y ?_; try change C _ _ _ _ _ _) | (refine Zs H ?_; clear H; (try clear w); intro w H) | (refine Zn H ?_; clear H; (try clear w); (first | ((fail_if_success (have := bl1)); intro bl1 w H) | ((fail_if_success (have := bl2)); intro bl2 w H) | ((fail_if_success (have := bl3)); intro bl3 w H) | intro _ w H)) | (refine Ze H ?_; clear H; (try clear w); intro gv w H))
        exact ⟨rfl, by (repeat (first | exact Agr.refl | exact Agr.hav | refine Agr.upd rfl ?_ | refine Agr.in rfl ?_)), s1, Ro.Le.refl _, rfl, H⟩
      · intro s1 h w E hs1; (conv => whnf); intro H; replace H : Holds s1 w (var bl2 86 zlog16 :: var bl1 86 [.slice b0 di.secs.length k0, .slice b1 di.pend.length k1, .bool di.off, .int .i64 lf', .slice b2 m2 k2, .int .i64 (f : Int), .slice pa pn pc, .int .u32 (e : Int), .int .i64 (hme : Int), .int .i64 (u : Int), .bool dd] :: (R ++ E)) := H
        repeat' (first | refine Z H ?_ | (refine Zc ?_ ?_ <;> intro hc <;> first | (exfalso; omega) | skip) | (refine Y ?_; try change C _ _ _ _ _ _) | (refine Zs H ?_; clear H; (try clear w); intro w H) | (refine Zn H ?_; clear H; (try clear w); (first | ((fail_if_success (have := bl1)); intro bl1 w H) | ((fail_if_success (have := bl2)); intro bl2 w H) | ((fail_if_success (have := bl3)); intro bl3 w H) | intro _ w H)) | (refine Ze H ?_; clear H; (try clear w); intro gv w H))
        exact ⟨rfl, by (repeat (first | exact Agr.refl | exact Agr.hav | refine Agr.upd rfl ?_ | refine Agr.in rfl ?_)), s1, Ro.Le.refl _, rfl, H⟩
      · intro s1 h w E hs1; (conv => whnf); intro H; replace H : Holds s1 w (var bl2 86 zlog16 :: var bl1 86 [.slice b0 di.secs.length k0, .slice b1 di.pend.length k1, .bool di.off, .int .i64 lf', .slice b2 m2 k2, .int .i64 (f : Int), .slice pa pn pc, .int .u32 (e : Int), .int .i64 (hme : Int), .int .i64 (u : Int), .bool dd] :: (R ++ E)) := H
        repeat' (first | refine Z H ?_ | (refine Zc ?_ ?_ <;> intro hc <;> first | (exfalso; omega) | skip) | (refine Y ?_; try change C _ _ _ _ _ _) | (refine Zs H ?_; clear H; (try clear w); intro w H) | (refine Zn H ?_; clear H; (try clear w); (first | ((fail_if_success (have := bl1)); intro bl1 w H) | ((fail_if_success (have := bl2)); intro bl2 w H) | ((fail_if_success (have := bl3)); intro bl3 w H) | intro _ w H)) | (refine Ze H ?_; clear H; (try clear w); intro gv w H))
        exact ⟨rfl, by (repeat (first | exact Agr.refl | exact Agr.hav | refine Agr.upd rfl ?_ | refine Agr.in rfl ?_)), s1, Ro.Le.refl _, rfl, H⟩
      · intro s1 h w E hs1; (conv => whnf); rintro _ rfl; (conv => whnf); rintro _ rfl; (conv => whnf); intro H; replace H : Holds s1 w (var bl2 86 zlog16 :: var bl1 86 [.slice b0 di.secs.length k0, .slice b1 di.pend.length k1, .bool di.off, .int .i64 lf', .slice b2 m2 k2, .int .i64 (f : Int), .slice pa pn pc, .int .u32 (e : Int), .int .i64 (hme : Int), .int .i64 (u : Int), .bool dd] :: (R ++ E)) := H
        repeat' (first | refine Z H ?_ | (refine Zc ?_ ?_ <;> intro hc <;> first | (exfalso; omega) | skip) | (refine Y ?_; try change C _ _ _ _ _ _) | (refine Zs H ?_; clear H; (try clear w); intro w H) | (refine Zn H ?_; clear H; (try clear w); (first | ((fail_if_success (have := bl1)); intro bl1 w H) | ((fail_if_success (have := bl2)); intro bl2 w H) | ((fail_if_success (have := bl3)); intro bl3 w H) | intro _ w H)) | (refine Ze H ?_; clear H; (try clear w); intro gv w H))
        exact ⟨rfl, by (repeat (first | exact Agr.refl | exact Agr.hav | refine Agr.upd rfl ?_ | refine Agr.in rfl ?_)), s1, Ro.Le.refl _, rfl, H⟩
      · intro s1 h w E hs1; (conv => whnf); rintro _ rfl; (conv => whnf); intro H; replace H : Holds s1 w (var bl2 86 zlog16 :: var bl1 86 [.slice b0 di.secs.length k0, .slice b1 di.pend.length k1, .bool di.off, .int .i64 lf', .slice b2 m2 k2, .int .i64 (f : Int), .slice pa pn pc, .int .u32 (e : Int), .int .i64 (hme : Int), .int .i64 (u : Int), .bool dd] :: (R ++ E)) := H
        have pu1 := pu.mono hs1
        repeat' (first | refine Z H ?_ | (refine Zc ?_ ?_ <;> intro hc <;> first | (exfalso; omega) | skip) | (refine Y ?_; try change C _ _ _ _ _ _) | (refine Zs H ?_; clear H; (try clear w); intro w H) | (refine Zn H ?_; clear H; (try clear w); (first | ((fail_if_success (have := bl1)); intro bl1 w H) | ((fail_if_success (have := bl2)); intro bl2 w H) | ((fail_if_success (have := bl3)); intro bl3 w H) | intro _ w H)) | (refine Ze H ?_; clear H; (try clear w); intro gv w H))
        exact ⟨rfl, by (repeat (first | exact Agr.refl | exact Agr.hav | refine Agr.upd rfl ?_ | refine Agr.in rfl ?_)), s1, Ro.Le.refl _, rfl, H⟩
      · intro s1 h w E hs1; (conv => whnf); rintro _ rfl; (conv => whnf); rintro _ rfl; (conv => whnf); rintro _ rfl; (conv => whnf); intro H; replace H : Holds s1 w (var bl2 86 zlog16 :: var bl1 86 [.slice b0 di.secs.length k0, .slice b1 di.pend.length k1, .bool di.off, .int .i64 lf', .slice b2 m2 k2, .int .i64 (f : Int), .slice pa pn pc, .int .u32 (e : Int), .int .i64 (hme : Int), .int .i64 (u : Int), .bool dd] :: (R ++ E)) := H
        have hW := write_s (at' := a) (l := l) H (hRi.mono hs1) (by omega) hli (by omega)
        rw [hdw] at hW
        (refine X.call (hW) ?_; (try clear H); rintro _ w ⟨s2, cs2, rfl, hs2, hR2, H⟩; refine ⟨_, rfl, ?_⟩)
        repeat' (first | refine Z H ?_ | (refine Zc ?_ ?_ <;> intro hc <;> first | (exfalso; omega) | skip) | (refine Y ?_; try change C _ _ _ _ _ _) | (refine Zs H ?_; clear H; (try clear w); intro w H) | (refine Zn H ?_; clear H; (try clear w); (first | ((fail_if_success (have := bl1)); intro bl1 w H) | ((fail_if_success (have := bl2)); intro bl2 w H) | ((fail_if_success (have := bl3)); intro bl3 w H) | intro _ w H)) | (refine Ze H ?_; clear H; (try clear w); intro gv w H))
        exact ⟨rfl, by (repeat (first | exact Agr.refl | exact Agr.hav | refine Agr.upd rfl ?_ | refine Agr.in rfl ?_)), s2, hs2, ⟨cs2, rfl, hR2⟩, H⟩
      · intro s1 h w E hs1; (conv => whnf); rintro _ ⟨cs2, rfl, hR2⟩; (conv => whnf); intro H; replace H : Holds s1 w (var bl2 86 zlog16 :: var bl1 86 [.slice b0 di.secs.length k0, .slice b1 di.pend.length k1, .bool di.off, .int .i64 lf', .slice b2 m2 k2, .int .i64 (f : Int), .slice pa pn pc, .int .u32 (e : Int), .int .i64 (hme : Int), .int .i64 (u : Int), .bool dd] :: (R ++ E)) := H
        repeat' (first | refine Z H ?_ | (refine Zc ?_ ?_ <;> intro hc <;> first | (exfalso; omega) | skip) | (refine Y ?_; try change C _ _ _ _ _ _) | (refine Zs H ?_; clear H; (try clear w); intro w H) | (refine Zn H ?_; clear H; (try clear w); (first | ((fail_if_success (have := bl1)); intro bl1 w H) | ((fail_if_success (have := bl2)); intro bl2 w H) | ((fail_if_success (have := bl3)); intro bl3 w H) | intro _ w H)) | (refine Ze H ?_; clear H; (try clear w); intro gv w H))
        exact ⟨rfl, by (repeat (first | exact Agr.refl | exact Agr.hav | refine Agr.upd rfl ?_ | refine Agr.in rfl ?_)), s1, Ro.Le.refl _, ⟨cs2, rfl, hR2⟩, H⟩
      · intro s1 h w E hs1; (conv => whnf); rintro _ ⟨cs2, rfl, hR2⟩; (conv => whnf); intro H; replace H : Holds s1 w (var bl2 86 zlog16 :: var bl1 86 [.slice b0 di.secs.length k0, .slice b1 di.pend.length k1, .bool di.off, .int .i64 lf', .slice b2 m2 k2, .int .i64 (f : Int), .slice pa pn pc, .int .u32 (e : Int), .int .i64 (hme : Int), .int .i64 (u : Int), .bool dd] :: (R ++ E)) := H
        repeat' (first | refine Z H ?_ | (refine Zc ?_ ?_ <;> intro hc <;> first | (exfalso; omega) | skip) | (refine Y ?_; try change C _ _ _ _ _ _) | (refine Zs H ?_; clear H; (try clear w); intro w H) | (refine Zn H ?_; clear H; (try clear w); (first | ((fail_if_success (have := bl1)); intro bl1 w H) | ((fail_if_success (have := bl2)); intro bl2 w H) | ((fail_if_success (have := bl3)); intro bl3 w H) | intro _ w H)) | (refine Ze H ?_; clear H; (try clear w); intro gv w H))
        exact ⟨rfl, by (repeat (first | exact Agr.refl | exact Agr.hav | refine Agr.upd rfl ?_ | refine Agr.in rfl ?_)), s1, Ro.Le.refl _, ⟨cs2, rfl, hR2⟩, H⟩
      · intro s1 h w E hs1; (conv => whnf); rintro _ ⟨cs2, rfl, hR2⟩; (conv => whnf); intro H; replace H : Holds s1 w (var bl2 86 zlog16 :: var bl1 86 [.slice b0 di.secs.length k0, .slice b1 di.pend.length k1, .bool di.off, .int .i64 lf', .slice b2 m2 k2, .int .i64 (f : Int), .slice pa pn pc, .int .u32 (e : Int), .int .i64 (hme : Int), .int .i64 (u : Int), .bool dd] :: (R ++ E)) := H
        repeat' (first | refine Z H ?_ | (refine Zc ?_ ?_ <;> intro hc <;> first | (exfalso; omega) | skip) | (refine Y ?_; try change C _ _ _ _ _ _) | (refine Zs H ?_; clear H; (try clear w); intro w H) | (refine Zn H ?_; clear H; (try clear w); (first | ((fail_if_success (have := bl1)); intro bl1 w H) | ((fail_if_success (have := bl2)); intro bl2 w H) | ((fail_if_success (have := bl3)); intro bl3 w H) | intro _ w H)) | (refine Ze H ?_; clear H; (try clear w); intro gv w H))
        exact ⟨rfl, by (repeat (first | exact Agr.refl | exact Agr.hav | refine Agr.upd rfl ?_ | refine Agr.in rfl ?_)), s1, Ro.Le.refl _, rfl, H⟩
      · intro s1 h w E hs1; (conv => whnf); intro H; replace H : Holds s1 w (var bl2 86 zlog16 :: var bl1 86 [.slice b0 di.secs.length k0, .slice b1 di.pend.length k1, .bool di.off, .int .i64 lf', .slice b2 m2 k2, .int .i64 (f : Int), .slice pa pn pc, .int .u32 (e : Int), .int .i64 (hme : Int), .int .i64 (u : Int), .bool dd] :: (R ++ E)) := H
        repeat' (first | refine Z H ?_ | (refine Zc ?_ ?_ <;> intro hc <;> first | (exfalso; omega) | skip) | (refine Y ?_; try change C _ _ _ _ _ _) | (refine Zs H ?_; clear H; (try clear w); intro w H) | (refine Zn H ?_; clear H; (try clear w); (first | ((fail_if_success (have := bl1)); intro bl1 w H) | ((fail_if_success (have := bl2)); intro bl2 w H) | ((fail_if_success (have := bl3)); intro bl3 w H) | intro _ w H)) | (refine Ze H ?_; clear H; (try clear w); intro gv w H))
        exact ⟨rfl, by (repeat (first | exact Agr.refl | exact Agr.hav | refine Agr.upd rfl ?_ | refine Agr.in rfl ?_)), s1, Ro.Le.refl _, ⟨bl3, rfl⟩, H⟩
      · intro s1 h w E hs1; (conv => whnf)
        rintro _ ⟨b4, rfl⟩; (conv => whnf)
        rintro v1 ⟨cs2, rfl, hR2⟩; (conv => whnf)
        obtain ⟨d0, q0, d1, q1, lf2, d2, m3, q2, rfl, hD2⟩ := hR2
        intro H
        replace H : Holds s1 w (var b4 86 zlog16 :: var bl2 86 zlog16 :: var bl1 86 [.slice b0 di.secs.length k0, .slice b1 di.pend.length k1, .bool di.off, .int .i64 lf', .slice b2 m2 k2, .int .i64 (f : Int), .slice pa pn pc, .int .u32 (e : Int), .int .i64 (hme : Int), .int .i64 (u : Int), .bool dd] :: (R ++ E)) := H
        repeat' (first | refine Z H ?_ | (refine Zc ?_ ?_ <;> intro hc <;> first | (exfalso; omega) | skip) | (refine Y ?_; try change C _ _ _ _ _ _) | (refine Zs H ?_; clear H; (try clear w); intro w H) | (refine Zn H ?_; clear H; (try clear w); (first | ((fail_if_success (have := bl1)); intro bl1 w H) | ((fail_if_success (have := bl2)); intro bl2 w H) | ((fail_if_success (have := bl3)); intro bl3 w H) | intro _ w H)) | (refine Ze H ?_; clear H; (try clear w); intro gv w H))
        exact ⟨rfl, by (repeat (first | exact Agr.refl | exact Agr.hav | refine Agr.upd rfl ?_ | refine Agr.in rfl ?_)), s1, Ro.Le.refl _, ⟨b4, rfl⟩, H⟩
      · intro s1 h w E hs1; (conv => whnf); rintro _ rfl; (conv => whnf); intro H; replace H : Holds s1 w (var bl2 86 zlog16 :: var bl1 86 [.slice b0 di.secs.length k0, .slice b1 di.pend.length k1, .bool di.off, .int .i64 lf', .slice b2 m2 k2, .int .i64 (f : Int), .slice pa pn pc, .int .u32 (e : Int), .int .i64 (hme : Int), .int .i64 (u : Int), .bool dd] :: (R ++ E)) := H
        repeat' (first | refine Z H ?_ | (refine Zc ?_ ?_ <;> intro hc <;> first | (exfalso; omega) | skip) | (refine Y ?_; try change C _ _ _ _ _ _) | (refine Zs H ?_; clear H; (try clear w); intro w H) | (refine Zn H ?_; clear H; (try clear w); (first | ((fail_if_success (have := bl1)); intro bl1 w H) | ((fail_if_success (have := bl2)); intro bl2 w H) | ((fail_if_success (have := bl3)); intro bl3 w H) | intro _ w H)) | (refine Ze H ?_; clear H; (try clear w); intro gv w H))
        exact ⟨rfl, by (repeat (first | exact Agr.refl | exact Agr.hav | refine Agr.upd rfl ?_ | refine Agr.in rfl ?_)), s1, Ro.Le.refl _, rfl, H⟩
    · intro s4 h' w hs4; (conv => whnf)
      rintro v1 ⟨cs2, rfl, hR2⟩; (conv => whnf)
      rintro _ ⟨b4, rfl⟩; (conv => whnf)
      rintro _ rfl; (conv => whnf)
      intro H
      replace H : Holds s4 w (var b4 86 cs2 :: var bl2 86 zlog16 :: var bl1 86 [.slice b0 di.secs.length k0, .slice b1 di.pend.length k1, .bool di.off, .int .i64 lf', .slice b2 m2 k2, .int .i64 (f : Int), .slice pa pn pc, .int .u32 (e : Int), .int .i64 (hme : Int), .int .i64 (u : Int), .bool dd] :: R) := H
      refine L.nil ⟨rfl, ?_⟩
      change C _ _ _ _ _ _
      have hR2' := hR2
      obtain ⟨d0, q0, d1, q1, lf2, d2, m3, q2, rfl, hD2⟩ := hR2'
      by_cases hc0 : code = 0
      · subst hc0
        have hpw0 : (pwrite di ((f : Int), 52) (a : Int) l).2 = 0 := by rw [hpw]
        rw [run_ok _ hpw0, hpw] at hrun
        repeat' (first | refine Z H ?_ | (refine Zc ?_ ?_ <;> intro hc <;> first | (exfalso; omega) | skip) | (refine Y ?_; try change C _ _ _ _ _ _) | (refine Zs H ?_; clear H; (try clear w); intro w H) | (refine Zn H ?_; clear H; (try clear w); (first | ((fail_if_success (have := bl1)); intro bl1 w H) | ((fail_if_success (have := bl2)); intro bl2 w H) | ((fail_if_success (have := bl3)); intro bl3 w H) | intro _ w H)) | (refine Ze H ?_; clear H; (try clear w); intro gv w H))
        have H' := H.arr (rs' := var bl2 86 zlog16 :: var bl1 86 [.slice d0 d'.secs.length q0, .slice d1 d'.pend.length q1, .bool d'.off, .int .i64 lf2, .slice d2 m3 q2, .int .i64 (f : Int), .slice pa pn pc, .int .u32 (e : Int), .int .i64 (hme : Int), .int .i64 (u : Int), .bool dd] :: R)
        exact ⟨by (repeat (first | exact Agr.refl | exact Agr.hav | refine Agr.upd rfl ?_ | refine Agr.in rfl ?_)), ats.length - (i + 1), by omega, i + 1, d', s4, _, rfl, by omega, rfl, hs0.trans hs4, by omega, hR2, hrun, H'⟩
      · have hpw0 : (pwrite di ((f : Int), 52) (a : Int) l).2 ≠ 0 := by rw [hpw]; exact hc0
        rw [run_no _ hpw0, hpw] at hrun
        repeat' (first | refine Z H ?_ | (refine Zc ?_ ?_ <;> intro hc <;> first | (exfalso; omega) | skip) | (refine Y ?_; try change C _ _ _ _ _ _) | (refine Zs H ?_; clear H; (try clear w); intro w H) | (refine Zn H ?_; clear H; (try clear w); (first | ((fail_if_success (have := bl1)); intro bl1 w H) | ((fail_if_success (have := bl2)); intro bl2 w H) | ((fail_if_success (have := bl3)); intro bl3 w H) | intro _ w H)) | (refine Ze H ?_; clear H; (try clear w); intro gv w H))
        rw [hrun]
        exact ⟨_, resVT H rfl, s4, _, rfl, hs0.trans hs4, hR2, H.arr⟩
  · have hie : i = ats.length := by omega
    subst hie
    rw [List.drop_length, List.drop_eq_nil_of_le (by omega), wrS, List.zipWith_nil_left, List.nil_append, run_fJ] at hrun
    subst hcs
    repeat' (first | refine Z H ?_ | (refine Zc ?_ ?_ <;> intro hc <;> first | (exfalso; omega) | skip) | (refine Y ?_; try change C _ _ _ _ _ _) | (refine Zs H ?_; clear H; (try clear w); intro w H) | (refine Zn H ?_; clear H; (try clear w); (first | ((fail_if_success (have := bl1)); intro bl1 w H) | ((fail_if_success (have := bl2)); intro bl2 w H) | ((fail_if_success (have := bl3)); intro bl3 w H) | intro _ w H)) | (refine Ze H ?_; clear H; (try clear w); intro gv w H))
    refine X.call (flush_s H hRi (by omega)) ?_
    clear H
    rintro _ w ⟨s4, cs2, rfl, hs4, hR2, H⟩
    refine ⟨_, rfl, ?_⟩
    have hR2' := hR2
    generalize di.flush = df at *
    obtain ⟨d', code⟩ := df
    dsimp only at hR2 hR2' ⊢
    obtain ⟨d0, q0, d1, q1, lf2, d2, m3, q2, rfl, hD2⟩ := hR2'
    repeat' (first | refine Z H ?_ | (refine Zc ?_ ?_ <;> intro hc <;> first | (exfalso; omega) | skip) | (refine Y ?_; try change C _ _ _ _ _ _) | (refine Zs H ?_; clear H; (try clear w); intro w H) | (refine Zn H ?_; clear H; (try clear w); (first | ((fail_if_success (have := bl1)); intro bl1 w H) | ((fail_if_success (have := bl2)); intro bl2 w H) | ((fail_if_success (have := bl3)); intro bl3 w H) | intro _ w H)) | (refine Ze H ?_; clear H; (try clear w); intro gv w H))
    rw [hrun]
    exact ⟨_, resVT H rfl, s4, _, rfl, hs0.trans hs4, hR2, H.arr⟩
end
end Go.Proofs.YtbknpbihgfphaaaDoor

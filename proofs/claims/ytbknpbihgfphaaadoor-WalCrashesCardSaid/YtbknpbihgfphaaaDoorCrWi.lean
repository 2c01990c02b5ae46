/- The document's log (layer 16): Sector, one, write, flush, walked. -/
import Derived.Test.YtbknpbihgfphaaaDoorCrWc
import Derived.Test.YtbknpbihgfphaaaDoorCrK8
import Derived.Test.YtbknpbihgfphaaaDoorCrK8f
import Derived.Test.YtbknpbihgfphaaaDoorCrK4
import Derived.Test.YtbknpbihgfphaaaDoorCrRc
import Derived.Test.YtbknpbihgfphaaaDoorCrRf
set_option linter.unusedSimpArgs false
set_option linter.unusedVariables false
namespace Go.Proofs.YtbknpbihgfphaaaDoor
open Go Go.RowKit Go.Own
theorem refCellsW {s : Ro} {v : Value} {d : DM} (h : RefS s v d) : ∃ a0 c0 a1 c1 lf a2 n2 c2, v = .agg [.slice a0 d.secs.length c0, .slice a1 d.pend.length c1, .bool d.off, .int .i64 lf, .slice a2 n2 c2].toArray := by
  obtain ⟨_, ah, ch, aw, cw, sa, sc, lf, surv, rfl, _⟩ := h
  exact ⟨ah, ch, aw, cw, lf, sa, _, sc, rfl⟩
/-- a log of the document's in memory: the disk is d, then the other cells -/
def RefW (s : Ro) (cs : List Value) (d : DM) (f : Nat) (pa : Option Addr) (pn pc e h u : Nat) (dd : Bool) : Prop := ∃ a0 c0 a1 c1 lf a2 n2 c2,
  cs = [.slice a0 d.secs.length c0, .slice a1 d.pend.length c1, .bool d.off, .int .i64 lf, .slice a2 n2 c2, .int .i64 (f : Int), .slice pa pn pc, .int .u32 (e : Int), .int .i64 (h : Int), .int .i64 (u : Int), .bool dd] ∧
  RefS s (.agg [.slice a0 d.secs.length c0, .slice a1 d.pend.length c1, .bool d.off, .int .i64 lf, .slice a2 n2 c2].toArray) d
theorem RefW.mono {s s' : Ro} {cs : List Value} {d : DM} {f pn pc e h u : Nat} {pa : Option Addr} {dd : Bool} (k : RefW s cs d f pa pn pc e h u dd) (hs : s.Le s') : RefW s' cs d f pa pn pc e h u dd := by
  obtain ⟨a0, c0, a1, c1, lf, a2, n2, c2, h1, h2⟩ := k
  exact ⟨a0, c0, a1, c1, lf, a2, n2, c2, h1, h2.mono hs⟩
section
variable {s : Ro} {w : World} {R : List Asn}
set_option maxRecDepth 100000 in
set_option maxHeartbeats 1000000 in
theorem Sector16_s {c : UInt8} {e : Nat} {m : List UInt8} (H : Holds s w R) (he : e < 2 ^ 32) (hm : m.length ≤ 55) : Calls Tryd.prog 39 #[.string (bst [c]), .int .u32 (e : Int), .string (bst m)] w fun y w' => ∃ s', y = .returned (.string (bst (secW c e m))) ∧ s.Le s' ∧ Holds s' w' R := by
  have wn : e % 2 ^ 64 = e := Nat.mod_eq_of_lt (by omega)
  have h4 := putN_len e 4
  refine enter Tryd.func39 rfl Tryd.ntmps39 rfl ?_
  repeat' (first | (refine B.conv Tryd.underlying32 ?_; rw [wn]) | refine Z H ?_ | (refine Zc ?_ ?_ <;> intro hc <;> first | (exfalso; omega) | skip) | (refine Y ?_; try change C _ _ _ _ _ _) | (refine Zs H ?_; clear H; (try clear w); intro w H) | (refine Zn H ?_; clear H; (try clear w); intro _ w H) | (refine Ze H ?_; clear H; (try clear w); intro gv w H))
  (refine X.call (Put2_s (n := e) (size := 4) H (by omega) (by decide)) ?_; (try clear H); rintro _ w ⟨a1, c1, rfl, H⟩; refine ⟨_, rfl, ?_⟩)
  repeat' (first | (refine X.stro H ?_) | (refine J.cat (a := bst [c]) (b := bst (putN e 4)) ?_ (hl := by rw [bst_size, bst_size, h4]; simp); rw [bst_app]) | (refine J.cat (a := bst ([c] ++ putN e 4)) (b := bst m) ?_ (hl := by rw [bst_size, bst_size]; simp only [List.length_append, h4, List.length_cons, List.length_nil]; omega); rw [bst_app]) | refine Z H ?_ | (refine Zc ?_ ?_ <;> intro hc <;> first | (exfalso; omega) | skip) | (refine Y ?_; try change C _ _ _ _ _ _) | (refine Zs H ?_; clear H; (try clear w); intro w H) | (refine Zn H ?_; clear H; (try clear w); intro _ w H) | (refine Ze H ?_; clear H; (try clear w); intro gv w H))
  have hsz : (bst (([c] ++ putN e 4) ++ m)).size = 5 + m.length := by rw [bst_size]; simp only [List.length_append, h4, List.length_cons, List.length_nil]
  have hcl := contW_len (c := c) (e := e) hm
  have hs60 : (60 : Int) - ((bst (([c] ++ putN e 4) ++ m)).size : Int) = ((55 - m.length : Nat) : Int) := by rw [hsz]; omega
  repeat' (first | refine Z H ?_ | (refine Zc ?_ ?_ <;> intro hc <;> first | (exfalso; omega) | skip) | (refine Y ?_; try change C _ _ _ _ _ _) | (refine Zs H ?_; clear H; (try clear w); intro w H) | (refine Zn H ?_; clear H; (try clear w); intro _ w H) | (refine Ze H ?_; clear H; (try clear w); intro gv w H))
  rw [hs60]
  (refine X.call (Noughts16_s (n := 55 - m.length) H (by omega)) ?_; (try clear H); rintro _ w ⟨rfl, _, H⟩; refine ⟨_, rfl, ?_⟩)
  refine J.cat (a := bst (([c] ++ putN e 4) ++ m)) (b := bst (List.replicate (55 - m.length) 0)) ?_ (hl := by rw [hsz, bst_size, List.length_replicate]; omega)
  rw [bst_app, show (([c] ++ putN e 4) ++ m) ++ List.replicate (55 - m.length) 0 = contW c e m from rfl]
  refine X.bts (l := contW c e m) H ?_ Tryd.underlying5 (hl := by rw [hcl]; decide)
  clear H
  intro s2 gb cb w hs2 H hS
  repeat' (first | refine Z H ?_ | (refine Zc ?_ ?_ <;> intro hc <;> first | (exfalso; omega) | skip) | (refine Y ?_; try change C _ _ _ _ _ _) | (refine Zs H ?_; clear H; (try clear w); intro w H) | (refine Zn H ?_; clear H; (try clear w); intro _ w H) | (refine Ze H ?_; clear H; (try clear w); intro gv w H))
  (refine X.call (Seal3_s H (.ro hS) (by omega)) ?_; (try clear H); rintro _ w ⟨a2, c2, rfl, H⟩; refine ⟨_, rfl, ?_⟩)
  repeat' (first | (refine X.stro H ?_) | refine Z H ?_ | (refine Zc ?_ ?_ <;> intro hc <;> first | (exfalso; omega) | skip) | (refine Y ?_; try change C _ _ _ _ _ _) | (refine Zs H ?_; clear H; (try clear w); intro w H) | (refine Zn H ?_; clear H; (try clear w); intro _ w H) | (refine Ze H ?_; clear H; (try clear w); intro gv w H))
  exact ⟨_, resT rfl, s2, rfl, hs2, H.tail.tail⟩
set_option maxRecDepth 100000 in
set_option maxHeartbeats 1000000 in
theorem one_s {n : Nat} (H : Holds s w R) (hn : n < 256) : Calls Tryd.prog 89 #[.int .i64 (n : Int)] w fun y w' => y = .returned (.string (bst [UInt8.ofNat n])) ∧ Holds s w' R := by
  have wh : n % 2 ^ 8 = n := Nat.mod_eq_of_lt hn
  have hq := u8_nat hn
  refine enter Tryd.func89 rfl Tryd.ntmps89 rfl ?_
  repeat' (first | (refine B.conv Tryd.underlying3 ?_; rw [wh]) | refine Z H ?_ | (refine Zc ?_ ?_ <;> intro hc <;> first | (exfalso; omega) | skip) | (refine Y ?_; try change C _ _ _ _ _ _) | (refine Zs H ?_; clear H; (try clear w); intro w H) | (refine Zn H ?_; clear H; (try clear w); intro _ w H) | (refine Ze H ?_; clear H; (try clear w); intro gv w H))
  refine K.one H rfl rfl (by conv => lhs; whnf) (by rfl) (by rfl) ?_; clear H; (try clear w); intro g1 w H
  have H' : Holds s w (row 5 1 (.slice (some ⟨g1, 0, none⟩) [UInt8.ofNat n].length 1) [UInt8.ofNat n].length (u8s [UInt8.ofNat n]) :: R) := by
    rw [hq] at H
    exact H
  clear H
  have H := H'
  clear H'
  repeat' (first | (refine X.str (v := .slice (some ⟨g1, 0, none⟩) 1 1) (l := [UInt8.ofNat n]) H ?_ (hb := .own 0 _ rfl)) | refine Z H ?_ | (refine Zc ?_ ?_ <;> intro hc <;> first | (exfalso; omega) | skip) | (refine Y ?_; try change C _ _ _ _ _ _) | (refine Zs H ?_; clear H; (try clear w); intro w H) | (refine Zn H ?_; clear H; (try clear w); intro _ w H) | (refine Ze H ?_; clear H; (try clear w); intro gv w H))
  exact ⟨_, resT rfl, rfl, H.tail⟩
theorem one_e {n : Nat} (H : Holds s w R) (hn : n < 256) : Calls Tryd.prog 89 #[.int .i64 (n : Int)] w fun y w' => y = .returned (.string (bst [UInt8.ofNat n])) ∧ Only [] w w' ∧ Holds s w' R :=
  (one_s H.full hn).mono fun y w' ⟨he, H'⟩ => ⟨he, H.pure0 H'⟩
set_option maxRecDepth 100000 in
set_option maxHeartbeats 1000000 in
theorem write_s {d : DM} {f pn pc e h u at' : Nat} {pa : Option Addr} {dd : Bool} {cs : List Value} {l : List UInt8} (H : Holds s w R) (hR : RefW s cs d f pa pn pc e h u dd) (hf : f + at' ≤ 1000) (hl : l.length ≤ 1000) (hpl : d.pend.length ≤ 100000) : Calls Tryd.prog 114 #[.agg cs.toArray, .int .i64 (at' : Int), .string (bst l)] w fun y w' => ∃ s' cs', y = .returned (.tuple #[.agg cs'.toArray, .int .i64 (d.write ((f + at' : Nat) : Int) l).2]) ∧ s.Le s' ∧ RefW s' cs' (d.write ((f + at' : Nat) : Int) l).1 f pa pn pc e h u dd ∧ Holds s' w' R := by
  obtain ⟨a0, c0, a1, c1, lf, a2, n2, c2, rfl, hD⟩ := hR
  refine enter Tryd.func114 rfl Tryd.ntmps114 rfl ?_
  repeat' (first | (refine X.ldp [.slice a0 d.secs.length c0, .slice a1 d.pend.length c1, .bool d.off, .int .i64 lf, .slice a2 n2 c2] H ?_) | refine Z H ?_ | (refine Zc ?_ ?_ <;> intro hc <;> first | (exfalso; omega) | skip) | (refine Y ?_; try change C _ _ _ _ _ _) | (refine Zs H ?_; clear H; (try clear w); intro w H) | (refine Zn H ?_; clear H; (try clear w); intro _ w H) | (refine Ze H ?_; clear H; (try clear w); intro gv w H))
  rw [show (f : Int) + (at' : Int) = ((f + at' : Nat) : Int) by omega]
  refine X.call (Write_r (n := ((f + at' : Nat) : Int)) (b := l) H hD hpl (by omega)) ?_
  clear H
  rintro _ w ⟨s1, v', rfl, hs1, hD', H⟩
  refine ⟨_, rfl, ?_⟩
  generalize d.write ((f + at' : Nat) : Int) l = dw at *
  obtain ⟨d', code⟩ := dw
  dsimp only at hD' ⊢
  have hDc := hD'
  obtain ⟨b0, k0, b1, k1, lf', b2, m2, k2, rfl⟩ := refCellsW hDc
  repeat' (first | (refine X.stp [.slice b0 d'.secs.length k0, .slice b1 d'.pend.length k1, .bool d'.off, .int .i64 lf', .slice b2 m2 k2, .int .i64 (f : Int), .slice pa pn pc, .int .u32 (e : Int), .int .i64 (h : Int), .int .i64 (u : Int), .bool dd] H ?_; clear H; (try clear w); intro w H) | refine Z H ?_ | (refine Zc ?_ ?_ <;> intro hc <;> first | (exfalso; omega) | skip) | (refine Y ?_; try change C _ _ _ _ _ _) | (refine Zs H ?_; clear H; (try clear w); intro w H) | (refine Zn H ?_; clear H; (try clear w); intro _ w H) | (refine Ze H ?_; clear H; (try clear w); intro gv w H))
  exact ⟨_, resVT H rfl, s1, _, rfl, hs1, ⟨b0, k0, b1, k1, lf', b2, m2, k2, rfl, hD'⟩, H.tail.tail.tail⟩
set_option maxRecDepth 100000 in
set_option maxHeartbeats 1000000 in
theorem flush_s {d : DM} {f pn pc e h u : Nat} {pa : Option Addr} {dd : Bool} {cs : List Value} (H : Holds s w R) (hR : RefW s cs d f pa pn pc e h u dd) (hpl : d.pend.length ≤ 100000) : Calls Tryd.prog 115 #[.agg cs.toArray] w fun y w' => ∃ s' cs', y = .returned (.tuple #[.agg cs'.toArray, .int .i64 d.flush.2]) ∧ s.Le s' ∧ RefW s' cs' d.flush.1 f pa pn pc e h u dd ∧ Holds s' w' R := by
  obtain ⟨a0, c0, a1, c1, lf, a2, n2, c2, rfl, hD⟩ := hR
  refine enter Tryd.func115 rfl Tryd.ntmps115 rfl ?_
  repeat' (first | (refine X.ldp [.slice a0 d.secs.length c0, .slice a1 d.pend.length c1, .bool d.off, .int .i64 lf, .slice a2 n2 c2] H ?_) | refine Z H ?_ | (refine Zc ?_ ?_ <;> intro hc <;> first | (exfalso; omega) | skip) | (refine Y ?_; try change C _ _ _ _ _ _) | (refine Zs H ?_; clear H; (try clear w); intro w H) | (refine Zn H ?_; clear H; (try clear w); intro _ w H) | (refine Ze H ?_; clear H; (try clear w); intro gv w H))
  refine X.call (Flush_r H hD (by omega)) ?_
  clear H
  rintro _ w ⟨s1, v', rfl, hs1, hD', H⟩
  refine ⟨_, rfl, ?_⟩
  generalize d.flush = dw at *
  obtain ⟨d', code⟩ := dw
  dsimp only at hD' ⊢
  have hDc := hD'
  obtain ⟨b0, k0, b1, k1, lf', b2, m2, k2, rfl⟩ := refCellsW hDc
  repeat' (first | (refine X.stp [.slice b0 d'.secs.length k0, .slice b1 d'.pend.length k1, .bool d'.off, .int .i64 lf', .slice b2 m2 k2, .int .i64 (f : Int), .slice pa pn pc, .int .u32 (e : Int), .int .i64 (h : Int), .int .i64 (u : Int), .bool dd] H ?_; clear H; (try clear w); intro w H) | refine Z H ?_ | (refine Zc ?_ ?_ <;> intro hc <;> first | (exfalso; omega) | skip) | (refine Y ?_; try change C _ _ _ _ _ _) | (refine Zs H ?_; clear H; (try clear w); intro w H) | (refine Zn H ?_; clear H; (try clear w); intro _ w H) | (refine Ze H ?_; clear H; (try clear w); intro gv w H))
  exact ⟨_, resVT H rfl, s1, _, rfl, hs1, ⟨b0, k0, b1, k1, lf', b2, m2, k2, rfl, hD'⟩, H.tail.tail.tail⟩
end
end Go.Proofs.YtbknpbihgfphaaaDoor

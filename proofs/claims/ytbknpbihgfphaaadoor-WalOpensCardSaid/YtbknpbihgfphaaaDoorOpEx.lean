/- extent.Place, extent.Lies, the document's Lies, Place, Meet; the comparison of extents. slices.SortFunc at extents, as pieces. The plain laws of extents that are apart. extent.Apart, the document's Apart, and the examples of layer 6. The examples of layer 6; ExtentPlaces, walked. extent.New, and the calls of a part of a disk. Plain laws of the disk: while it has power and is not armed. audit: entries and their sectors, as plain data; valid, sector, entry. -/
import Derived.Test.YtbknpbihgfphaaaDoorOpK3
import Derived.Test.YtbknpbihgfphaaaDoorOpK6
import Derived.Test.YtbknpbihgfphaaaDoorOpRc
import Derived.Test.YtbknpbihgfphaaaDoorOpRf
set_option linter.unusedSimpArgs false
set_option linter.unusedVariables false
namespace Go.Proofs.YtbknpbihgfphaaaDoor
open Go Go.RowKit Go.Own
def I64 (x : Int) : Prop := -9223372036854775808 ≤ x ∧ x ≤ 9223372036854775807
/-- an extent: From, Count -/
abbrev Ext := Int × Int
def Ext.ok (x : Ext) : Prop := I64 x.1 ∧ I64 x.2
def Ext.cells (x : Ext) : List Value := [.int .i64 x.1, .int .i64 x.2]
def placeM (f c a : Int) : Int × Int := if a < 0 ∨ c ≤ a then (0, 4) else if 9223372036854775807 - a < f then (0, 4) else (f + a, 0)
def liesM (f c n : Int) : Bool := decide (1 ≤ c ∧ 0 ≤ f ∧ f ≤ n ∧ c ≤ n - f)
/-- the later one's beginning -/
def meetM (f c g d : Int) : Bool := decide (1 ≤ c ∧ 1 ≤ d ∧ (f = g ∨ f < g ∧ g - f < c ∨ g < f ∧ f - g < d))
section
variable {s : Ro} {w : World} {R : List Asn} {f c a g d n : Int}
theorem Place_s (H : Holds s w R) (hf : I64 f) (hc : I64 c) (ha : I64 a) : Calls Tryd.prog 83 #[.agg #[.int .i64 f, .int .i64 c], .int .i64 a] w fun e w' => e = .returned (.tuple #[.int .i64 (placeM f c a).1, .int .i64 (placeM f c a).2]) ∧ Holds s w' R := by
  unfold I64 at hf hc ha
  unfold placeM
  refine enter Tryd.func83 rfl Tryd.ntmps83 rfl ?_
  repeat' (first | refine Z H ?_ | (refine Zc ?_ ?_ <;> intro hc <;> first | (exfalso; omega) | skip) | (refine Y ?_; try change C _ _ _ _ _ _) | (refine Zs H ?_; clear H; (try clear w); intro w H) | (refine Zn H ?_; clear H; (try clear w); intro _ w H) | (refine Ze H ?_; clear H; (try clear w); intro gv w H))
  all_goals
    refine ⟨_, resTT rfl, ?_, H.tail⟩
    first
      | rw [if_pos (by omega)]; rfl
      | rw [if_neg (by omega), if_pos (by omega)]; rfl
      | rw [if_neg (by omega), if_neg (by omega)]; rfl
theorem Lies_s (H : Holds s w R) (hf : I64 f) (hc : I64 c) (hn : I64 n) : Calls Tryd.prog 91 #[.agg #[.int .i64 f, .int .i64 c], .int .i64 n] w fun e w' => e = .returned (.bool (liesM f c n)) ∧ Holds s w' R := by
  unfold I64 at hf hc hn
  unfold liesM
  refine enter Tryd.func91 rfl Tryd.ntmps91 rfl ?_
  repeat' (first | refine Z H ?_ | (refine Zc ?_ ?_ <;> intro hc <;> first | (exfalso; omega) | skip) | (refine Y ?_; try change C _ _ _ _ _ _) | (refine Zs H ?_; clear H; (try clear w); intro w H) | (refine Zn H ?_; clear H; (try clear w); intro _ w H) | (refine Ze H ?_; clear H; (try clear w); intro gv w H))
  all_goals
    refine ⟨_, resT rfl, ?_, H.tail⟩
    first
      | rw [decide_eq_true (by omega)]; rfl
      | rw [decide_eq_false (by omega)]; rfl
end
end Go.Proofs.YtbknpbihgfphaaaDoor
set_option linter.unusedSimpArgs false
set_option linter.unusedVariables false
namespace Go.Proofs.YtbknpbihgfphaaaDoor
open Go Go.RowKit Go.Own
section
variable {s : Ro} {w : World} {R : List Asn}
end
section
variable {s : Ro} {w : World} {R : List Asn}
end
end Go.Proofs.YtbknpbihgfphaaaDoor
set_option linter.unusedSimpArgs false
set_option linter.unusedVariables false
namespace Go.Proofs.YtbknpbihgfphaaaDoor
open Go Go.RowKit Go.Own
def NoMeet (x y : Ext) : Prop := meetM x.1 x.2 y.1 y.2 = false
theorem NoMeet.symm {x y : Ext} (h : NoMeet x y) : NoMeet y x := by
  unfold NoMeet meetM at *
  simp only [decide_eq_false_iff_not] at *
  omega
end Go.Proofs.YtbknpbihgfphaaaDoor
set_option linter.unusedSimpArgs false
set_option linter.unusedVariables false
namespace Go.Proofs.YtbknpbihgfphaaaDoor
open Go Go.RowKit Go.Own
theorem weaken {s s' : Ro} {w : World} {rs : List Asn} (hs : s.Le s') (H : Holds s' w rs) : Holds s w rs :=
  ⟨⟨fun k o h => H.fits.mem k o (hs.mem k o h), by rw [← hs.cst]; exact H.fits.os, by rw [← hs.cst]; exact H.fits.tape, by rw [← hs.cst]; exact H.fits.output⟩, by
    obtain ⟨F, h1, h2⟩ := H.sep
    refine ⟨F, h1, fun k hk => ?_⟩
    cases e : s.mem k with
    | none => rfl
    | some o => have := hs.mem k o e; rw [h2 k hk] at this; cases this⟩
section
variable {s : Ro} {w : World} {R : List Asn}
end
end Go.Proofs.YtbknpbihgfphaaaDoor
set_option linter.unusedSimpArgs false
set_option linter.unusedVariables false
namespace Go.Proofs.YtbknpbihgfphaaaDoor
open Go Go.RowKit Go.Own
section
variable {s : Ro} {w : World} {R : List Asn}
end
end Go.Proofs.YtbknpbihgfphaaaDoor
set_option linter.unusedSimpArgs false
set_option linter.unusedVariables false
namespace Go.Proofs.YtbknpbihgfphaaaDoor
open Go Go.RowKit Go.Own
/-- a part of a disk; it is only read -/
structure PartS (s : Ro) (p b : Nat) (x : Ext) : Prop where
  all : ∀ j v, [Value.int .i64 x.1, .int .i64 x.2, .pointer (some ⟨b, 0, none⟩)][j]? = some v → Pin s p j v
  ok : I64 x.1 ∧ I64 x.2
theorem PartS.mono {s s' : Ro} {p b : Nat} {x : Ext} (h : PartS s p b x) (hs : s.Le s') : PartS s' p b x := ⟨fun j v hv => (h.all j v hv).mono hs, h.ok⟩
def pread (d : DM) (x : Ext) (a : Int) : List UInt8 × Int := if (placeM x.1 x.2 a).2 = 0 then d.read (placeM x.1 x.2 a).1 else ([], (placeM x.1 x.2 a).2)
def pwrite (d : DM) (x : Ext) (a : Int) (l : List UInt8) : DM × Int := if (placeM x.1 x.2 a).2 = 0 then d.write (placeM x.1 x.2 a).1 l else (d, (placeM x.1 x.2 a).2)
theorem build_part (x y : Int) (b : Nat) (w : World) : (Instr.build 150 [(0, .agg #[.int .i64 x, .int .i64 y]), (1, .pointer (some ⟨b, 0, none⟩))].toArray).run Tryd.prog w = .ok (.agg #[.int .i64 x, .int .i64 y, .pointer (some ⟨b, 0, none⟩)]) w := by kernel_rfl
theorem build_ext' (x y : Int) (w : World) : (Instr.build 110 [(0, .int .i64 x), (1, .int .i64 y)].toArray).run Tryd.prog w = .ok (.agg #[.int .i64 x, .int .i64 y]) w := by kernel_rfl
section
variable {s : Ro} {w : World} {R : List Asn} {b p : Nat} {d : DM} {x : Ext} {a : Int}
theorem len_i64 (hw : d.Wf) : I64 d.secs.length := by have := hw.hi; unfold I64; omega
set_option maxRecDepth 100000 in
set_option maxHeartbeats 1000000 in
theorem New_p (H : Holds s w (dsk b d :: R)) (hx : I64 x.1 ∧ I64 x.2) : Calls Tryd.prog 54 #[.pointer (some ⟨b, 0, none⟩), .agg #[.int .i64 x.1, .int .i64 x.2]] w fun e w' =>
    (liesM x.1 x.2 d.secs.length = false ∧ e = .returned (.tuple #[.pointer none, .int .i64 1]) ∧ Holds s w' (dsk b d :: R)) ∨
    (liesM x.1 x.2 d.secs.length = true ∧ ∃ s' p, e = .returned (.tuple #[.pointer (some ⟨p, 0, none⟩), .int .i64 0]) ∧ s.Le s' ∧ PartS s' p b x ∧ Holds s' w' (dsk b d :: R)) := by
  have hwf := Holds.wf H
  refine enter Tryd.func54 rfl Tryd.ntmps54 rfl ?_
  repeat' (first | refine Z H ?_ | (refine Zc ?_ ?_ <;> intro hc <;> first | (exfalso; omega) | skip) | (refine Y ?_; try change C _ _ _ _ _ _) | (refine Zs H ?_; clear H; (try clear w); intro w H) | (refine Zn H ?_; clear H; (try clear w); (first | ((fail_if_success (have := bl1)); intro bl1 w H) | ((fail_if_success (have := bl2)); intro bl2 w H) | intro _ w H)) | (refine Ze H ?_; clear H; (try clear w); intro gv w H))
  refine C.drawn2 [bl1] [1, 0, 2, 2, 0] [3, 1] [0, 0, 2, 7, 15] (by kernel_rfl) ?_; replace H := H.drew; simp only [segL, List.take_succ_cons, List.take_zero, List.drop_succ_cons, List.drop_zero]; have H0 := H
  repeat' (first | refine Z H ?_ | (refine Zc ?_ ?_ <;> intro hc <;> first | (exfalso; omega) | skip) | (refine Y ?_; try change C _ _ _ _ _ _) | (refine Zs H ?_; clear H; (try clear w); intro w H) | (refine Zn H ?_; clear H; (try clear w); (first | ((fail_if_success (have := bl1)); intro bl1 w H) | ((fail_if_success (have := bl2)); intro bl2 w H) | intro _ w H)) | (refine Ze H ?_; clear H; (try clear w); intro gv w H))
  replace H := H.up 1 rfl; (try simp only [List.set_cons_zero, List.set_cons_succ, List.eraseIdx_cons_zero, List.eraseIdx_cons_succ] at H)
  (refine X.call (Size_s H) ?_; (try clear H); rintro _ w ⟨rfl, H⟩; refine ⟨_, rfl, ?_⟩); refine L.nil ?_; refine ⟨rfl, rfl, (by repeat (first | exact subN_nil | refine subN_cons (by simp) ?_)), (by first | exact keep_same | (repeat (first | exact keepV H0 H | exact keepP H0 H | exact keep_nil | refine keep_cons ?_ ?_))), ?_⟩; clear H0; have H0 := H
  (refine X.call (Lies_s H hx.1 hx.2 (len_i64 hwf)) ?_; (try clear H); rintro _ w ⟨rfl, H⟩; refine ⟨_, rfl, ?_⟩); refine L.nil ?_; refine ⟨rfl, rfl, (by repeat (first | exact subN_nil | refine subN_cons (by simp) ?_)), (by first | exact keep_same | (repeat (first | exact keepV H0 H | exact keepP H0 H | exact keep_nil | refine keep_cons ?_ ?_))), ?_⟩; clear H0; have H0 := H
  repeat' (first | refine Z H ?_ | (refine Zc ?_ ?_ <;> intro hc <;> first | (exfalso; omega) | skip) | (refine Y ?_; try change C _ _ _ _ _ _) | (refine Zs H ?_; clear H; (try clear w); intro w H) | (refine Zn H ?_; clear H; (try clear w); (first | ((fail_if_success (have := bl1)); intro bl1 w H) | ((fail_if_success (have := bl2)); intro bl2 w H) | intro _ w H)) | (refine Ze H ?_; clear H; (try clear w); intro gv w H))
  refine ⟨rfl, rfl, (by repeat (first | exact subN_nil | refine subN_cons (by simp) ?_)), (by first | exact keep_same | (repeat (first | exact keepV H0 H | exact keepP H0 H | exact keep_nil | refine keep_cons ?_ ?_))), ?_⟩; clear H0; have H0 := H
  repeat' (first | refine Z H ?_ | (refine Zc ?_ ?_ <;> intro hc <;> first | (exfalso; omega) | skip) | (refine Y ?_; try change C _ _ _ _ _ _) | (refine Zs H ?_; clear H; (try clear w); intro w H) | (refine Zn H ?_; clear H; (try clear w); (first | ((fail_if_success (have := bl1)); intro bl1 w H) | ((fail_if_success (have := bl2)); intro bl2 w H) | intro _ w H)) | (refine Ze H ?_; clear H; (try clear w); intro gv w H))
  refine C.ite rfl (fun hb => ?_) (fun hb => ?_)
  · repeat' (first | refine Z H ?_ | (refine Zc ?_ ?_ <;> intro hc <;> first | (exfalso; omega) | skip) | (refine Y ?_; try change C _ _ _ _ _ _) | (refine Zs H ?_; clear H; (try clear w); intro w H) | (refine Zn H ?_; clear H; (try clear w); (first | ((fail_if_success (have := bl1)); intro bl1 w H) | ((fail_if_success (have := bl2)); intro bl2 w H) | intro _ w H)) | (refine Ze H ?_; clear H; (try clear w); intro gv w H))
    exact ⟨_, resTT rfl, .inl ⟨by simpa using hb, rfl, H.drop1⟩⟩
  · repeat' (first | (refine K.build [(0, .agg #[.int .i64 _, .int .i64 _]), (1, .pointer (some ⟨_, 0, none⟩))] (.agg #[.int .i64 _, .int .i64 _, .pointer (some ⟨_, 0, none⟩)]) (build_part _ _ _) rfl rfl rfl ?_) | refine Z H ?_ | (refine Zc ?_ ?_ <;> intro hc <;> first | (exfalso; omega) | skip) | (refine Y ?_; try change C _ _ _ _ _ _) | (refine Zs H ?_; clear H; (try clear w); intro w H) | (refine Zn H ?_; clear H; (try clear w); (first | ((fail_if_success (have := bl1)); intro bl1 w H) | ((fail_if_success (have := bl2)); intro bl2 w H) | intro _ w H)) | (refine Ze H ?_; clear H; (try clear w); intro gv w H))
    obtain ⟨s', hs, H, hp⟩ := H.fixVar
    exact ⟨_, resTT rfl, .inr ⟨by simpa using hb, s', bl2, rfl, hs, ⟨hp, hx⟩, H.drop1⟩⟩
theorem Size_p (H : Holds s w R) (h : PartS s p b x) : Calls Tryd.prog 55 #[.pointer (some ⟨p, 0, none⟩)] w fun e w' => e = .returned (.int .i64 x.2) ∧ Holds s w' R := by
  have p1 : Pin s p 1 _ := h.all 1 _ rfl
  refine enter Tryd.func55 rfl Tryd.ntmps55 rfl ?_
  repeat' (first | refine Z H ?_ | (refine Zc ?_ ?_ <;> intro hc <;> first | (exfalso; omega) | skip) | (refine Y ?_; try change C _ _ _ _ _ _) | (refine Zs H ?_; clear H; (try clear w); intro w H) | (refine Zn H ?_; clear H; (try clear w); intro _ w H) | (refine Ze H ?_; clear H; (try clear w); intro gv w H))
  exact ⟨_, resT rfl, rfl, H⟩
theorem Flush_p (H : Holds s w (dsk b d :: R)) (h : PartS s p b x) : Calls Tryd.prog 60 #[.pointer (some ⟨p, 0, none⟩)] w fun e w' => e = .returned (.int .i64 d.flush.2) ∧ Holds s w' (dsk b d.flush.1 :: R) := by
  have p2 : Pin s p 2 _ := h.all 2 _ rfl
  refine enter Tryd.func60 rfl Tryd.ntmps60 rfl ?_
  repeat' (first | refine Z H ?_ | (refine Zc ?_ ?_ <;> intro hc <;> first | (exfalso; omega) | skip) | (refine Y ?_; try change C _ _ _ _ _ _) | (refine Zs H ?_; clear H; (try clear w); intro w H) | (refine Zn H ?_; clear H; (try clear w); intro _ w H) | (refine Ze H ?_; clear H; (try clear w); intro gv w H))
  (refine X.call (Flush_s H) ?_; (try clear H); rintro _ w ⟨rfl, H⟩; refine ⟨_, rfl, ?_⟩)
  repeat' (first | refine Z H ?_ | (refine Zc ?_ ?_ <;> intro hc <;> first | (exfalso; omega) | skip) | (refine Y ?_; try change C _ _ _ _ _ _) | (refine Zs H ?_; clear H; (try clear w); intro w H) | (refine Zn H ?_; clear H; (try clear w); intro _ w H) | (refine Ze H ?_; clear H; (try clear w); intro gv w H))
  exact ⟨_, resT rfl, rfl, H⟩
theorem Read_p (H : Holds s w (dsk b d :: R)) (h : PartS s p b x) (ha : I64 a) : Calls Tryd.prog 56 #[.pointer (some ⟨p, 0, none⟩), .int .i64 a] w fun e w' => ∃ t aa cc, e = .returned (.tuple #[.slice aa (pread d x a).1.length cc, .int .i64 (pread d x a).2]) ∧ Holds s w' (row t 1 (.slice aa (pread d x a).1.length cc) (pread d x a).1.length (u8s (pread d x a).1) :: dsk b d :: R) := by
  have p2 : Pin s p 2 _ := h.all 2 _ rfl
  have p01 : ∀ j v, [Value.int .i64 x.1, .int .i64 x.2][j]? = some v → Pin s p (0 + j) v := fun j v hv => by rw [Nat.zero_add]; exact h.all j v (by match j, hv with | 0, hv => exact hv | 1, hv => exact hv | (_ + 2), hv => simp at hv)
  unfold pread
  have hP := Place_s H h.ok.1 h.ok.2 ha
  generalize placeM x.1 x.2 a = q at *
  refine enter Tryd.func56 rfl Tryd.ntmps56 rfl ?_
  repeat' (first | refine Z H ?_ | (refine Zc ?_ ?_ <;> intro hc <;> first | (exfalso; omega) | skip) | (refine Y ?_; try change C _ _ _ _ _ _) | (refine Zs H ?_; clear H; (try clear w); intro w H) | (refine Zn H ?_; clear H; (try clear w); intro _ w H) | (refine Ze H ?_; clear H; (try clear w); intro gv w H))
  (refine X.call (hP) ?_; (try clear H); rintro _ w ⟨rfl, H⟩; refine ⟨_, rfl, ?_⟩)
  clear hP
  repeat' (first | refine Z H ?_ | (refine Zc ?_ ?_ <;> intro hc <;> first | (exfalso; omega) | skip) | (refine Y ?_; try change C _ _ _ _ _ _) | (refine Zs H ?_; clear H; (try clear w); intro w H) | (refine Zn H ?_; clear H; (try clear w); intro _ w H) | (refine Ze H ?_; clear H; (try clear w); intro gv w H))
  · rw [if_neg (by omega)]
    exact ⟨_, resTT rfl, 0, none, 0, rfl, H.nilRow 0 1⟩
  · rw [if_pos (by omega)]
    (refine X.call (Read_s H) ?_; (try clear H); rintro _ w ⟨t, aa, cc, rfl, H⟩; refine ⟨_, rfl, ?_⟩)
    repeat' (first | refine Z H ?_ | (refine Zc ?_ ?_ <;> intro hc <;> first | (exfalso; omega) | skip) | (refine Y ?_; try change C _ _ _ _ _ _) | (refine Zs H ?_; clear H; (try clear w); intro w H) | (refine Zn H ?_; clear H; (try clear w); intro _ w H) | (refine Ze H ?_; clear H; (try clear w); intro gv w H))
    exact ⟨_, resTT rfl, t, aa, cc, rfl, H⟩
theorem Write_p {v : Value} {l : List UInt8} (H : Holds s w (dsk b d :: R)) (h : PartS s p b x) (ha : I64 a) (hs : Src s R v 1 l.length (u8s l)) (hpl : d.pend.length ≤ 1000000) : Calls Tryd.prog 41 #[.pointer (some ⟨p, 0, none⟩), .int .i64 a, v] w fun e w' => e = .returned (.int .i64 (pwrite d x a l).2) ∧ Holds s w' (dsk b (pwrite d x a l).1 :: R) := by
  have p2 : Pin s p 2 _ := h.all 2 _ rfl
  have p01 : ∀ j v, [Value.int .i64 x.1, .int .i64 x.2][j]? = some v → Pin s p (0 + j) v := fun j v hv => by rw [Nat.zero_add]; exact h.all j v (by match j, hv with | 0, hv => exact hv | 1, hv => exact hv | (_ + 2), hv => simp at hv)
  unfold pwrite
  have hP := Place_s H h.ok.1 h.ok.2 ha
  generalize placeM x.1 x.2 a = q at *
  refine enter Tryd.func41 rfl Tryd.ntmps41 rfl ?_
  repeat' (first | refine Z H ?_ | (refine Zc ?_ ?_ <;> intro hc <;> first | (exfalso; omega) | skip) | (refine Y ?_; try change C _ _ _ _ _ _) | (refine Zs H ?_; clear H; (try clear w); intro w H) | (refine Zn H ?_; clear H; (try clear w); intro _ w H) | (refine Ze H ?_; clear H; (try clear w); intro gv w H))
  (refine X.call (hP) ?_; (try clear H); rintro _ w ⟨rfl, H⟩; refine ⟨_, rfl, ?_⟩)
  clear hP
  repeat' (first | refine Z H ?_ | (refine Zc ?_ ?_ <;> intro hc <;> first | (exfalso; omega) | skip) | (refine Y ?_; try change C _ _ _ _ _ _) | (refine Zs H ?_; clear H; (try clear w); intro w H) | (refine Zn H ?_; clear H; (try clear w); intro _ w H) | (refine Ze H ?_; clear H; (try clear w); intro gv w H))
  · rw [if_neg (by omega)]
    exact ⟨_, resT rfl, rfl, H⟩
  · rw [if_pos (by omega)]
    (refine X.call (Write_s H hs hpl) ?_; (try clear H); rintro _ w ⟨rfl, H⟩; refine ⟨_, rfl, ?_⟩)
    repeat' (first | refine Z H ?_ | (refine Zc ?_ ?_ <;> intro hc <;> first | (exfalso; omega) | skip) | (refine Y ?_; try change C _ _ _ _ _ _) | (refine Zs H ?_; clear H; (try clear w); intro w H) | (refine Zn H ?_; clear H; (try clear w); intro _ w H) | (refine Ze H ?_; clear H; (try clear w); intro gv w H))
    exact ⟨_, resT rfl, rfl, H⟩
theorem New_p1 (H : Holds s w (dsk b d :: R)) (hx : I64 x.1 ∧ I64 x.2) (hl : liesM x.1 x.2 d.secs.length = true) : Calls Tryd.prog 54 #[.pointer (some ⟨b, 0, none⟩), .agg #[.int .i64 x.1, .int .i64 x.2]] w fun e w' =>
    ∃ s' p, e = .returned (.tuple #[.pointer (some ⟨p, 0, none⟩), .int .i64 0]) ∧ s.Le s' ∧ PartS s' p b x ∧ Holds s' w' (dsk b d :: R) :=
  (New_p H hx).mono fun e w' h => by
    rcases h with ⟨h, _⟩ | ⟨_, h⟩
    · rw [hl] at h; cases h
    · exact h
/-- a disk in memory that is only read -/
def DiskRo (s : Ro) (b : Nat) (d : DM) : Prop := ∃ F, ∀ w, Fits s w → DiskAt w b d F
theorem DiskRo.of (H : Holds s w (dsk b d :: R)) : DiskRo (full s w) b d := by
  obtain ⟨F, h⟩ := H.get (i := 0) rfl
  refine ⟨F, fun w' hf => diskAt_loc h fun k hk => ?_⟩
  have hlt := DiskAt.lt h k hk
  have : w.heap[k]? = some w.heap[k] := by simp [hlt]
  rw [this]
  exact hf.mem k _ this
theorem DiskRo.wf (h : DiskRo s b d) (H : Holds s w R) : d.Wf := by obtain ⟨F, h⟩ := h; exact (h w H.fits).1
theorem Image_e {v : Value} (H : Holds s w R) (h : RefS s v d) : Calls Tryd.prog 33 #[v] w fun e w' => e = .returned (.string (bst d.image)) ∧ Only [] w w' ∧ Holds s w' R :=
  (Image_r H.full (h.mono H.le_full)).mono fun e w' ⟨he, H'⟩ => ⟨he, H.pure0 H'⟩
theorem Image_d (H : Holds s w (dsk b d :: R)) : Calls Tryd.prog 32 #[.pointer (some ⟨b, 0, none⟩)] w fun e w' => ∃ t aa cc, e = .returned (.slice aa d.image.length cc) ∧ Only [] w w' ∧ Holds s w' (row t 1 (.slice aa d.image.length cc) d.image.length (u8s d.image) :: dsk b d :: R) := by
  obtain ⟨F, h, k⟩ := H.call
  exact (Image_at b d F w h).mono fun e w' ⟨v, he, h1, h2⟩ => by
    obtain ⟨t, aa, cc, rfl, H'⟩ := new_row H h1 h2
    exact ⟨t, aa, cc, he, h2, H'⟩
end
end Go.Proofs.YtbknpbihgfphaaaDoor
set_option linter.unusedSimpArgs false
set_option linter.unusedVariables false
namespace Go.Proofs.YtbknpbihgfphaaaDoor
open Go Go.RowKit Go.Own
section
variable {d : DM} {b : List UInt8}
def wr1 (d : DM) (n : Nat) (b : List UInt8) : DM := { d with pend := d.pend ++ [(n, b)] }
theorem powered_free (h1 : d.off = false) (h2 : d.armed = false) : d.powered = (d, true) := by simp [DM.powered, h1, h2]
theorem cur_wr1 (d : DM) (n k : Nat) (b : List UInt8) : (wr1 d n b).cur k = if n = k then b else d.cur k := by
  simp only [DM.cur, wr1, List.foldl_append, List.foldl_cons, List.foldl_nil]
  rfl
theorem read_free (h1 : d.off = false) {n : Nat} (hn : n < d.secs.length) : d.read (n : Int) = (d.cur n, 0) := by
  have hi : d.inB (n : Int) = true := by simp [DM.inB]; omega
  simp [DM.read, hi, h1]
theorem place_in {f c a : Nat} (h : a < c) (hf : f + a ≤ 9223372036854775807) : placeM (f : Int) (c : Int) (a : Int) = (((f + a : Nat) : Int), 0) := by
  unfold placeM
  rw [if_neg (by omega), if_neg (by omega)]
  simp
theorem place_out {f c a : Int} (h : a < 0 ∨ c ≤ a) : placeM f c a = (0, 4) := by
  unfold placeM; rw [if_pos h]
theorem pwrite_out {x : Ext} {a : Int} (h : a < 0 ∨ x.2 ≤ a) : pwrite d x a b = (d, 4) := by
  unfold pwrite; rw [place_out h, if_neg (by decide)]
theorem pread_in (h1 : d.off = false) {f c a : Nat} (h : a < c) (hf : f + c ≤ d.secs.length) (hd : d.secs.length ≤ 256) : pread d ((f : Int), (c : Int)) (a : Int) = (d.cur (f + a), 0) := by
  unfold pread
  rw [place_in h (by omega), if_pos rfl]
  exact read_free h1 (by omega)
theorem new_cur {n k : Nat} (h : k < n) : (DM.new n).cur k = List.replicate 64 0 := by
  simp [DM.cur, DM.new, DM.sec, h]
end
/-- an Act of layer 6's laws, as it lies in memory -/
structure Act6 where
  do_ : Int
  at_ : Int
  off : Int
  fill : UInt8
  keepv : Value
  keep : List Bool
def Act6.cells (a : Act6) : List Value := [.int .i64 a.do_, .int .i64 a.at_, .int .i64 a.off, u8 a.fill, a.keepv]
structure Act6.Ok (s : Ro) (a : Act6) : Prop where
  keep : SlS s a.keepv 1 a.keep.length (a.keep.map Value.bool)
  klen : a.keep.length ≤ 140737488351232
  hd : I64 a.do_
  ha : I64 a.at_
  ho : I64 a.off
theorem Act6.Ok.mono {s s' : Ro} {a : Act6} (h : a.Ok s) (hs : s.Le s') : a.Ok s' := ⟨h.keep.mono hs, h.klen, h.hd, h.ha, h.ho⟩
end Go.Proofs.YtbknpbihgfphaaaDoor
set_option linter.unusedSimpArgs false
set_option linter.unusedVariables false
namespace Go.Proofs.YtbknpbihgfphaaaDoor
open Go Go.RowKit Go.Own
structure En where
  kind : Int
  part : Int
  ver : Nat
  code : Int
deriving DecidableEq
def En.cells (x : En) : List Value := [.int .i64 x.kind, .int .i64 x.part, .int .u32 (x.ver : Int), .int .i64 x.code]
def En.zero : En := ⟨0, 0, 0, 0⟩
structure En.Ok (x : En) : Prop where
  k : I64 x.kind
  p : I64 x.part
  v : x.ver < 2 ^ 32
  c : I64 x.code
def En.valid (x : En) : Bool := decide (1 ≤ x.kind ∧ x.kind ≤ 4 ∧ 0 ≤ x.part ∧ x.part < 8 ∧ 0 ≤ x.code ∧ x.code ≤ 255)
def headN (n k p v c : Nat) : List UInt8 := ((((([65] ++ putN n 4) ++ putN k 1) ++ putN p 1) ++ putN v 4) ++ putN c 1)
def contN (n k p v c : Nat) : List UInt8 := headN n k p v c ++ List.replicate 48 0
def secN (n k p v c : Nat) : List UInt8 := sealL (contN n k p v c)
def secE (n : Nat) (x : En) : List UInt8 := secN n x.kind.toNat x.part.toNat x.ver x.code.toNat
theorem headN_len (n k p v c : Nat) : (headN n k p v c).length = 12 := by simp [headN, putN_len]
theorem contN_len (n k p v c : Nat) : (contN n k p v c).length = 60 := by simp [contN, headN_len]
theorem secN_len (n k p v c : Nat) : (secN n k p v c).length = 64 := by simp [secN, sealL, contN_len, putN_len]
section
variable {s : Ro} {w : World} {R : List Asn}
theorem _root_.Go.Own.Holds.weak {s s' : Ro} {w : World} {rs : List Asn} (H : Holds s' w rs) (hs : s.Le s') : Holds s w rs := by
  obtain ⟨⟨f1, f2, f3, f4⟩, F, hF, hn⟩ := H
  have hc := hs.cst
  refine ⟨⟨fun k o h => f1 k o (hs.mem k o h), by rw [f2, hc], by rw [f3, hc], by rw [f4, hc]⟩, F, hF, fun k hk => ?_⟩
  cases hm : s.mem k with
  | none => rfl
  | some o => have := hs.mem k o hm; rw [hn k hk] at this; cases this
theorem _root_.Go.Own.Src.mono {s s' : Ro} {rs : List Asn} {v : Value} {sz n : Nat} {xs : List Value} (h : Src s rs v sz n xs) (hs : s.Le s') : Src s' rs v sz n xs :=
  ⟨fun w H => h.reads w (H.weak hs), fun hx k hk => (h.blk hx k hk).imp (fun ⟨o, ho⟩ => ⟨o, hs.mem k o ho⟩) id⟩
end
end Go.Proofs.YtbknpbihgfphaaaDoor

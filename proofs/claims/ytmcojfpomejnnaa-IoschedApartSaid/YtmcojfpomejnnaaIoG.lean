/- Layer 15's examples. -/
import Derived.Test.YtmcojfpomejnnaaIoF
set_option linter.unusedSimpArgs false
set_option linter.unusedVariables false
namespace Go.Proofs.Ytmcojfpomejnnaa
open Go Go.RowKit Go.Own

section
variable {s : Ro} {w : World} {R rs rs' : List Asn} {b bS : Nat} {m : SM} {d : DM}
theorem Sch.arr (h : Sch s w b bS m rs) (T : Arr rs rs' := by infer_instance) : Sch s w b bS m rs' := by
  obtain ⟨va, cap, sa, sc, ps, hr, hsl, H⟩ := h
  exact ⟨va, cap, sa, sc, ps, hr, hsl, H.arr⟩
theorem take_arr {rs rest : List Asn} {A : Asn} (T : TakeA rs A rest) : Arr rs (A :: rest) := by
  have := T
  infer_instance
/-- the schedule, the disk, and what is beside them -/
theorem Sch.close {va sa : Option Addr} {cap sc : Nat} {ps : List Pr} {r1 r2 r3 : List Asn} (hr : SRep s b ps m) (hsl : SlS s (.slice sa m.slots.length sc) 1 m.slots.length (m.slots.map (Value.int .i64))) (H : Holds s w rs)
    (T1 : TakeA rs (var bS 136 [.slice va ps.length cap, .slice sa m.slots.length sc, .int .i64 (m.next : Int)]) r1 := by infer_instance) (T2 : TakeA r1 (row 143 70 (.slice va ps.length cap) ps.length (ps.flatMap Pr.cells)) r2 := by infer_instance) (T3 : TakeA r2 (dsk b d) r3 := by infer_instance) : Sch s w b bS m (dsk b d :: r3) := by
  have i1 := T1
  have i2 := T2
  have i3 := T3
  have a3 : Arr r2 (dsk b d :: r3) := inferInstance
  have a2 : Arr r1 (row 143 70 (.slice va ps.length cap) ps.length (ps.flatMap Pr.cells) :: dsk b d :: r3) := inferInstance
  exact ⟨va, cap, sa, sc, ps, hr, hsl, H.arr⟩
theorem New_q1 {xs : List Ext} {rooms slots : List Int} {xa ra la : Option Addr} {xc rc lc : Nat} (H : Holds s w (dsk b d :: R)) (hx : SlS s (.slice xa xs.length xc) 2 xs.length (xs.flatMap Ext.cells)) (hxo : ∀ x ∈ xs, I64 x.1 ∧ I64 x.2) (hr : SlS s (.slice ra rooms.length rc) 1 rooms.length (rooms.map (Value.int .i64))) (hl : SlS s (.slice la slots.length lc) 1 slots.length (slots.map (Value.int .i64)))
    (bx : xs.length ≤ 1000) (br : rooms.length ≤ 1000) (bl : slots.length ≤ 1000) (hm : mayM d.secs.length xs rooms slots = 0) :
    Calls Try.prog 14 #[.pointer (some ⟨b, 0, none⟩), .slice xa xs.length xc, .slice ra rooms.length rc, .slice la slots.length lc] w fun e w' =>
      ∃ s' bS, e = .returned (.tuple #[.pointer (some ⟨bS, 0, none⟩), .int .i64 0]) ∧ s.Le s' ∧ Sch s' w' b bS (SM.new xs rooms slots) (dsk b d :: R) :=
  (New_q H hx hxo hr hl bx br bl).mono fun e w' h => by
    rcases h with ⟨h, _⟩ | ⟨_, h⟩
    · exact absurd hm h
    · exact h
end
theorem build_ints2 (x y : Int) (w : World) : (Instr.buildSlice 22 2 [(0, .int .i64 x), (1, .int .i64 y)].toArray).run Try.prog w = .ok (.slice (some ⟨w.heap.size, 0, none⟩) 2 2) (w.alloc (.cells [.int .i64 x, .int .i64 y].toArray 3)) := by kernel_rfl
theorem build_ints3 (x y z : Int) (w : World) : (Instr.buildSlice 22 3 [(0, .int .i64 x), (1, .int .i64 y), (2, .int .i64 z)].toArray).run Try.prog w = .ok (.slice (some ⟨w.heap.size, 0, none⟩) 3 3) (w.alloc (.cells [.int .i64 x, .int .i64 y, .int .i64 z].toArray 3)) := by kernel_rfl
theorem build_req0 (w : World) : (Instr.build 45 ([] : List (Nat × Value)).toArray).run Try.prog w = .ok (.agg #[.int .i64 0, .int .i64 0, .slice none 0 0]) w := by kernel_rfl
theorem build_req3 (k a : Int) (da : Option Addr) (n c : Nat) (w : World) : (Instr.build 45 [(0, .int .i64 k), (1, .int .i64 a), (2, .slice da n c)].toArray).run Try.prog w = .ok (.agg #[.int .i64 k, .int .i64 a, .slice da n c]) w := by kernel_rfl

def wk1 (l : List UInt8) (n : Nat) : SM := ⟨[⟨some (0, 4), 1, 0, 0, []⟩, ⟨some (4, 4), 1, 1, 0, [⟨1, 1, 3, l⟩]⟩], [0, -1, 1], n⟩
def wk2 : SM := ⟨[⟨some (0, 4), 1, 0, 0, []⟩, ⟨some (4, 4), 1, 1, 1, []⟩], [0, -1, 1], 0⟩
theorem wk1_last (l : List UInt8) (n : Nat) : ∀ p ∈ (wk1 l n).parts, p.last ≤ 1000000 := by
  intro p hp
  simp only [wk1, List.mem_cons, List.not_mem_nil, or_false] at hp
  rcases hp with rfl | rfl <;> simp
theorem wk1_served (l : List UInt8) (n : Nat) : ∀ p ∈ (wk1 l n).parts, p.served ≤ 1000000 := by
  intro p hp
  simp only [wk1, List.mem_cons, List.not_mem_nil, or_false] at hp
  rcases hp with rfl | rfl <;> simp
theorem aw_new : SM.new [(0, 4), (4, 4)] [1, 1] [0, -1, 1] = ⟨[⟨some (0, 4), 1, 0, 0, []⟩, ⟨some (4, 4), 1, 0, 0, []⟩], [0, -1, 1], 0⟩ := rfl
theorem aw_ask {l : List UInt8} (h : l.length = 64) : (SM.new [(0, 4), (4, 4)] [1, 1] [0, -1, 1]).ask 1 1 3 l = (wk1 l 0, 1, 0) := by
  have := ask_at (m := SM.new [(0, 4), (4, 4)] [1, 1] [0, -1, 1]) (j := 1) (by decide) 1 3 l
  rw [show ((1 : Nat) : Int) = 1 from rfl] at this
  rw [this]
  have e : askP (SM.new [(0, 4), (4, 4)] [1, 1] [0, -1, 1]).parts[1] 1 3 l = (⟨some (4, 4), 1, 1, 0, [⟨1, 1, 3, l⟩]⟩, 1, 0) := by
    show askP ⟨some (4, 4), 1, 0, 0, []⟩ 1 3 l = _
    unfold askP
    simp only
    rw [if_neg (by rw [formed_t (by omega)]; decide), if_neg (by decide), if_neg (by decide)]
    rfl
  rw [e]; rfl
theorem aw_ask2 (l : List UInt8) : (wk1 l 0).ask 1 0 0 [] = (wk1 l 0, 0, 5) := rfl
theorem aw_s0 (l : List UInt8) (d : DM) : (wk1 l 0).slot d = (wk1 l 1, d, none) := rfl
theorem aw_s1 (l : List UInt8) (d : DM) : (wk1 l 1).slot d = (wk1 l 2, d, none) := rfl
theorem aw_s2 (l : List UInt8) (d : DM) : (wk1 l 2).slot d = (wk2, (pwrite d (4, 4) 3 l).1, some ⟨1, 1, [], (pwrite d (4, 4) 3 l).2⟩) := by
  rw [slot_serve (m := wk1 l 2) (j := 1) (r := ⟨1, 1, 3, l⟩) (rest := []) (x := (4, 4)) (by show 2 < 3; decide) rfl (by show 1 < 2; decide) rfl rfl]
  unfold serveM
  rw [if_neg (by simp), if_pos rfl]
  simp [wk1, wk2, SM.step]

section
variable {s : Ro} {w : World} {R : List Asn}
set_option maxRecDepth 100000 in
set_option maxHeartbeats 1000000 in
theorem awake15 (H : Holds s w R) : Calls Try.prog 26 #[] w fun e w' => e = .returned (.bool true) ∧ Holds s w' R := by
  have hpw : ∀ l : List UInt8, l.length = 64 → pwrite (DM.new 8) (4, 4) 3 l = (wr1 (DM.new 8) 7 l, 0) := fun l h => pwrite_in (d := DM.new 8) rfl rfl (f := 4) (c := 4) (a := 3) (by omega) (by decide) (by decide) h
  have hrd : ∀ l : List UInt8, (wr1 (DM.new 8) 7 l).read ((7 : Nat) : Int) = (l, 0) := fun l => by rw [read_free rfl (by simp [wr1, DM.new]), cur_wr1, if_pos rfl]
  refine enter Try.func26 rfl Try.ntmps26 rfl ?_
  repeat' (first | refine Z H ?_ | (refine Zc ?_ ?_ <;> intro hc <;> first | (exfalso; omega) | skip) | (refine Y ?_; try change C _ _ _ _ _ _) | (refine Zs H ?_; clear H; (try clear w); intro w H) | (refine Zn H ?_; clear H; (try clear w); intro _ w H) | (refine Ze H ?_; clear H; (try clear w); intro gv w H))
  (refine X.call (New_s (n := 8) H (by decide) (by decide)) ?_; (try clear H); rintro _ w ⟨b, rfl, H⟩; refine ⟨_, rfl, ?_⟩)
  repeat' (first | (refine K.build [(0, .int .i64 _), (1, .int .i64 _)] (.agg #[.int .i64 _, .int .i64 _]) (build_ext _ _) rfl rfl rfl ?_) | refine Z H ?_ | (refine Zc ?_ ?_ <;> intro hc <;> first | (exfalso; omega) | skip) | (refine Y ?_; try change C _ _ _ _ _ _) | (refine Zs H ?_; clear H; (try clear w); intro w H) | (refine Zn H ?_; clear H; (try clear w); intro _ w H) | (refine Ze H ?_; clear H; (try clear w); intro gv w H))
  refine K.lit [(0, .agg #[.int .i64 0, .int .i64 4]), (1, .agg #[.int .i64 4, .int .i64 4])] 33 2 [.int .i64 0, .int .i64 4, .int .i64 4, .int .i64 4] H (build_two _ _ _ _) rfl rfl rfl rfl (by decide) ?_
  clear H
  intro g1 w H
  obtain ⟨s1, hs1, H, hr1⟩ := H.fixRow
  refine K.lit [(0, .int .i64 1), (1, .int .i64 1)] 3 1 [.int .i64 1, .int .i64 1] H (build_ints2 _ _) rfl rfl rfl rfl (by decide) ?_
  clear H
  intro g2 w H
  obtain ⟨s2, hs2, H, hr2⟩ := H.fixRow
  refine K.lit [(0, .int .i64 0), (1, .int .i64 (-1)), (2, .int .i64 1)] 3 1 [.int .i64 0, .int .i64 (-1), .int .i64 1] H (build_ints3 _ _ _) rfl rfl rfl rfl (by decide) ?_
  clear H
  intro g3 w H
  obtain ⟨s3, hs3, H, hr3⟩ := H.fixRow
  (refine X.call (New_q1 (xs := [(0, 4), (4, 4)]) (rooms := [1, 1]) (slots := [0, -1, 1]) H (hr1.mono (hs2.trans hs3)) (by decide) (hr2.mono hs3) hr3 (by decide) (by decide) (by decide) (by decide)) ?_; (try clear H); rintro _ w ⟨s4, bS, rfl, hs4, hS⟩; refine ⟨_, rfl, ?_⟩)
  replace hs4 := hs1.trans (hs2.trans (hs3.trans hs4))
  clear hs1 hs2 hs3 hr1 hr2 hr3
  obtain ⟨va, cap, sa, sc, ps, hr, hsl, H⟩ := hS
  repeat' (first | refine Z H ?_ | (refine Zc ?_ ?_ <;> intro hc <;> first | (exfalso; omega) | skip) | (refine Y ?_; try change C _ _ _ _ _ _) | (refine Zs H ?_; clear H; (try clear w); intro w H) | (refine Zn H ?_; clear H; (try clear w); intro _ w H) | (refine Ze H ?_; clear H; (try clear w); intro gv w H))
  (refine X.call (Sector_s (x := 9) (off := 0) H) ?_; (try clear H); rintro _ w ⟨t1, a1, c1, rfl, H⟩; refine ⟨_, rfl, ?_⟩)
  have hl64 := sect0_len 9
  have hl0 : (sect 9 0)[0]? = some 9 := by rw [sect0]; rfl
  generalize sect 9 0 = l at *
  repeat' (first | (refine K.build [(0, .int .i64 1), (1, .int .i64 3), (2, .slice a1 l.length c1)] (.agg #[.int .i64 1, .int .i64 3, .slice a1 l.length c1]) (build_req3 _ _ _ _ _) rfl rfl rfl ?_) | refine Z H ?_ | (refine Zc ?_ ?_ <;> intro hc <;> first | (exfalso; omega) | skip) | (refine Y ?_; try change C _ _ _ _ _ _) | (refine Zs H ?_; clear H; (try clear w); intro w H) | (refine Zn H ?_; clear H; (try clear w); intro _ w H) | (refine Ze H ?_; clear H; (try clear w); intro gv w H))
  have hS := Sch.close (b := b) (bS := bS) (va := va) (sa := sa) (cap := cap) (sc := sc) (d := DM.new 8) hr hsl H
  have hA := Ask_s (i := 1) (k := 1) (a := 3) (l := l) hS (.own 1 _ rfl) (by decide) (by decide) (by omega) (by decide)
  rw [aw_ask hl64] at hA
  dsimp only at hA
  (refine X.call (hA) ?_; (try clear H); rintro _ w ⟨s5, rfl, hs5, hS⟩; refine ⟨_, rfl, ?_⟩)
  clear hA hr hsl
  obtain ⟨va, cap, sa, sc, ps, hr, hsl, H⟩ := hS
  repeat' (first | (refine K.build [] (.agg #[.int .i64 0, .int .i64 0, .slice none 0 0]) build_req0 rfl rfl rfl ?_) | refine Z H ?_ | (refine Zc ?_ ?_ <;> intro hc <;> first | (exfalso; omega) | skip) | (refine Y ?_; try change C _ _ _ _ _ _) | (refine Zs H ?_; clear H; (try clear w); intro w H) | (refine Zn H ?_; clear H; (try clear w); intro _ w H) | (refine Ze H ?_; clear H; (try clear w); intro gv w H))
  have hS := Sch.close (b := b) (bS := bS) (va := va) (sa := sa) (cap := cap) (sc := sc) (d := DM.new 8) hr hsl H
  have hA := Ask_s (i := 1) (k := 0) (a := 0) (l := []) hS (.ro (SlS.nil _ _)) (by decide) (by decide) (by decide) (wk1_last _ _)
  rw [aw_ask2] at hA
  dsimp only at hA
  (refine X.call (hA) ?_; (try clear H); rintro _ w ⟨s6, rfl, hs6, hS⟩; refine ⟨_, rfl, ?_⟩)
  clear hA hr hsl
  repeat' (first | refine Z H ?_ | (refine Zc ?_ ?_ <;> intro hc <;> first | (exfalso; omega) | skip) | (refine Y ?_; try change C _ _ _ _ _ _) | (refine Zs H ?_; clear H; (try clear w); intro w H) | (refine Zn H ?_; clear H; (try clear w); intro _ w H) | (refine Ze H ?_; clear H; (try clear w); intro gv w H))
  have hT := Slot_s hS (by decide) (wk1_served _ _)
  rw [aw_s0] at hT
  simp only [Option.getD_none, Option.isSome_none, Dn.zero, List.length_nil] at hT
  (refine X.call (hT) ?_; (try clear H); rintro _ w ⟨t2, a2, c2, rfl, hS⟩; refine ⟨_, rfl, ?_⟩)
  clear hT
  obtain ⟨va, cap, sa, sc, ps, hr, hsl, H⟩ := hS
  repeat' (first | refine Z H ?_ | (refine Zc ?_ ?_ <;> intro hc <;> first | (exfalso; omega) | skip) | (refine Y ?_; try change C _ _ _ _ _ _) | (refine Zs H ?_; clear H; (try clear w); intro w H) | (refine Zn H ?_; clear H; (try clear w); intro _ w H) | (refine Ze H ?_; clear H; (try clear w); intro gv w H))
  have hS := Sch.close (b := b) (bS := bS) (va := va) (sa := sa) (cap := cap) (sc := sc) (d := DM.new 8) hr hsl H
  have hT := Slot_s hS (by decide) (wk1_served _ _)
  rw [aw_s1] at hT
  simp only [Option.getD_none, Option.isSome_none, Dn.zero, List.length_nil] at hT
  (refine X.call (hT) ?_; (try clear H); rintro _ w ⟨t3, a3, c3, rfl, hS⟩; refine ⟨_, rfl, ?_⟩)
  clear hT hr hsl
  obtain ⟨va, cap, sa, sc, ps, hr, hsl, H⟩ := hS
  repeat' (first | refine Z H ?_ | (refine Zc ?_ ?_ <;> intro hc <;> first | (exfalso; omega) | skip) | (refine Y ?_; try change C _ _ _ _ _ _) | (refine Zs H ?_; clear H; (try clear w); intro w H) | (refine Zn H ?_; clear H; (try clear w); intro _ w H) | (refine Ze H ?_; clear H; (try clear w); intro gv w H))
  have hS := Sch.close (b := b) (bS := bS) (va := va) (sa := sa) (cap := cap) (sc := sc) (d := DM.new 8) hr hsl H
  have hT := Slot_s hS (by decide) (wk1_served _ _)
  rw [aw_s2, hpw l hl64] at hT
  simp only [Option.getD_some, Option.isSome_some, List.length_nil] at hT
  (refine X.call (hT) ?_; (try clear H); rintro _ w ⟨t4, a4, c4, rfl, hS⟩; refine ⟨_, rfl, ?_⟩)
  clear hT hr hsl
  obtain ⟨va, cap, sa, sc, ps, hr, hsl, H⟩ := hS
  repeat' (first | refine Z H ?_ | (refine Zc ?_ ?_ <;> intro hc <;> first | (exfalso; omega) | skip) | (refine Y ?_; try change C _ _ _ _ _ _) | (refine Zs H ?_; clear H; (try clear w); intro w H) | (refine Zn H ?_; clear H; (try clear w); intro _ w H) | (refine Ze H ?_; clear H; (try clear w); intro gv w H))
  first | (have hT : Holds _ _ (dsk b _ :: _) := H; clear hT) | (replace H := H.up 1 rfl; (try simp only [List.set_cons_zero, List.set_cons_succ, List.eraseIdx_cons_zero, List.eraseIdx_cons_succ] at H); have hT : Holds _ _ (dsk b _ :: _) := H; clear hT) | (replace H := H.up 2 rfl; (try simp only [List.set_cons_zero, List.set_cons_succ, List.eraseIdx_cons_zero, List.eraseIdx_cons_succ] at H); have hT : Holds _ _ (dsk b _ :: _) := H; clear hT) | (replace H := H.up 3 rfl; (try simp only [List.set_cons_zero, List.set_cons_succ, List.eraseIdx_cons_zero, List.eraseIdx_cons_succ] at H); have hT : Holds _ _ (dsk b _ :: _) := H; clear hT) | (replace H := H.up 4 rfl; (try simp only [List.set_cons_zero, List.set_cons_succ, List.eraseIdx_cons_zero, List.eraseIdx_cons_succ] at H); have hT : Holds _ _ (dsk b _ :: _) := H; clear hT) | (replace H := H.up 5 rfl; (try simp only [List.set_cons_zero, List.set_cons_succ, List.eraseIdx_cons_zero, List.eraseIdx_cons_succ] at H); have hT : Holds _ _ (dsk b _ :: _) := H; clear hT) | (replace H := H.up 6 rfl; (try simp only [List.set_cons_zero, List.set_cons_succ, List.eraseIdx_cons_zero, List.eraseIdx_cons_succ] at H); have hT : Holds _ _ (dsk b _ :: _) := H; clear hT)
  have hR := Read_s (n := ((7 : Nat) : Int)) H
  rw [hrd] at hR
  dsimp only at hR
  (refine X.call (hR) ?_; (try clear H); rintro _ w ⟨t5, a5, c5, rfl, H⟩; refine ⟨_, rfl, ?_⟩)
  clear hR
  obtain ⟨g5, rfl, _⟩ := H.form (i := 0) rfl (by show 0 < l.length; omega)
  have h9 : (u8s l)[0 + 0 * 1]? = some (u8 9) := by simp [u8s, hl0]
  repeat' (first | (refine K.ia (i := 0) rfl rfl rfl rfl rfl (by omega) ?_) | refine Z H ?_ | (refine Zc ?_ ?_ <;> intro hc <;> first | (exfalso; omega) | skip) | (refine Y ?_; try change C _ _ _ _ _ _) | (refine Zs H ?_; clear H; (try clear w); intro w H) | (refine Zn H ?_; clear H; (try clear w); intro _ w H) | (refine Ze H ?_; clear H; (try clear w); intro gv w H))
  rotate_left
  · rename_i hc
    exact absurd rfl hc
  have hS := Sch.close (b := b) (bS := bS) (va := va) (sa := sa) (cap := cap) (sc := sc) (d := wr1 (DM.new 8) 7 l) hr hsl H
  (refine X.call (Next_s hS) ?_; (try clear H); rintro _ w ⟨rfl, hS⟩; refine ⟨_, rfl, ?_⟩)
  repeat' (first | refine Z H ?_ | (refine Zc ?_ ?_ <;> intro hc <;> first | (exfalso; omega) | skip) | (refine Y ?_; try change C _ _ _ _ _ _) | (refine Zs H ?_; clear H; (try clear w); intro w H) | (refine Zn H ?_; clear H; (try clear w); intro _ w H) | (refine Ze H ?_; clear H; (try clear w); intro gv w H))
  rotate_left
  · rename_i hc
    exact absurd rfl hc
  obtain ⟨va, cap, sa, sc, ps, hr, hsl, H⟩ := hS
  exact ⟨_, resT rfl, rfl, weaken (hs4.trans (hs5.trans hs6)) H.arr⟩
end
end Go.Proofs.Ytmcojfpomejnnaa

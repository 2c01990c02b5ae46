/- audit: Open, Add, Entries. -/
import Derived.Test.YtbknpbihgfphaaaDoorAu
import Derived.Test.YtbknpbihgfphaaaDoorK4
set_option linter.unusedSimpArgs false
set_option linter.unusedVariables false
namespace Go.Proofs.YtbknpbihgfphaaaDoor
open Go Go.RowKit Go.Own

/-- what is read from the n-th sector on, k sectors at most -/
def scanA (d : DM) (x : Ext) : Nat → Nat → List En × Int
  | 0, _ => ([], 0)
  | k + 1, n => if (pread d x (n : Int)).2 = 0 then (match saidE n (pread d x (n : Int)).1 with | some e => (e :: (scanA d x k (n + 1)).1, (scanA d x k (n + 1)).2) | none => ([], 0)) else ([], (pread d x (n : Int)).2)
structure AL where
  ents : List En
  dead : Bool
def addA (d : DM) (x : Ext) (m : AL) (e : En) : DM × AL × Int :=
  if m.dead = true then (d, m, 9) else if e.valid = false then (d, m, 1) else if x.2 ≤ (m.ents.length : Int) then (d, m, 5)
  else if (pwrite d x (m.ents.length : Int) (secE m.ents.length e)).2 = 0 then
    (if (pwrite d x (m.ents.length : Int) (secE m.ents.length e)).1.flush.2 = 0 then ((pwrite d x (m.ents.length : Int) (secE m.ents.length e)).1.flush.1, ⟨m.ents ++ [e], false⟩, 0)
    else ((pwrite d x (m.ents.length : Int) (secE m.ents.length e)).1.flush.1, ⟨m.ents, true⟩, (pwrite d x (m.ents.length : Int) (secE m.ents.length e)).1.flush.2))
  else ((pwrite d x (m.ents.length : Int) (secE m.ents.length e)).1, ⟨m.ents, true⟩, (pwrite d x (m.ents.length : Int) (secE m.ents.length e)).2)
theorem flat_en (l : List En) (e : En) : (l ++ [e]).flatMap En.cells = l.flatMap En.cells ++ [.int .i64 e.kind, .int .i64 e.part, .int .u32 (e.ver : Int), .int .i64 e.code] := by simp [En.cells]
theorem build_log (bp : Nat) (w : World) : (Instr.build 112 [(0, .pointer (some ⟨bp, 0, none⟩))].toArray).run Tryd.prog w = .ok (.agg #[.pointer (some ⟨bp, 0, none⟩), .slice none 0 0, .bool false]) w := by kernel_rfl
/-- a log in memory -/
abbrev logP (bL bp : Nat) (aa : Option Addr) (cc : Nat) (m : AL) (R : List Asn) : List Asn := var bL 112 [.pointer (some ⟨bp, 0, none⟩), .slice aa m.ents.length cc, .bool m.dead] :: row 34 4 (.slice aa m.ents.length cc) m.ents.length (m.ents.flatMap En.cells) :: R
theorem logP_of {s : Ro} {w : World} {rs R : List Asn} {bL bp cc : Nat} {aa : Option Addr} {ents : List En} {dead : Bool} (H : Holds s w rs) (T : Arr rs (var bL 112 [.pointer (some ⟨bp, 0, none⟩), .slice aa ents.length cc, .bool dead] :: row 34 4 (.slice aa ents.length cc) ents.length (ents.flatMap En.cells) :: R) := by infer_instance) : Holds s w (logP bL bp aa cc ⟨ents, dead⟩ R) := H.arr T
theorem pread_64 {d : DM} {x : Ext} {a : Int} (hw : d.Wf) (h : (pread d x a).2 = 0) : (pread d x a).1.length = 64 := by
  unfold pread at h ⊢
  split at h
  · rename_i hp
    rw [if_pos hp]
    unfold DM.read at h ⊢
    split at h
    · rename_i hb
      rw [if_pos hb]
      split at h
      · cases h
      · rename_i ho
        rw [if_neg ho]
        simp only [DM.inB, decide_eq_true_eq] at hb
        rw [cur_curTo]
        exact curTo_len hw (by omega) _
    · cases h
  · rename_i hp
    exact absurd h hp

section
variable {s : Ro} {w : World} {R : List Asn} {b bp : Nat} {d : DM} {x : Ext}
set_option maxRecDepth 100000 in
set_option maxHeartbeats 1000000 in
theorem OpenA_s {cnt : Nat} (hN : Nib s) (H : Holds s w (dsk b d :: R)) (hp : PartS s bp b x) (hx : x.2 = (cnt : Int)) (hc : cnt ≤ 1000) : Calls Tryd.prog 13 #[.pointer (some ⟨bp, 0, none⟩)] w fun e w' => ∃ s', s.Le s' ∧ (((scanA d x cnt 0).2 = 0 ∧ ∃ bL aa cc, e = .returned (.tuple #[.pointer (some ⟨bL, 0, none⟩), .int .i64 0]) ∧ Holds s' w' (logP bL bp aa cc ⟨(scanA d x cnt 0).1, false⟩ (dsk b d :: R))) ∨ ((scanA d x cnt 0).2 ≠ 0 ∧ e = .returned (.tuple #[.pointer none, .int .i64 (scanA d x cnt 0).2]) ∧ Holds s' w' (dsk b d :: R))) := by
  have hwf : d.Wf := Holds.wf H
  refine enter Tryd.func13 rfl Tryd.ntmps13 rfl ?_
  repeat' (first | refine Z H ?_ | (refine Zc ?_ ?_ <;> intro hc <;> first | (exfalso; omega) | skip) | (refine Y ?_; try change C _ _ _ _ _ _) | (refine Zs H ?_; clear H; (try clear w); intro w H) | (refine Zn H ?_; clear H; (try clear w); (first | ((fail_if_success (have := bl1)); intro bl1 w H) | intro _ w H)) | (refine Ze H ?_; clear H; (try clear w); intro gv w H))
  refine K.build [(0, .pointer (some ⟨bp, 0, none⟩))] (.agg #[.pointer (some ⟨bp, 0, none⟩), .slice none 0 0, .bool false]) (build_log _) rfl rfl rfl ?_
  repeat' (first | refine Z H ?_ | (refine Zc ?_ ?_ <;> intro hc <;> first | (exfalso; omega) | skip) | (refine Y ?_; try change C _ _ _ _ _ _) | (refine Zs H ?_; clear H; (try clear w); intro w H) | (refine Zn H ?_; clear H; (try clear w); (first | ((fail_if_success (have := bl1)); intro bl1 w H) | intro _ w H)) | (refine Ze H ?_; clear H; (try clear w); intro gv w H))
  (refine X.call (Size_p H hp) ?_; (try clear H); rintro _ w ⟨rfl, H⟩; refine ⟨_, rfl, ?_⟩)
  rw [hx]
  repeat' (first | refine Z H ?_ | (refine Zc ?_ ?_ <;> intro hc <;> first | (exfalso; omega) | skip) | (refine Y ?_; try change C _ _ _ _ _ _) | (refine Zs H ?_; clear H; (try clear w); intro w H) | (refine Zn H ?_; clear H; (try clear w); (first | ((fail_if_success (have := bl1)); intro bl1 w H) | intro _ w H)) | (refine Ze H ?_; clear H; (try clear w); intro gv w H))
  replace H := H.nilRow 34 4
  have H' : Holds s w (var bl1 112 [.pointer (some ⟨bp, 0, none⟩), .slice none 0 0, .bool false] :: row 34 4 (.slice none 0 0) 0 [] :: dsk b d :: R) := H.arr
  clear H
  refine C.loopS [2, 3, 5, 6, 7, 8, 9, 10, 16, 17, 18, 19, 20, 21, 22, 23, 24, 25, 26, 27, 28, 29, 30, 31, 32, 33, 34, 35, 36, 37, 38, 39, 40, 41, 42, 43, 44, 45, 46, 47, 48] [16] rfl (fun k vs w => ∃ i : Nat, ∃ s' acc aa cc, k = cnt - i ∧ i ≤ cnt ∧ vs = [.int .i64 (i : Int)] ∧ s.Le s' ∧ acc.length = i ∧ scanA d x cnt 0 = (acc ++ (scanA d x (cnt - i) i).1, (scanA d x (cnt - i) i).2) ∧ Holds s' w (logP bl1 bp aa cc ⟨acc, false⟩ (dsk b d :: R))) cnt ⟨0, s, [], none, 0, rfl, Nat.zero_le _, rfl, Ro.Le.refl _, rfl, rfl, H'⟩ ?_
  clear H'
  rintro k vs hv w ⟨i, s1, acc, aa, cc, rfl, hi, rfl, hs1, hal, hsc, H⟩
  unfold logP at H
  dsimp only at H
  by_cases hlt : i < cnt
  · rw [show cnt - i = (cnt - (i + 1)) + 1 by omega] at hsc
    rw [scanA] at hsc
    repeat' (first | refine Z H ?_ | (refine Zc ?_ ?_ <;> intro hc <;> first | (exfalso; omega) | skip) | (refine Y ?_; try change C _ _ _ _ _ _) | (refine Zs H ?_; clear H; (try clear w); intro w H) | (refine Zn H ?_; clear H; (try clear w); (first | ((fail_if_success (have := bl1)); intro bl1 w H) | intro _ w H)) | (refine Ze H ?_; clear H; (try clear w); intro gv w H))
    first | (have hT : Holds _ _ (dsk b _ :: _) := H; clear hT) | (replace H := H.up 1 rfl; (try simp only [List.set_cons_zero, List.set_cons_succ, List.eraseIdx_cons_zero, List.eraseIdx_cons_succ] at H); have hT : Holds _ _ (dsk b _ :: _) := H; clear hT) | (replace H := H.up 2 rfl; (try simp only [List.set_cons_zero, List.set_cons_succ, List.eraseIdx_cons_zero, List.eraseIdx_cons_succ] at H); have hT : Holds _ _ (dsk b _ :: _) := H; clear hT) | (replace H := H.up 3 rfl; (try simp only [List.set_cons_zero, List.set_cons_succ, List.eraseIdx_cons_zero, List.eraseIdx_cons_succ] at H); have hT : Holds _ _ (dsk b _ :: _) := H; clear hT) | (replace H := H.up 4 rfl; (try simp only [List.set_cons_zero, List.set_cons_succ, List.eraseIdx_cons_zero, List.eraseIdx_cons_succ] at H); have hT : Holds _ _ (dsk b _ :: _) := H; clear hT) | (replace H := H.up 5 rfl; (try simp only [List.set_cons_zero, List.set_cons_succ, List.eraseIdx_cons_zero, List.eraseIdx_cons_succ] at H); have hT : Holds _ _ (dsk b _ :: _) := H; clear hT) | (replace H := H.up 6 rfl; (try simp only [List.set_cons_zero, List.set_cons_succ, List.eraseIdx_cons_zero, List.eraseIdx_cons_succ] at H); have hT : Holds _ _ (dsk b _ :: _) := H; clear hT)
    have hR := Read_p (a := (i : Int)) H (hp.mono hs1) (by unfold I64; omega)
    have h64 := pread_64 (d := d) (x := x) (a := (i : Int)) hwf
    generalize pread d x (i : Int) = pr at *
    obtain ⟨l, code⟩ := pr
    dsimp only at hR hsc h64
    (refine X.call (hR) ?_; (try clear H); rintro _ w ⟨t1, a1, c1, rfl, H⟩; refine ⟨_, rfl, ?_⟩)
    clear hR
    by_cases h0 : code = 0
    · subst h0
      rw [if_pos rfl] at hsc
      have hl := h64 rfl
      repeat' (first | (refine B.fn ?_) | refine Z H ?_ | (refine Zc ?_ ?_ <;> intro hc <;> first | (exfalso; omega) | skip) | (refine Y ?_; try change C _ _ _ _ _ _) | (refine Zs H ?_; clear H; (try clear w); intro w H) | (refine Zn H ?_; clear H; (try clear w); (first | ((fail_if_success (have := bl1)); intro bl1 w H) | intro _ w H)) | (refine Ze H ?_; clear H; (try clear w); intro gv w H))
      refine B.call (entry_a (n := i) (l := l) (hN.mono hs1) H (.own 0 _ rfl) hl (by omega)) ?_
      clear H
      rintro _ w ⟨s2, rfl, hs2, H⟩
      refine ⟨_, rfl, ?_⟩
      cases hsa : saidE i l with
      | none =>
        rw [hsa] at hsc
        dsimp only [Option.getD_none, Option.isSome_none, En.zero, En.cells] at hsc ⊢
        rw [List.append_nil] at hsc
        repeat' (first | refine Z H ?_ | (refine Zc ?_ ?_ <;> intro hc <;> first | (exfalso; omega) | skip) | (refine Y ?_; try change C _ _ _ _ _ _) | (refine Zs H ?_; clear H; (try clear w); intro w H) | (refine Zn H ?_; clear H; (try clear w); (first | ((fail_if_success (have := bl1)); intro bl1 w H) | intro _ w H)) | (refine Ze H ?_; clear H; (try clear w); intro gv w H))
        refine ⟨_, resTT rfl, s2, hs1.trans hs2, .inl ⟨by rw [hsc], bl1, aa, cc, rfl, ?_⟩⟩
        rw [hsc]
        unfold logP
        exact H.arr
      | some e =>
        rw [hsa] at hsc
        dsimp only [Option.getD_some, Option.isSome_some] at hsc ⊢
        obtain ⟨ek, ep, ew, ec⟩ := e
        dsimp only [En.cells]
        repeat' (first | refine Z H ?_ | (refine Zc ?_ ?_ <;> intro hc <;> first | (exfalso; omega) | skip) | (refine Y ?_; try change C _ _ _ _ _ _) | (refine Zs H ?_; clear H; (try clear w); intro w H) | (refine Zn H ?_; clear H; (try clear w); (first | ((fail_if_success (have := bl1)); intro bl1 w H) | intro _ w H)) | (refine Ze H ?_; clear H; (try clear w); intro gv w H))
        refine C.drawn1 [0, 0, 0, 0, 1, 1, 2, 3, 0, 0, 3] [0, 0, 2, 6, 14, 0, 32, 126, 255, 511, 1023] (by kernel_rfl) ?_; replace H := H.drew
        repeat' (first | refine Z H ?_ | (refine Zc ?_ ?_ <;> intro hc <;> first | (exfalso; omega) | skip) | (refine Y ?_; try change C _ _ _ _ _ _) | (refine Zs H ?_; clear H; (try clear w); intro w H) | (refine Zn H ?_; clear H; (try clear w); (first | ((fail_if_success (have := bl1)); intro bl1 w H) | intro _ w H)) | (refine Ze H ?_; clear H; (try clear w); intro gv w H))
        refine K.one H rfl rfl (by conv => lhs; whnf) (by rfl) (by rfl) ?_; clear H; (try clear w); intro g1 w H
        repeat' (first | (refine X.app H ?_; clear H; intro a3 c3 w H) | refine Z H ?_ | (refine Zc ?_ ?_ <;> intro hc <;> first | (exfalso; omega) | skip) | (refine Y ?_; try change C _ _ _ _ _ _) | (refine Zs H ?_; clear H; (try clear w); intro w H) | (refine Zn H ?_; clear H; (try clear w); (first | ((fail_if_success (have := bl1)); intro bl1 w H) | intro _ w H)) | (refine Ze H ?_; clear H; (try clear w); intro gv w H))
        have H' : Holds s2 w (logP bl1 bp a3 c3 ⟨acc ++ [⟨ek, ep, ew, ec⟩], false⟩ (dsk b d :: R)) := by
          unfold logP
          rw [flat_en, List.length_append]
          exact H.arr
        exact ⟨by (repeat (first | exact Agr.refl | exact Agr.hav | refine Agr.upd rfl ?_ | refine Agr.in rfl ?_)), cnt - (i + 1), by omega, i + 1, s2, acc ++ [⟨ek, ep, ew, ec⟩], a3, c3, rfl, by omega, rfl, hs1.trans hs2, by rw [List.length_append, hal]; rfl, by rw [hsc, List.append_assoc]; rfl, H'⟩
    · rw [if_neg h0] at hsc
      repeat' (first | refine Z H ?_ | (refine Zc ?_ ?_ <;> intro hc <;> first | (exfalso; omega) | skip) | (refine Y ?_; try change C _ _ _ _ _ _) | (refine Zs H ?_; clear H; (try clear w); intro w H) | (refine Zn H ?_; clear H; (try clear w); (first | ((fail_if_success (have := bl1)); intro bl1 w H) | intro _ w H)) | (refine Ze H ?_; clear H; (try clear w); intro gv w H))
      refine ⟨_, resTT rfl, s1, hs1, .inr ⟨by rw [hsc]; exact h0, by rw [hsc]; rfl, H.arr⟩⟩
  · have hie : cnt - i = 0 := by omega
    rw [hie] at hsc
    rw [scanA, List.append_nil] at hsc
    repeat' (first | refine Z H ?_ | (refine Zc ?_ ?_ <;> intro hc <;> first | (exfalso; omega) | skip) | (refine Y ?_; try change C _ _ _ _ _ _) | (refine Zs H ?_; clear H; (try clear w); intro w H) | (refine Zn H ?_; clear H; (try clear w); (first | ((fail_if_success (have := bl1)); intro bl1 w H) | intro _ w H)) | (refine Ze H ?_; clear H; (try clear w); intro gv w H))
    refine ⟨_, resTT rfl, s1, hs1, .inl ⟨by rw [hsc], bl1, aa, cc, rfl, ?_⟩⟩
    rw [hsc]
    unfold logP
    exact H.arr
set_option maxRecDepth 100000 in
set_option maxHeartbeats 1000000 in
theorem CloneE_s {a : Option Addr} {c : Nat} {l : List En} (H : Holds s w R) (h : Src s R (.slice a l.length c) 4 l.length (l.flatMap En.cells)) (hl : l.length ≤ 1000000) : Calls Tryd.prog 61 #[.slice a l.length c] w fun e w' => ∃ aa cc, e = .returned (.slice aa l.length cc) ∧ Holds s w' (row 34 4 (.slice aa l.length cc) l.length (l.flatMap En.cells) :: R) := by
  cases a with
  | none =>
    have hl0 : l = [] := by
      obtain ⟨a, c, hv, _, _, _, h4⟩ := h.sl H
      cases l with
      | nil => rfl
      | cons x r => obtain ⟨ad, ha, _⟩ := h4 0 (.int .i64 x.kind) rfl; cases hv; cases ha
    subst hl0
    refine enter Tryd.func61 rfl Tryd.ntmps61 rfl ?_
    repeat' (first | (refine X.nilS ?_) | refine Z H ?_ | (refine Zc ?_ ?_ <;> intro hc <;> first | (exfalso; omega) | skip) | (refine Y ?_; try change C _ _ _ _ _ _) | (refine Zs H ?_; clear H; (try clear w); intro w H) | (refine Zn H ?_; clear H; (try clear w); intro _ w H) | (refine Ze H ?_; clear H; (try clear w); intro gv w H))
    exact ⟨_, resT rfl, none, 0, rfl, H.nilRow _ _⟩
  | some a =>
    refine enter Tryd.func61 rfl Tryd.ntmps61 rfl ?_
    repeat' (first | (refine X.nilS ?_) | refine Z H ?_ | (refine Zc ?_ ?_ <;> intro hc <;> first | (exfalso; omega) | skip) | (refine Y ?_; try change C _ _ _ _ _ _) | (refine Zs H ?_; clear H; (try clear w); intro w H) | (refine Zn H ?_; clear H; (try clear w); intro _ w H) | (refine Ze H ?_; clear H; (try clear w); intro gv w H))
    refine K.app0 0 H rfl h.skip (fun u hu => ?_) (by unfold maxLen; omega) (by omega) rfl rfl rfl ?_
    · obtain ⟨e, _, he⟩ := List.mem_flatMap.1 hu
      simp only [En.cells, List.mem_cons, List.not_mem_nil, or_false] at he
      rcases he with rfl | rfl | rfl | rfl <;> rfl
    clear H; intro aa cc w H; (try simp only [List.set_cons_zero, List.set_cons_succ, List.eraseIdx_cons_zero, List.eraseIdx_cons_succ] at H)
    repeat' (first | refine Z H ?_ | (refine Zc ?_ ?_ <;> intro hc <;> first | (exfalso; omega) | skip) | (refine Y ?_; try change C _ _ _ _ _ _) | (refine Zs H ?_; clear H; (try clear w); intro w H) | (refine Zn H ?_; clear H; (try clear w); intro _ w H) | (refine Ze H ?_; clear H; (try clear w); intro gv w H))
    exact ⟨_, resT rfl, aa, cc, rfl, H⟩
theorem Entries_s {bL cc : Nat} {aa : Option Addr} {m : AL} (H : Holds s w (logP bL bp aa cc m R)) (hl : m.ents.length ≤ 1000) : Calls Tryd.prog 16 #[.pointer (some ⟨bL, 0, none⟩)] w fun e w' => ∃ a' c', e = .returned (.slice a' m.ents.length c') ∧ Holds s w' (row 34 4 (.slice a' m.ents.length c') m.ents.length (m.ents.flatMap En.cells) :: logP bL bp aa cc m R) := by
  unfold logP at *
  refine enter Tryd.func16 rfl Tryd.ntmps16 rfl ?_
  repeat' (first | refine Z H ?_ | (refine Zc ?_ ?_ <;> intro hc <;> first | (exfalso; omega) | skip) | (refine Y ?_; try change C _ _ _ _ _ _) | (refine Zs H ?_; clear H; (try clear w); intro w H) | (refine Zn H ?_; clear H; (try clear w); intro _ w H) | (refine Ze H ?_; clear H; (try clear w); intro gv w H))
  (refine X.call (CloneE_s H (.own 1 _ rfl) (by omega)) ?_; (try clear H); rintro _ w ⟨a1, c1, rfl, H⟩; refine ⟨_, rfl, ?_⟩)
  repeat' (first | refine Z H ?_ | (refine Zc ?_ ?_ <;> intro hc <;> first | (exfalso; omega) | skip) | (refine Y ?_; try change C _ _ _ _ _ _) | (refine Zs H ?_; clear H; (try clear w); intro w H) | (refine Zn H ?_; clear H; (try clear w); intro _ w H) | (refine Ze H ?_; clear H; (try clear w); intro gv w H))
  exact ⟨_, resT rfl, a1, c1, rfl, H⟩
set_option maxRecDepth 100000 in
set_option maxHeartbeats 1000000 in
theorem Add_a {bL cc : Nat} {aa : Option Addr} {m : AL} {y : En} (hN : Nib s) (H : Holds s w (logP bL bp aa cc m (dsk b d :: R))) (hp : PartS s bp b x) (hy : y.Ok) (hl : m.ents.length ≤ 1000) (hpl : d.pend.length ≤ 100000) : Calls Tryd.prog 14 #[.pointer (some ⟨bL, 0, none⟩), .agg y.cells.toArray] w fun e w' => ∃ a' c', e = .returned (.int .i64 (addA d x m y).2.2) ∧ Holds s w' (logP bL bp a' c' (addA d x m y).2.1 (dsk b (addA d x m y).1 :: R)) := by
  obtain ⟨ents, dead⟩ := m
  unfold logP at H
  dsimp only at H hl
  unfold addA
  dsimp only
  refine enter Tryd.func14 rfl Tryd.ntmps14 rfl ?_
  cases dead with
  | true =>
    rw [if_pos rfl]
    repeat' (first | refine Z H ?_ | (refine Zc ?_ ?_ <;> intro hc <;> first | (exfalso; omega) | skip) | (refine Y ?_; try change C _ _ _ _ _ _) | (refine Zs H ?_; clear H; (try clear w); intro w H) | (refine Zn H ?_; clear H; (try clear w); (first | ((fail_if_success (have := bl1)); intro bl1 w H) | intro _ w H)) | (refine Ze H ?_; clear H; (try clear w); intro gv w H))
    exact ⟨_, resT rfl, aa, cc, rfl, logP_of H⟩
  | false =>
    rw [if_neg (by decide)]
    repeat' (first | refine Z H ?_ | (refine Zc ?_ ?_ <;> intro hc <;> first | (exfalso; omega) | skip) | (refine Y ?_; try change C _ _ _ _ _ _) | (refine Zs H ?_; clear H; (try clear w); intro w H) | (refine Zn H ?_; clear H; (try clear w); (first | ((fail_if_success (have := bl1)); intro bl1 w H) | intro _ w H)) | (refine Ze H ?_; clear H; (try clear w); intro gv w H))
    (refine X.call (valid_a (x := y) H) ?_; (try clear H); rintro _ w ⟨rfl, H⟩; refine ⟨_, rfl, ?_⟩)
    cases hva : y.valid with
    | false =>
      rw [if_pos rfl]
      repeat' (first | refine Z H ?_ | (refine Zc ?_ ?_ <;> intro hc <;> first | (exfalso; omega) | skip) | (refine Y ?_; try change C _ _ _ _ _ _) | (refine Zs H ?_; clear H; (try clear w); intro w H) | (refine Zn H ?_; clear H; (try clear w); (first | ((fail_if_success (have := bl1)); intro bl1 w H) | intro _ w H)) | (refine Ze H ?_; clear H; (try clear w); intro gv w H))
      exact ⟨_, resT rfl, aa, cc, rfl, logP_of H⟩
    | true =>
      rw [if_neg (by decide)]
      repeat' (first | refine Z H ?_ | (refine Zc ?_ ?_ <;> intro hc <;> first | (exfalso; omega) | skip) | (refine Y ?_; try change C _ _ _ _ _ _) | (refine Zs H ?_; clear H; (try clear w); intro w H) | (refine Zn H ?_; clear H; (try clear w); (first | ((fail_if_success (have := bl1)); intro bl1 w H) | intro _ w H)) | (refine Ze H ?_; clear H; (try clear w); intro gv w H))
      (refine X.call (Size_p H hp) ?_; (try clear H); rintro _ w ⟨rfl, H⟩; refine ⟨_, rfl, ?_⟩)
      by_cases hfull : x.2 ≤ (ents.length : Int)
      · rw [if_pos hfull]
        repeat' (first | refine Z H ?_ | (refine Zc ?_ ?_ <;> intro hc <;> first | (exfalso; omega) | skip) | (refine Y ?_; try change C _ _ _ _ _ _) | (refine Zs H ?_; clear H; (try clear w); intro w H) | (refine Zn H ?_; clear H; (try clear w); (first | ((fail_if_success (have := bl1)); intro bl1 w H) | intro _ w H)) | (refine Ze H ?_; clear H; (try clear w); intro gv w H))
        exact ⟨_, resT rfl, aa, cc, rfl, logP_of H⟩
      rw [if_neg hfull]
      obtain ⟨k, p, v, c⟩ := y
      unfold En.valid at hva
      simp only [decide_eq_true_eq] at hva
      obtain ⟨k, rfl⟩ := Int.eq_ofNat_of_zero_le (show 0 ≤ k by omega)
      obtain ⟨p, rfl⟩ := Int.eq_ofNat_of_zero_le (show 0 ≤ p by omega)
      obtain ⟨c, rfl⟩ := Int.eq_ofNat_of_zero_le (show 0 ≤ c by omega)
      have hvv := hy.v
      dsimp only at hvv
      have hse : secE ents.length ⟨(k : Int), (p : Int), v, (c : Int)⟩ = secN ents.length k p v c := by simp [secE]
      rw [hse]
      have hpw := secN_len ents.length k p v c
      dsimp only [En.cells] at H
      repeat' (first | refine Z H ?_ | (refine Zc ?_ ?_ <;> intro hc <;> first | (exfalso; omega) | skip) | (refine Y ?_; try change C _ _ _ _ _ _) | (refine Zs H ?_; clear H; (try clear w); intro w H) | (refine Zn H ?_; clear H; (try clear w); (first | ((fail_if_success (have := bl1)); intro bl1 w H) | intro _ w H)) | (refine Ze H ?_; clear H; (try clear w); intro gv w H))
      refine C.drawn2 [bL, bl1] [0, 0, 0, 1, 0, 0, 4, 2, 2, 0] [8, 1] [0, 1, 3, 7, 0, 0, 0, 96, 255, 511] (by kernel_rfl) ?_; replace H := H.drew; simp only [segL, List.take_succ_cons, List.take_zero, List.drop_succ_cons, List.drop_zero]; have H0 := H
      repeat' (first | refine Z H ?_ | (refine Zc ?_ ?_ <;> intro hc <;> first | (exfalso; omega) | skip) | (refine Y ?_; try change C _ _ _ _ _ _) | (refine Zs H ?_; clear H; (try clear w); intro w H) | (refine Zn H ?_; clear H; (try clear w); (first | ((fail_if_success (have := bl1)); intro bl1 w H) | intro _ w H)) | (refine Ze H ?_; clear H; (try clear w); intro gv w H))
      (refine X.call (sector_a (n := ents.length) (k := k) (p := p) (v := v) (c := c) hN H (by omega) (by omega) (by omega) hvv (by omega)) ?_; (try clear H); rintro _ w ⟨a5, c5, rfl, H⟩; refine ⟨_, rfl, ?_⟩); refine L.nil ?_; refine ⟨rfl, rfl, (by repeat (first | exact subN_nil | refine subN_cons (by simp) ?_)), (by first | exact keep_same | (repeat (first | exact keepV H0 H | exact keepP H0 H | exact keep_nil | refine keep_cons ?_ ?_))), ?_⟩; clear H0; have H0 := H
      repeat' (first | refine Z H ?_ | (refine Zc ?_ ?_ <;> intro hc <;> first | (exfalso; omega) | skip) | (refine Y ?_; try change C _ _ _ _ _ _) | (refine Zs H ?_; clear H; (try clear w); intro w H) | (refine Zn H ?_; clear H; (try clear w); (first | ((fail_if_success (have := bl1)); intro bl1 w H) | intro _ w H)) | (refine Ze H ?_; clear H; (try clear w); intro gv w H))
      generalize secN ents.length k p v c = l at *
      first | (have hT : Holds _ _ (dsk b _ :: _) := H; clear hT) | (replace H := H.up 1 rfl; (try simp only [List.set_cons_zero, List.set_cons_succ, List.eraseIdx_cons_zero, List.eraseIdx_cons_succ] at H); have hT : Holds _ _ (dsk b _ :: _) := H; clear hT) | (replace H := H.up 2 rfl; (try simp only [List.set_cons_zero, List.set_cons_succ, List.eraseIdx_cons_zero, List.eraseIdx_cons_succ] at H); have hT : Holds _ _ (dsk b _ :: _) := H; clear hT) | (replace H := H.up 3 rfl; (try simp only [List.set_cons_zero, List.set_cons_succ, List.eraseIdx_cons_zero, List.eraseIdx_cons_succ] at H); have hT : Holds _ _ (dsk b _ :: _) := H; clear hT) | (replace H := H.up 4 rfl; (try simp only [List.set_cons_zero, List.set_cons_succ, List.eraseIdx_cons_zero, List.eraseIdx_cons_succ] at H); have hT : Holds _ _ (dsk b _ :: _) := H; clear hT) | (replace H := H.up 5 rfl; (try simp only [List.set_cons_zero, List.set_cons_succ, List.eraseIdx_cons_zero, List.eraseIdx_cons_succ] at H); have hT : Holds _ _ (dsk b _ :: _) := H; clear hT) | (replace H := H.up 6 rfl; (try simp only [List.set_cons_zero, List.set_cons_succ, List.eraseIdx_cons_zero, List.eraseIdx_cons_succ] at H); have hT : Holds _ _ (dsk b _ :: _) := H; clear hT)
      have hW := Write_p (a := (ents.length : Int)) (l := l) H hp (by unfold I64; omega) (.own 0 _ rfl) (by omega)
      generalize pwrite d x (ents.length : Int) l = pr at *
      obtain ⟨d1, c1⟩ := pr
      dsimp only at hW
      (refine X.call (hW) ?_; (try clear H); rintro _ w ⟨rfl, H⟩; refine ⟨_, rfl, ?_⟩); refine L.nil ?_; refine ⟨rfl, rfl, (by repeat (first | exact subN_nil | refine subN_cons (by simp) ?_)), (by first | exact keep_same | (repeat (first | exact keepV H0 H | exact keepP H0 H | exact keep_nil | refine keep_cons ?_ ?_))), ?_⟩; clear H0; have H0 := H
      clear hW
      repeat' (first | refine Z H ?_ | (refine Zc ?_ ?_ <;> intro hc <;> first | (exfalso; omega) | skip) | (refine Y ?_; try change C _ _ _ _ _ _) | (refine Zs H ?_; clear H; (try clear w); intro w H) | (refine Zn H ?_; clear H; (try clear w); (first | ((fail_if_success (have := bl1)); intro bl1 w H) | intro _ w H)) | (refine Ze H ?_; clear H; (try clear w); intro gv w H))
      refine ⟨rfl, rfl, (by repeat (first | exact subN_nil | refine subN_cons (by simp) ?_)), (by first | exact keep_same | (repeat (first | exact keepV H0 H | exact keepP H0 H | exact keep_nil | refine keep_cons ?_ ?_))), ?_⟩; clear H0; have H0 := H
      clear H0
      dsimp only
      by_cases hc1 : c1 = 0
      · rw [if_pos hc1]
        subst hc1
        repeat' (first | refine Z H ?_ | (refine Zc ?_ ?_ <;> intro hc <;> first | (exfalso; omega) | skip) | (refine Y ?_; try change C _ _ _ _ _ _) | (refine Zs H ?_; clear H; (try clear w); intro w H) | (refine Zn H ?_; clear H; (try clear w); (first | ((fail_if_success (have := bl1)); intro bl1 w H) | intro _ w H)) | (refine Ze H ?_; clear H; (try clear w); intro gv w H))
        first | (have hT : Holds _ _ (dsk b _ :: _) := H; clear hT) | (replace H := H.up 1 rfl; (try simp only [List.set_cons_zero, List.set_cons_succ, List.eraseIdx_cons_zero, List.eraseIdx_cons_succ] at H); have hT : Holds _ _ (dsk b _ :: _) := H; clear hT) | (replace H := H.up 2 rfl; (try simp only [List.set_cons_zero, List.set_cons_succ, List.eraseIdx_cons_zero, List.eraseIdx_cons_succ] at H); have hT : Holds _ _ (dsk b _ :: _) := H; clear hT) | (replace H := H.up 3 rfl; (try simp only [List.set_cons_zero, List.set_cons_succ, List.eraseIdx_cons_zero, List.eraseIdx_cons_succ] at H); have hT : Holds _ _ (dsk b _ :: _) := H; clear hT) | (replace H := H.up 4 rfl; (try simp only [List.set_cons_zero, List.set_cons_succ, List.eraseIdx_cons_zero, List.eraseIdx_cons_succ] at H); have hT : Holds _ _ (dsk b _ :: _) := H; clear hT) | (replace H := H.up 5 rfl; (try simp only [List.set_cons_zero, List.set_cons_succ, List.eraseIdx_cons_zero, List.eraseIdx_cons_succ] at H); have hT : Holds _ _ (dsk b _ :: _) := H; clear hT) | (replace H := H.up 6 rfl; (try simp only [List.set_cons_zero, List.set_cons_succ, List.eraseIdx_cons_zero, List.eraseIdx_cons_succ] at H); have hT : Holds _ _ (dsk b _ :: _) := H; clear hT)
        have hF := Flush_p H hp
        generalize d1.flush = pr at *
        obtain ⟨d2, c2⟩ := pr
        dsimp only at hF
        (refine X.call (hF) ?_; (try clear H); rintro _ w ⟨rfl, H⟩; refine ⟨_, rfl, ?_⟩)
        clear hF
        dsimp only
        by_cases hc2 : c2 = 0
        · rw [if_pos hc2]
          subst hc2
          repeat' (first | refine Z H ?_ | (refine Zc ?_ ?_ <;> intro hc <;> first | (exfalso; omega) | skip) | (refine Y ?_; try change C _ _ _ _ _ _) | (refine Zs H ?_; clear H; (try clear w); intro w H) | (refine Zn H ?_; clear H; (try clear w); (first | ((fail_if_success (have := bl1)); intro bl1 w H) | intro _ w H)) | (refine Ze H ?_; clear H; (try clear w); intro gv w H))
          refine C.drawn1 [0, 0, 0, 0, 1, 1, 2, 3, 0, 0, 3] [0, 0, 2, 6, 14, 0, 32, 126, 255, 511, 1023] (by kernel_rfl) ?_; replace H := H.drew
          repeat' (first | refine Z H ?_ | (refine Zc ?_ ?_ <;> intro hc <;> first | (exfalso; omega) | skip) | (refine Y ?_; try change C _ _ _ _ _ _) | (refine Zs H ?_; clear H; (try clear w); intro w H) | (refine Zn H ?_; clear H; (try clear w); (first | ((fail_if_success (have := bl1)); intro bl1 w H) | intro _ w H)) | (refine Ze H ?_; clear H; (try clear w); intro gv w H))
          refine K.one H rfl rfl (by conv => lhs; whnf) (by rfl) (by rfl) ?_; clear H; (try clear w); intro g1 w H
          repeat' (first | (refine X.app H ?_; clear H; intro a6 c6 w H) | refine Z H ?_ | (refine Zc ?_ ?_ <;> intro hc <;> first | (exfalso; omega) | skip) | (refine Y ?_; try change C _ _ _ _ _ _) | (refine Zs H ?_; clear H; (try clear w); intro w H) | (refine Zn H ?_; clear H; (try clear w); (first | ((fail_if_success (have := bl1)); intro bl1 w H) | intro _ w H)) | (refine Ze H ?_; clear H; (try clear w); intro gv w H))
          refine ⟨_, resT rfl, a6, c6, rfl, ?_⟩
          unfold logP
          dsimp only
          rw [flat_en, List.length_append]
          exact H.arr
        · rw [if_neg hc2]
          repeat' (first | refine Z H ?_ | (refine Zc ?_ ?_ <;> intro hc <;> first | (exfalso; omega) | skip) | (refine Y ?_; try change C _ _ _ _ _ _) | (refine Zs H ?_; clear H; (try clear w); intro w H) | (refine Zn H ?_; clear H; (try clear w); (first | ((fail_if_success (have := bl1)); intro bl1 w H) | intro _ w H)) | (refine Ze H ?_; clear H; (try clear w); intro gv w H))
          exact ⟨_, resT rfl, aa, cc, rfl, logP_of H⟩
      · rw [if_neg hc1]
        repeat' (first | refine Z H ?_ | (refine Zc ?_ ?_ <;> intro hc <;> first | (exfalso; omega) | skip) | (refine Y ?_; try change C _ _ _ _ _ _) | (refine Zs H ?_; clear H; (try clear w); intro w H) | (refine Zn H ?_; clear H; (try clear w); (first | ((fail_if_success (have := bl1)); intro bl1 w H) | intro _ w H)) | (refine Ze H ?_; clear H; (try clear w); intro gv w H))
        exact ⟨_, resT rfl, aa, cc, rfl, logP_of H⟩
end
end Go.Proofs.YtbknpbihgfphaaaDoor

/- Squeezed copy of the texts Pe. -/
import Derived.Test.YtgilmcpdpggikaaGreatDoorCUb
set_option maxRecDepth 100000
set_option maxHeartbeats 1000000
set_option linter.unusedSimpArgs false
set_option linter.unusedVariables false
namespace Go.Proofs.YtgilmcpdpggikaaGreatDoor
open Go Go.RowKit Go.Own
def OpenH (hs : List Hd) (n : Int) : Prop := 0 ≤ n ∧ n < 4 ∧ (hd hs n.toNat).op = true
instance {hs : List Hd} {n : Int} : Decidable (OpenH hs n) := by unfold OpenH; infer_instance
def becM (t : TR) (r : TR × Int) : TR := if r.2 = 0 then r.1 else t
def nameT (t : TR) (h : Hd) : Str := (pathM t h.node).1
theorem names_le {t : TR} (h : checkM t = true) : ∀ i, i < 8 → (t.n i).name.length ≤ 1000000 := fun i hi => by
 have := (ndb_of h hi).nm
 omega
theorem build_hd0 (w : World) : (Instr.build 99 #[]).run Tryz.prog w = .ok (.agg Hd.zero.cells.toArray) w := by kernel_rfl
theorem build_hd (v : Int) (w : World) : (Instr.build 99 [(0, .bool true), (1, .int .i64 v)].toArray).run Tryz.prog w = .ok (.agg (⟨true, v, 0⟩ : Hd).cells.toArray) w := by kernel_rfl
theorem pin_of {w0 : World} {b j : Nat} {cs : List Value} {tp : TypeId} {x : Value} (hT : w0.heap[b]? = some (.cells cs.toArray tp (0, 0))) (h : cs[j]? = some x) : Pin (startRo w0) b j x := ⟨_, _, _, hT, by simpa using h⟩
section
variable {w : World} {s : Ro} {R : List Asn} {bF bL : Nat} {t : TR} {q : Int} {hs : List Hd}
theorem Go7 {p q : Prop} {s : Ro} {w : World} {rs : List Asn} (H : Holds s w rs) (h : q) (g : Holds s w rs → Wq q → p := by intro H h; (first | (refine X.ldF H ?_) | (refine X.ldFq H ?_) | (refine X.lenL ?_) | (refine X.lv H ?_) | (refine X.lp H ?_) | (refine X.ldT H ?_) | (refine K.build [] _ build_tree0 rfl rfl rfl ?_) | (refine X.eqL ?_ ?_ <;> intro hc <;> first | (exfalso; first | exact absurd hc (by assumption) | exact absurd (by assumption) hc) | skip) | refine Z H ?_ | (refine Zc ?_ ?_ <;> intro hc <;> first | (exfalso; omega) | skip) | (refine Y ?_; try change C _ _ _ _ _ _)) <;> exact h.out) : p := g H ⟨h⟩
theorem Gs7 {p q : Prop} {s : Ro} {w : World} {rs : List Asn} (H : Holds s w rs) (h : q) (g : Holds s w rs → Wq q → p := by intro H h; (first | (refine X.stF H ?_; clear H; (try clear w); intro w H) | (refine X.stT H ?_; clear H; (try clear w); intro w H) | (refine Zs H ?_; clear H; (try clear w); intro w H)) <;> (revert w; exact h.out)) : p := g H ⟨h⟩
theorem Gq7 {p q : Prop} {s : Ro} {w : World} {rs : List Asn} (H : Holds s w rs) (h : q) (g : Holds s w rs → Wq q → p := by intro H h; (repeat' (first | refine Go7 H ?_ | (refine Gs7 H ?_; clear H; (try clear w); intro w H) | (refine Gn H ?_; clear H; (try clear w); intro b w H))) <;> (first | exact h.out | (revert w; exact h.out) | (revert w; revert b; exact h.out))) : p := g H ⟨h⟩
theorem file_f {n : Int} (H : Holds s w (fsV bF bL t q hs :: R)) (ht : t.Ok) (h4 : hs.length = 4) : Calls Tryz.prog 40 #[.pointer (some ⟨bF, 0, none⟩), .int .i64 n] w fun e w' => e = .returned (.pointer (if OpenH hs n then some ⟨bF, 370 + n.toNat * 3, none⟩ else none)) ∧ Holds s w' (fsV bF bL t q hs :: R) := by
 by_cases h0 : 0 ≤ n
 rotate_left
 ·rw [if_neg (fun h => h0 h.1)]
  refine enter Tryz.func40 rfl Tryz.ntmps40 rfl ?_
  refine Gq7 H ?_
  exact ⟨_, resT rfl, rfl, H⟩
 obtain ⟨i, rfl⟩ : ∃ i : Nat, n = i := ⟨n.toNat, by omega⟩
 by_cases h1 : i < 4
 rotate_left
 ·rw [if_neg (fun h => h1 (by have := h.2.1; omega))]
  refine enter Tryz.func40 rfl Tryz.ntmps40 rfl ?_
  refine Gq7 H ?_
  exact ⟨_, resT rfl, rfl, H⟩
 have hz0 : (hd hs i).cells[0]? = some (.bool (hd hs i).op) := rfl
 cases hop : (hd hs i).op with
 | false =>
  rw [if_neg (fun h => by have := h.2.2; rw [Int.toNat_natCast, hop] at this; cases this)]
  rw [hop] at hz0
  refine enter Tryz.func40 rfl Tryz.ntmps40 rfl ?_
  repeat' (first | (refine K.iaA (i := i) rfl rfl rfl rfl rfl (by omega) ?_) | (refine X.ldH i 0 H h1 hz0 ?_) | refine Go7 H ?_ | (refine Gs7 H ?_; clear H; (try clear w); intro w H) | (refine Gn H ?_; clear H; (try clear w); intro _ w H))
  exact ⟨_, resT rfl, rfl, H⟩
 | true =>
  rw [if_pos ⟨by omega, by omega, by rw [Int.toNat_natCast]; exact hop⟩, Int.toNat_natCast]
  rw [hop] at hz0
  refine enter Tryz.func40 rfl Tryz.ntmps40 rfl ?_
  repeat' (first | (refine K.iaA (i := i) rfl rfl rfl rfl rfl (by omega) ?_) | (refine X.ldH i 0 H h1 hz0 ?_) | refine Go7 H ?_ | (refine Gs7 H ?_; clear H; (try clear w); intro w H) | (refine Gn H ?_; clear H; (try clear w); intro _ w H))
  exact ⟨_, resT rfl, rfl, H⟩
theorem path_k {i : Nat} (hT : w.heap[bF]? = some (.cells (fsC bL t q hs).toArray 102 (0, 0))) (ht : t.Ok) (hct : checkM t = true) (h4 : hs.length = 4) (hi : i < 4) : Calls Tryz.prog 41 #[.pointer (some ⟨bF, 0, none⟩), .pointer (some ⟨bF, 370 + i * 3, none⟩)] w fun e w' => e = .returned (.string ⟨(nameT t (hd hs i)).toArray⟩) ∧ Only [] w w' := by
 have H := Holds.start w
 have p1 : ∀ j v, t.cells[j]? = some v → Pin (startRo w) bF (1 + j) v := fun j v hv => pin_of hT (by
  unfold fsC
  rw [Nat.add_comm, List.getElem?_cons_succ, List.getElem?_append_left (by have := (List.getElem?_eq_some_iff.1 hv).1; exact this)]
  exact hv)
 have p2 : Pin (startRo w) bF (370 + i * 3 + 1) (.int .i64 (hd hs i).node) := pin_of hT (fs_h ht h4 hi rfl)
 clear hT
 have hcl := TR.cells_len ht
 generalize hS : startRo w = s0 at *
 refine enter Tryz.func41 rfl Tryz.ntmps41 rfl ?_
 refine Gq7 H ?_
 refine C.drawn1 [0, 0, 0, 1, 0, 0, 0, 1, 3, 0, 0, 0, 0, 0] [0, 1, 3, 7, 0, 16, 48, 112, 255, 511, 1023, 1023, 2047, 8191] (by kernel_rfl) ?_; replace H := H.drew
 repeat' (first | (refine X.ldq (v := .bool true) H ?_ (hp := p1) (hn := hcl)) | refine Go7 H ?_ | (refine Gs7 H ?_; clear H; (try clear w); intro w H) | (refine Gn H ?_; clear H; (try clear w); intro _ w H))
 (refine X.call (Path_s (nd := (hd hs i).node) H ht (names_le hct)) ?_; (try clear H); rintro _ w ⟨rfl, H⟩; refine ⟨_, rfl, ?_⟩)
 refine Gq7 H ?_
 refine ⟨_, resT rfl, rfl, ?_⟩
 rw [← hS] at H
 exact (H.done (Ro.Le.refl _)).only
theorem path_e {i : Nat} (H : Holds s w (fsV bF bL t q hs :: R)) (ht : t.Ok) (hct : checkM t = true) (h4 : hs.length = 4) (hi : i < 4) : Calls Tryz.prog 41 #[.pointer (some ⟨bF, 0, none⟩), .pointer (some ⟨bF, 370 + i * 3, none⟩)] w fun e w' => e = .returned (.string ⟨(nameT t (hd hs i)).toArray⟩) ∧ Only [] w w' ∧ Holds s w' (fsV bF bL t q hs :: R) :=
 (path_k (H.var (i := 0) rfl) ht hct h4 hi).mono fun e w' ⟨he, ho⟩ => ⟨he, ho, H.only0 ho⟩
theorem become_f {u : TR} {c : Int} (H : Holds s w (fsV bF bL t q hs :: R)) (ht : t.Ok) (hu : u.Ok) (h4 : hs.length = 4) : Calls Tryz.prog 42 #[.pointer (some ⟨bF, 0, none⟩), .agg u.cells.toArray, .int .i64 c] w fun e w' => e = .returned (.int .i64 c) ∧ Holds s w' (fsV bF bL (becM t (u, c)) q hs :: R) := by
 by_cases h0 : c = 0
 ·rw [becM, if_pos h0]
  refine enter Tryz.func42 rfl Tryz.ntmps42 rfl ?_
  (refine Gq7 H ?_; clear H; (try clear w); intro _ w H)
  exact ⟨_, resT rfl, rfl, H.tail⟩
 ·rw [becM, if_neg h0]
  refine enter Tryz.func42 rfl Tryz.ntmps42 rfl ?_
  (refine Gq7 H ?_; clear H; (try clear w); intro _ w H)
  exact ⟨_, resT rfl, rfl, H.tail⟩
theorem Make_f {p : Str} {k : Int} (H : Holds s w (fsV bF bL t q hs :: R)) (ht : t.Ok) (h4 : hs.length = 4) : Calls Tryz.prog 16 #[.pointer (some ⟨bF, 0, none⟩), .string ⟨p.toArray⟩, .int .i64 k] w fun e w' => e = .returned (.int .i64 (makeM t p k).2) ∧ Holds s w' (fsV bF bL (becM t (makeM t p k)) q hs :: R) := by
 have hu := ok_make ht (p := p) (k := k)
 refine enter Tryz.func16 rfl Tryz.ntmps16 rfl ?_
 refine Gq7 H ?_
 (refine X.call (make_t (p := p) (k := k) H ht) ?_; (try clear H); rintro _ w ⟨rfl, H⟩; refine ⟨_, rfl, ?_⟩)
 refine Gq7 H ?_
 (refine X.call (become_f (c := (makeM t p k).2) H ht hu h4) ?_; (try clear H); rintro _ w ⟨rfl, H⟩; refine ⟨_, rfl, ?_⟩)
 refine Gq7 H ?_
 exact ⟨_, resT rfl, rfl, H⟩
theorem Move_f {p p2 : Str} (H : Holds s w (fsV bF bL t q hs :: R)) (ht : t.Ok) (h4 : hs.length = 4) : Calls Tryz.prog 18 #[.pointer (some ⟨bF, 0, none⟩), .string ⟨p.toArray⟩, .string ⟨p2.toArray⟩] w fun e w' => e = .returned (.int .i64 (moveM t p p2).2) ∧ Holds s w' (fsV bF bL (becM t (moveM t p p2)) q hs :: R) := by
 have hu := ok_move ht (p := p) (q := p2)
 refine enter Tryz.func18 rfl Tryz.ntmps18 rfl ?_
 refine Gq7 H ?_
 (refine X.call (move_t (p := p) (q := p2) H ht) ?_; (try clear H); rintro _ w ⟨rfl, H⟩; refine ⟨_, rfl, ?_⟩)
 refine Gq7 H ?_
 (refine X.call (become_f (c := (moveM t p p2).2) H ht hu h4) ?_; (try clear H); rintro _ w ⟨rfl, H⟩; refine ⟨_, rfl, ?_⟩)
 refine Gq7 H ?_
 exact ⟨_, resT rfl, rfl, H⟩
theorem Tree_f (H : Holds s w (fsV bF bL t q hs :: R)) (ht : t.Ok) (h4 : hs.length = 4) : Calls Tryz.prog 11 #[.pointer (some ⟨bF, 0, none⟩)] w fun e w' => e = .returned (.agg t.cells.toArray) ∧ Holds s w' (fsV bF bL t q hs :: R) := by
 have hz := TR.ok_zero
 refine enter Tryz.func11 rfl Tryz.ntmps11 rfl ?_
 (refine Gq7 H ?_; clear H; (try clear w); intro _ w H)
 exact ⟨_, resV (cs := t.cells) H rfl rfl inferInstance (TR.cells_len ht), rfl, H.tail⟩
def closeF (hs : List Hd) (n : Int) : List Hd × Int := if OpenH hs n then (hs.set n.toNat Hd.zero, 0) else (hs, 4)
def seekF (hs : List Hd) (n a : Int) : List Hd × Int := if OpenH hs n then (if a < 0 ∨ 80 < a then (hs, 1) else (hs.set n.toNat { hd hs n.toNat with at_ := a }, 0)) else (hs, 4)
theorem Close_f {n : Int} (H : Holds s w (fsV bF bL t q hs :: R)) (ht : t.Ok) (h4 : hs.length = 4) : Calls Tryz.prog 37 #[.pointer (some ⟨bF, 0, none⟩), .int .i64 n] w fun e w' => e = .returned (.int .i64 (closeF hs n).2) ∧ Holds s w' (fsV bF bL t q (closeF hs n).1 :: R) := by
 have hF := file_f (n := n) H ht h4
 unfold closeF
 refine enter Tryz.func37 rfl Tryz.ntmps37 rfl ?_
 refine Gq7 H ?_
 by_cases ho : OpenH hs n
 ·rw [if_pos ho] at hF ⊢
  have hi4 : n.toNat < 4 := by have := ho.1; have := ho.2.1; omega
  generalize n.toNat = i at *
  (refine X.call (hF) ?_; (try clear H); rintro _ w ⟨rfl, H⟩; refine ⟨_, rfl, ?_⟩)
  clear hF
  repeat' (first | (refine K.build [] _ build_hd0 rfl rfl rfl ?_) | (refine X.putH i Hd.zero H hi4 ?_; clear H; (try clear w); intro w H) | refine Go7 H ?_ | (refine Gs7 H ?_; clear H; (try clear w); intro w H) | (refine Gn H ?_; clear H; (try clear w); intro _ w H))
  exact ⟨_, resT rfl, rfl, H⟩
 ·rw [if_neg ho] at hF ⊢
  (refine X.call (hF) ?_; (try clear H); rintro _ w ⟨rfl, H⟩; refine ⟨_, rfl, ?_⟩)
  clear hF
  refine Gq7 H ?_
  exact ⟨_, resT rfl, rfl, H⟩
theorem Seek_f {n a : Int} (H : Holds s w (fsV bF bL t q hs :: R)) (ht : t.Ok) (h4 : hs.length = 4) : Calls Tryz.prog 14 #[.pointer (some ⟨bF, 0, none⟩), .int .i64 n, .int .i64 a] w fun e w' => e = .returned (.int .i64 (seekF hs n a).2) ∧ Holds s w' (fsV bF bL t q (seekF hs n a).1 :: R) := by
 have hF := file_f (n := n) H ht h4
 unfold seekF
 refine enter Tryz.func14 rfl Tryz.ntmps14 rfl ?_
 refine Gq7 H ?_
 by_cases ho : OpenH hs n
 ·rw [if_pos ho] at hF ⊢
  have hi4 : n.toNat < 4 := by have := ho.1; have := ho.2.1; omega
  generalize n.toNat = i at *
  (refine X.call (hF) ?_; (try clear H); rintro _ w ⟨rfl, H⟩; refine ⟨_, rfl, ?_⟩)
  clear hF
  by_cases ha : a < 0 ∨ 80 < a
  ·rw [if_pos ha]
   rcases ha with ha | ha
   ·refine Gq7 H ?_
    exact ⟨_, resT rfl, rfl, H⟩
   ·refine Gq7 H ?_
    exact ⟨_, resT rfl, rfl, H⟩
  ·rw [if_neg ha]
   have ha1 : 0 ≤ a := by omega
   have ha2 : a ≤ 80 := by omega
   repeat' (first | (refine X.stH i 2 { hd hs i with at_ := a } H hi4 (by decide) rfl ?_; clear H; (try clear w); intro w H) | refine Go7 H ?_ | (refine Gs7 H ?_; clear H; (try clear w); intro w H) | (refine Gn H ?_; clear H; (try clear w); intro _ w H))
   exact ⟨_, resT rfl, rfl, H⟩
 ·rw [if_neg ho] at hF ⊢
  (refine X.call (hF) ?_; (try clear H); rintro _ w ⟨rfl, H⟩; refine ⟨_, rfl, ?_⟩)
  clear hF
  refine Gq7 H ?_
  exact ⟨_, resT rfl, rfl, H⟩
end
end Go.Proofs.YtgilmcpdpggikaaGreatDoor

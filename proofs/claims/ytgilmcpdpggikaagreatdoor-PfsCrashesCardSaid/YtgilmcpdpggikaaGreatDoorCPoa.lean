/- Squeezed copy of the texts Poa. -/
import Derived.Test.YtgilmcpdpggikaaGreatDoorCPk
set_option maxRecDepth 100000
set_option maxHeartbeats 1000000
set_option linter.unusedSimpArgs false
set_option linter.unusedVariables false
namespace Go.Proofs.YtgilmcpdpggikaaGreatDoor
open Go Go.RowKit Go.Own
open Go.ChangeShapes Go.WideShapes Go.ChangeAt
theorem WInv.crashed {N f : Nat} {d : DM} {m : WL} (h : WInv N f d m) (sv : List Bool) : WInv N f (d.crash sv).power m := by
 have e : (d.crash sv).secs = d.secs := by
  unfold DM.crash
  rw [h.off, if_neg (by decide), h.pend]
  simp [layS]
 exact WInv.powered (d := d.crash sv) (by rw [secF_congr e]; exact h.log) (by rw [e]; exact h.len)
section
variable {w : World} {s : Ro} {R : List Asn} {bF bL : Nat} {t : TR} {q : Int} {hs : List Hd}
theorem Tree_k (hT : w.heap[bF]? = some (.cells (fsC bL t q hs).toArray 102 (0, 0))) (ht : t.Ok) : Calls Tryz.prog 11 #[.pointer (some ⟨bF, 0, none⟩)] w fun e w' => e = .returned (.agg t.cells.toArray) ∧ Only [] w w' := by
 have H := Holds.start w
 have hz := TR.ok_zero
 have p1 : ∀ j v, t.cells[j]? = some v → Pin (startRo w) bF (1 + j) v := fun j v hv => pin_of hT (by
  unfold fsC
  rw [Nat.add_comm, List.getElem?_cons_succ, List.getElem?_append_left (by have := (List.getElem?_eq_some_iff.1 hv).1; exact this)]
  exact hv)
 clear hT
 have hcl := TR.cells_len ht
 generalize hS : startRo w = s0 at *
 refine enter Tryz.func11 rfl Tryz.ntmps11 rfl ?_
 repeat' (first | (refine X.ldq (v := .bool true) H ?_ (hp := p1) (hn := hcl)) | refine Go7 H ?_ | (refine Gs7 H ?_; clear H; (try clear w); intro w H) | (refine Gn H ?_; clear H; (try clear w); intro _ w H))
 refine ⟨_, resV (cs := t.cells) H rfl rfl inferInstance hcl, rfl, ?_⟩
 rw [← hS] at H
 exact (H.done (Ro.Le.refl _)).only
theorem Tree_e (H : Holds s w (fsV bF bL t q hs :: R)) (ht : t.Ok) : Calls Tryz.prog 11 #[.pointer (some ⟨bF, 0, none⟩)] w fun e w' => e = .returned (.agg t.cells.toArray) ∧ Only [] w w' ∧ Holds s w' (fsV bF bL t q hs :: R) :=
 (Tree_k (H.var (i := 0) rfl) ht).mono fun e w' ⟨he, ho⟩ => ⟨he, ho, H.only0 ho⟩
end
end Go.Proofs.YtgilmcpdpggikaaGreatDoor

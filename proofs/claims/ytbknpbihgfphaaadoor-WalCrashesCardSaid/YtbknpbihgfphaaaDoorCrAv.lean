/- audit: Open, Add, Entries. -/
import Derived.Test.YtbknpbihgfphaaaDoorCrAu
import Derived.Test.YtbknpbihgfphaaaDoorCrK4
set_option linter.unusedSimpArgs false
set_option linter.unusedVariables false
namespace Go.Proofs.YtbknpbihgfphaaaDoor
open Go Go.RowKit Go.Own
structure AL where
  ents : List En
  dead : Bool
def addA (d : DM) (x : Ext) (m : AL) (e : En) : DM × AL × Int :=
  if m.dead = true then (d, m, 9) else if e.valid = false then (d, m, 1) else if x.2 ≤ (m.ents.length : Int) then (d, m, 5)
  else if (pwrite d x (m.ents.length : Int) (secE m.ents.length e)).2 = 0 then
    (if (pwrite d x (m.ents.length : Int) (secE m.ents.length e)).1.flush.2 = 0 then ((pwrite d x (m.ents.length : Int) (secE m.ents.length e)).1.flush.1, ⟨m.ents ++ [e], false⟩, 0)
    else ((pwrite d x (m.ents.length : Int) (secE m.ents.length e)).1.flush.1, ⟨m.ents, true⟩, (pwrite d x (m.ents.length : Int) (secE m.ents.length e)).1.flush.2))
  else ((pwrite d x (m.ents.length : Int) (secE m.ents.length e)).1, ⟨m.ents, true⟩, (pwrite d x (m.ents.length : Int) (secE m.ents.length e)).2)
theorem pread_64 {d : DM} {x : Ext} {a : Int} (hw : d.Wf) (h : (pread d x a).2 = 0) : (pread d x a).1.length = 64 := by
  unfold pread at h ⊢
  split at h
  · rename_i hp
    rw [if_pos hp]
    unfold DM.read at h ⊢
    split at h
    · rename_i hb
      rw [if_pos hb]
      split at h
      · cases h
      · rename_i ho
        rw [if_neg ho]
        simp only [DM.inB, decide_eq_true_eq] at hb
        rw [cur_curTo]
        exact curTo_len hw (by omega) _
    · cases h
  · rename_i hp
    exact absurd h hp
section
variable {s : Ro} {w : World} {R : List Asn} {b bp : Nat} {d : DM} {x : Ext}
end
end Go.Proofs.YtbknpbihgfphaaaDoor

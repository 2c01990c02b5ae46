/- The plain law behind DiskFlushes: behind a flush each sector has what was read of it. -/
import Derived.Test.YteoopnhogfjeaaaSlF
set_option linter.unusedSimpArgs false
set_option linter.unusedVariables false
namespace Go.Own
open Go

theorem layAll_get : ∀ (p : List (Nat × List UInt8)) (s : List (List UInt8)) (n : Nat), n < s.length → (layAll s p)[n]?.getD [] = p.foldl (fun c q => if q.1 = n then q.2 else c) (s[n]?.getD [])
  | [], s, n, h => rfl
  | q :: p, s, n, h => by
    show (layAll (s.set q.1 q.2) p)[n]?.getD [] = _
    rw [layAll_get p _ n (by simpa using h), List.foldl_cons]
    congr 1
    by_cases hq : q.1 = n
    · rw [if_pos hq, hq, List.getElem?_set_self (by omega)]; rfl
    · rw [if_neg hq, List.getElem?_set_ne hq]
theorem flat_range (l : List (List UInt8)) : ((List.range l.length).map fun i => l[i]?.getD []).flatten = l.flatten := by
  congr 1
  apply List.ext_getElem
  · simp
  · intro i h1 h2
    simp [h2]
def curs (d : DM) (k : Nat) : List UInt8 := ((List.range k).map d.cur).flatten
theorem curs_succ (d : DM) (k : Nat) : curs d (k + 1) = curs d k ++ d.cur k := by simp [curs, List.range_succ]
theorem flush_on {d : DM} (ho : d.off = false) (ha : d.armed = false) : d.flush = ({ d with secs := layAll d.secs d.pend, pend := [] }, 0) := by
  simp [DM.flush, DM.powered, ho, ha]
theorem flush_off {d : DM} (ho : d.off = true) : d.flush.2 = 9 := by simp [DM.flush, DM.powered, ho]
theorem image_curs (d : DM) : (layAll d.secs d.pend).flatten = curs d d.secs.length := by
  rw [← flat_range, layAll_len]
  unfold curs
  congr 1
  apply List.map_congr_left
  intro i hi
  rw [layAll_get _ _ _ (List.mem_range.1 hi)]
  rfl
theorem crash_flushed {d : DM} (hp : d.pend = []) (ho : d.off = false) (sv : List Bool) : (d.crash sv).secs = d.secs ∧ (d.crash sv).pend = [] ∧ (d.crash sv).off = true := by
  unfold DM.crash
  rw [if_neg (by rw [ho]; simp), hp]
  exact ⟨rfl, rfl, rfl⟩
theorem arm_none (d : DM) : (d.arm (-1) []).secs = d.secs ∧ (d.arm (-1) []).pend = d.pend ∧ (d.arm (-1) []).off = d.off ∧ (d.off = false → (d.arm (-1) []).armed = false) := by
  unfold DM.arm DM.disarm
  split
  · rename_i h; exact ⟨rfl, rfl, rfl, fun h' => by rw [h] at h'; cases h'⟩
  · exact ⟨rfl, rfl, rfl, fun _ => rfl⟩
end Go.Own

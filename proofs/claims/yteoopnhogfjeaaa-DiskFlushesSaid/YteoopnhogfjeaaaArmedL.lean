/- The plain law of DiskArmed: a disk armed with n, and one whose power fails behind n writes and flushes. -/
import Derived.Test.YteoopnhogfjeaaaDm
set_option linter.unusedSimpArgs false
set_option linter.unusedVariables false
namespace Go.Own

/-- how the two disks stand -/
structure Inv (keep : List Bool) (d x : DM) (left : Int) : Prop where
  secs : d.secs = x.secs
  pend : d.pend = x.pend
  off : d.off = x.off
  xarm : x.armed = false
  l0 : 0 ≤ left
  run : d.off = false → d.armed = true ∧ d.left = left ∧ d.surv = keep
  dead : d.off = true → left = 0

theorem inv_start (keep : List Bool) (n : Nat) (k : Nat) : Inv keep ((DM.new n).arm k keep) (DM.new n) k := by
  have h : ¬ ((k : Int) < 0) := by omega
  have e : (DM.new n).arm k keep = { (DM.new n) with armed := true, left := k, surv := keep } := by
    unfold DM.arm
    rw [if_neg (by simp [DM.new]), if_neg h]
  rw [e]
  exact ⟨rfl, rfl, rfl, rfl, by omega, fun _ => ⟨rfl, rfl, rfl⟩, fun h' => by cases h'⟩

/-- x, its power failing here if nothing is left and the call would do something -/
def xTo (keep : List Bool) (x : DM) (left : Int) (acts : Bool) : DM := if left = 0 ∧ acts = true then x.crash keep else x

theorem crash_same {keep : List Bool} {d x : DM} (hs : d.secs = x.secs) (hp : d.pend = x.pend) (ho : d.off = x.off) : (d.crash keep).secs = (x.crash keep).secs ∧ (d.crash keep).pend = (x.crash keep).pend ∧ (d.crash keep).off = (x.crash keep).off := by
  unfold DM.crash
  rw [← ho]
  split
  · exact ⟨hs, hp, ho⟩
  · simp [hs, hp]

theorem inv_powered {keep : List Bool} {d x : DM} {left : Int} (h : Inv keep d x left) :
    d.powered.2 = (xTo keep x left true).powered.2 ∧ Inv keep d.powered.1 (xTo keep x left true).powered.1 (if d.powered.2 then left - 1 else left) ∧ (d.powered.2 = true → 0 < left) := by
  cases hoff : d.off with
  | true =>
    have hx : x.off = true := by rw [← h.off]; exact hoff
    have hl := h.dead hoff
    have e1 : d.powered = (d, false) := by simp [DM.powered, hoff]
    have e2 : xTo keep x left true = x := by simp [xTo, DM.crash, hx]
    have e3 : x.powered = (x, false) := by simp [DM.powered, hx]
    rw [e2, e1, e3]
    exact ⟨rfl, by simpa using h, by simp⟩
  | false =>
    have hx : x.off = false := by rw [← h.off]; exact hoff
    obtain ⟨h1, h2, h3⟩ := h.run hoff
    by_cases hl : left = 0
    · have e1 : d.powered = (d.crash d.surv, false) := by simp [DM.powered, hoff, h1, h2, hl]
      have e2 : xTo keep x left true = x.crash keep := by simp [xTo, hl]
      have e3 : (x.crash keep).powered = (x.crash keep, false) := by simp [DM.powered, DM.crash, hx]
      rw [e2, e1, e3, h3]
      obtain ⟨c1, c2, c3⟩ := crash_same (keep := keep) h.secs h.pend h.off
      refine ⟨rfl, ⟨c1, c2, c3, by simp [DM.crash, hx], by simp [hl], fun hf => ?_, fun _ => by simp [hl]⟩, by simp⟩
      simp [DM.crash, hoff] at hf
    · have e1 : d.powered = ({ d with left := d.left - 1 }, true) := by simp [DM.powered, hoff, h1, h2, hl]
      have e2 : xTo keep x left true = x := by simp [xTo, hl]
      have e3 : x.powered = (x, true) := by simp [DM.powered, hx, h.xarm]
      have hp := h.l0
      rw [e2, e1, e3]
      refine ⟨rfl, ⟨h.secs, h.pend, h.off, h.xarm, by simp; omega, fun _ => ⟨h1, by simp [h2], h3⟩, fun hf => ?_⟩, fun _ => by omega⟩
      simp [hoff] at hf

theorem inv_flush {keep : List Bool} {d x : DM} {left : Int} (h : Inv keep d x left) :
    d.flush.2 = (xTo keep x left true).flush.2 ∧ Inv keep d.flush.1 (xTo keep x left true).flush.1 (if d.flush.2 = 0 then left - 1 else left) := by
  obtain ⟨h1, h2, h3⟩ := inv_powered h
  unfold DM.flush
  rw [← h1]
  cases hp : d.powered.2 with
  | false => rw [hp] at h2; simpa using h2
  | true =>
    rw [hp] at h2
    simp only [if_true] at h2 ⊢
    exact ⟨trivial, ⟨by rw [h2.secs, h2.pend], rfl, h2.off, h2.xarm, h2.l0, h2.run, h2.dead⟩⟩

theorem inB_len {d x : DM} (h : d.secs.length = x.secs.length) (n : Int) : d.inB n = x.inB n := by unfold DM.inB; rw [h]
theorem xTo_len (keep : List Bool) (x : DM) (left : Int) (b : Bool) : (xTo keep x left b).secs.length = x.secs.length := by
  unfold xTo; split
  · exact x.crash_len _
  · rfl

theorem inv_write {keep : List Bool} {d x : DM} {left : Int} (h : Inv keep d x left) (n : Int) (b : List UInt8) (hb : b.length = 64) :
    (d.write n b).2 = ((xTo keep x left (d.inB n)).write n b).2 ∧ Inv keep (d.write n b).1 ((xTo keep x left (d.inB n)).write n b).1 (if (d.write n b).2 = 0 then left - 1 else left) := by
  have hl : d.secs.length = (xTo keep x left (d.inB n)).secs.length := by rw [xTo_len, h.secs]
  unfold DM.write
  rw [← inB_len hl]
  cases hin : d.inB n with
  | false =>
    have e2 : xTo keep x left false = x := by simp [xTo]
    rw [e2]
    simpa using h
  | true =>
    obtain ⟨h1, h2, h3⟩ := inv_powered h
    simp only [if_true, hb]
    rw [← h1]
    cases hp : d.powered.2 with
    | false => rw [hp] at h2; simpa using h2
    | true =>
      rw [hp] at h2
      simp only [if_true] at h2 ⊢
      exact ⟨trivial, ⟨h2.secs, by rw [h2.pend], h2.off, h2.xarm, h2.l0, h2.run, h2.dead⟩⟩

theorem pend_powered (d : DM) : d.powered.1.pend.length ≤ d.pend.length := by
  unfold DM.powered
  split
  · exact Nat.le_refl _
  · split
    · unfold DM.crash; split <;> simp
    · exact Nat.le_refl _
theorem pend_flush (d : DM) : d.flush.1.pend.length ≤ d.pend.length := by
  unfold DM.flush
  split
  · simp
  · exact pend_powered d
theorem pend_write (d : DM) (n : Int) (b : List UInt8) : (d.write n b).1.pend.length ≤ d.pend.length + 1 := by
  have := pend_powered d
  unfold DM.write
  repeat' split
  all_goals (try simp only [List.length_append, List.length_singleton]) <;> omega
theorem pend_crash (d : DM) (k : List Bool) : (d.crash k).pend.length ≤ d.pend.length := by
  unfold DM.crash; split <;> simp
theorem flush_len (d : DM) : d.flush.1.secs.length = d.secs.length := by
  unfold DM.flush; split
  · simp [layAll_len, d.powered_len]
  · exact d.powered_len
theorem write_len (d : DM) (n : Int) (b : List UInt8) : (d.write n b).1.secs.length = d.secs.length := by
  unfold DM.write; repeat' split
  all_goals first | exact d.powered_len | rfl
end Go.Own

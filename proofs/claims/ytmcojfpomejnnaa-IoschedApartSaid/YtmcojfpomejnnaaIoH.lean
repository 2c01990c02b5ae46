/- Layer 15's arguments, and how acts change the model. -/
import Derived.Test.YtmcojfpomejnnaaIoG
import Derived.Test.YtmcojfpomejnnaaAr
set_option linter.unusedSimpArgs false
set_option linter.unusedVariables false
namespace Go.Proofs.Ytmcojfpomejnnaa
open Go Go.RowKit Go.Own
open Go.ChangeShapes Go.WideShapes Go.ChangeAt

set_option maxRecDepth 100000 in
theorem ext15_of {w : World} (cs : List Value) (hl : cs.length = Try.prog.cellsOf 33) (h : Rdg Try.prog w 33 cs) : ∃ x : Ext, x.cells = cs ∧ (I64 x.1 ∧ I64 x.2) := by
  have hl2 : cs.length = 2 := hl.trans (by kernel_rfl)
  match cs, hl2 with
  | [c0, c1], _ =>
    have f0 : Rdg Try.prog w 3 [c0] := rdg_field Try.underlying33 h 0 3 0 1 rfl (by kernel_rfl)
    have f1 : Rdg Try.prog w 3 [c1] := rdg_field Try.underlying33 h 1 3 1 1 rfl (by kernel_rfl)
    obtain ⟨n0, e0, w0⟩ := rdg_int Try.underlying3 f0
    obtain ⟨n1, e1, w1⟩ := rdg_int Try.underlying3 f1
    cases e0; cases e1
    exact ⟨(n0, n1), rfl, wf_i64 w0, wf_i64 w1⟩
theorem exts15_of {w : World} {v : Value} (h : Rdg Try.prog w 34 [v]) : ∃ l : List Ext, SlS (startRo w) v 2 l.length (l.flatMap Ext.cells) ∧ ∀ x ∈ l, I64 x.1 ∧ I64 x.2 := by
  obtain ⟨acts, ha1, ha2, _⟩ := rdg_list Ext.cells (fun x => I64 x.1 ∧ I64 x.2) Try.underlying34 (by rw [show Try.prog.cellsOf 33 = 2 by kernel_rfl]; decide) (fun cs' hl h => ext15_of cs' hl h) h
  rw [show Try.prog.cellsOf 33 = 2 by kernel_rfl] at ha1
  exact ⟨acts, SlS.start ha1, fun a h => (ha2 a h).1⟩
set_option maxRecDepth 100000 in
theorem act15_of {w : World} (cs : List Value) (hl : cs.length = Try.prog.cellsOf 40) (h : Rdg Try.prog w 40 cs) : ∃ x : Act15, x.cells = cs ∧ x.Ok (startRo w) := by
  have hl8 : cs.length = 8 := hl.trans (by kernel_rfl)
  match cs, hl8 with
  | [c0, c1, c2, c3, c4, c5, c6, c7], _ =>
    have f0 : Rdg Try.prog w 3 [c0] := rdg_field Try.underlying40 h 0 3 0 1 rfl (by kernel_rfl)
    have f1 : Rdg Try.prog w 3 [c1] := rdg_field Try.underlying40 h 1 3 1 1 rfl (by kernel_rfl)
    have f2 : Rdg Try.prog w 3 [c2] := rdg_field Try.underlying40 h 2 3 2 1 rfl (by kernel_rfl)
    have f3 : Rdg Try.prog w 3 [c3] := rdg_field Try.underlying40 h 3 3 3 1 rfl (by kernel_rfl)
    have f4 : Rdg Try.prog w 4 [c4] := rdg_field Try.underlying40 h 4 4 4 1 rfl (by kernel_rfl)
    have f5 : Rdg Try.prog w 5 [c5] := rdg_field Try.underlying40 h 5 5 5 1 rfl (by kernel_rfl)
    have f6 : Rdg Try.prog w 3 [c6] := rdg_field Try.underlying40 h 6 3 6 1 rfl (by kernel_rfl)
    have f7 : Rdg Try.prog w 24 [c7] := rdg_field Try.underlying40 h 7 24 7 1 rfl (by kernel_rfl)
    obtain ⟨n0, e0, w0⟩ := rdg_int Try.underlying3 f0
    obtain ⟨n1, e1, w1⟩ := rdg_int Try.underlying3 f1
    obtain ⟨n2, e2, w2⟩ := rdg_int Try.underlying3 f2
    obtain ⟨n3, e3, w3⟩ := rdg_int Try.underlying3 f3
    obtain ⟨n6, e6, w6⟩ := rdg_int Try.underlying3 f6
    obtain ⟨n4, e4⟩ := rdg_bool Try.underlying4 f4
    obtain ⟨n5, e5, w5⟩ := rdg_int Try.underlying5 f5
    obtain ⟨x5, hx5⟩ := wf_u8 w5
    obtain ⟨kp, k1, k2⟩ := rdg_bools Try.underlying24 Try.underlying4 (by kernel_rfl) (by kernel_rfl) f7
    cases e0; cases e1; cases e2; cases e3; cases e4; cases e5; cases e6
    exact ⟨⟨n0, n1, n2, n3, n4, x5, n6, c7, kp⟩, by unfold Act15.cells; rw [hx5], SlS.start k1, Nat.le_trans k2 reach_le, wf_i64 w0, wf_i64 w1, wf_i64 w2, wf_i64 w3, wf_i64 w6⟩
theorem acts15_of {w : World} {v : Value} (h : Rdg Try.prog w 23 [v]) : ∃ l : List Act15, SlS (startRo w) v 8 l.length (l.flatMap Act15.cells) ∧ ∀ a ∈ l, a.Ok (startRo w) := by
  obtain ⟨acts, ha1, ha2, _⟩ := rdg_list Act15.cells (Act15.Ok (startRo w)) Try.underlying23 (by rw [show Try.prog.cellsOf 40 = 8 by kernel_rfl]; decide) (fun cs' hl h => act15_of cs' hl h) h
  rw [show Try.prog.cellsOf 40 = 8 by kernel_rfl] at ha1
  exact ⟨acts, SlS.start ha1, fun a h => (ha2 a h).1⟩

/-- a Shape among the arguments -/
structure Shp where
  xs : List Ext
  rooms : List Int
  slots : List Int
  xa : Option Addr
  ra : Option Addr
  la : Option Addr
  xc : Nat
  rc : Nat
  lc : Nat
def Shp.cells (x : Shp) : List Value := [.slice x.xa x.xs.length x.xc, .slice x.ra x.rooms.length x.rc, .slice x.la x.slots.length x.lc]
structure Shp.Ok (s : Ro) (x : Shp) : Prop where
  hx : SlS s (.slice x.xa x.xs.length x.xc) 2 x.xs.length (x.xs.flatMap Ext.cells)
  hxo : ∀ e ∈ x.xs, I64 e.1 ∧ I64 e.2
  hr : SlS s (.slice x.ra x.rooms.length x.rc) 1 x.rooms.length (x.rooms.map (Value.int .i64))
  hl : SlS s (.slice x.la x.slots.length x.lc) 1 x.slots.length (x.slots.map (Value.int .i64))
theorem Shp.Ok.mono {s s' : Ro} {x : Shp} (h : x.Ok s) (hs : s.Le s') : x.Ok s' := ⟨h.hx.mono hs, h.hxo, h.hr.mono hs, h.hl.mono hs⟩
theorem slS_shape {s : Ro} {v : Value} {sz n : Nat} {xs : List Value} (h : SlS s v sz n xs) : ∃ a c, v = .slice a n c ∧ n ≤ c ∧ c ≤ maxLen := by
  obtain ⟨a, c, h1, _, h3, h4, _⟩ := h
  exact ⟨a, c, h1, h3, h4⟩
set_option maxRecDepth 100000 in
theorem shp_of {w : World} (cs : List Value) (hl : cs.length = Try.prog.cellsOf 58) (h : Rdg Try.prog w 58 cs) : ∃ x : Shp, x.cells = cs ∧ x.Ok (startRo w) := by
  have hl3 : cs.length = 3 := hl.trans (by kernel_rfl)
  match cs, hl3 with
  | [c0, c1, c2], _ =>
    have f0 : Rdg Try.prog w 34 [c0] := rdg_field Try.underlying58 h 0 34 0 1 rfl (by kernel_rfl)
    have f1 : Rdg Try.prog w 22 [c1] := rdg_field Try.underlying58 h 1 22 1 1 rfl (by kernel_rfl)
    have f2 : Rdg Try.prog w 22 [c2] := rdg_field Try.underlying58 h 2 22 2 1 rfl (by kernel_rfl)
    obtain ⟨xs, x1, x2⟩ := exts15_of f0
    obtain ⟨rs, r1, _, _⟩ := rdg_ints Try.underlying22 Try.underlying3 (by kernel_rfl) f1
    obtain ⟨ls, l1, _, _⟩ := rdg_ints Try.underlying22 Try.underlying3 (by kernel_rfl) f2
    replace r1 := SlS.start r1
    replace l1 := SlS.start l1
    obtain ⟨a0, b0, rfl, _⟩ := slS_shape x1
    obtain ⟨a1, b1, rfl, _⟩ := slS_shape r1
    obtain ⟨a2, b2, rfl, _⟩ := slS_shape l1
    exact ⟨⟨xs, rs, ls, a0, a1, a2, b0, b1, b2⟩, rfl, x1, x2, r1, l1⟩
def Shp.few (x : Shp) : Shp := { x with xs := x.xs.take 10, rooms := x.rooms.take 10, slots := x.slots.take 34 }
theorem flat15_take (l : List Ext) (n : Nat) : (l.flatMap Ext.cells).take (n * 2) = (l.take n).flatMap Ext.cells := by
  induction l generalizing n with
  | nil => simp
  | cons x l ih =>
    cases n with
    | zero => simp
    | succ n =>
      rw [List.take_succ_cons, List.flatMap_cons, List.flatMap_cons, ← ih n, Nat.succ_mul]
      rfl
theorem take_self {α : Type} (l : List α) (n : Nat) : l.take (l.take n).length = l.take n := by
  rw [List.length_take]
  rcases Nat.le_total n l.length with h | h
  · rw [Nat.min_eq_left h]
  · rw [Nat.min_eq_right h, List.take_length, List.take_of_length_le h]
theorem Shp.Ok.few {s : Ro} {x : Shp} (h : x.Ok s) : x.few.Ok s := by
  refine ⟨?_, fun e he => h.hxo e (List.mem_of_mem_take he), ?_, ?_⟩
  · have := h.hx.upto (l := (x.xs.take 10).length) (by rw [List.length_take]; omega)
    rwa [flat15_take, take_self] at this
  · have := h.hr.upto (l := (x.rooms.take 10).length) (by rw [List.length_take]; omega)
    rwa [Nat.mul_one, ← List.map_take, take_self] at this
  · have := h.hl.upto (l := (x.slots.take 34).length) (by rw [List.length_take]; omega)
    rwa [Nat.mul_one, ← List.map_take, take_self] at this

theorem pend_crash (d : DM) (sv : List Bool) : (d.crash sv).pend.length ≤ d.pend.length := by
  unfold DM.crash; split <;> simp
theorem pend_powered (d : DM) : d.powered.1.pend.length ≤ d.pend.length := by
  unfold DM.powered
  split
  · exact Nat.le_refl _
  · split
    · exact pend_crash _ _
    · exact Nat.le_refl _
structure EP (n : Nat) (d : DM) (i : Nat) : Prop where
  len : d.secs.length = n
  pl : d.pend.length ≤ i
theorem EP.le {n : Nat} {d : DM} {i j : Nat} (h : EP n d i) (hj : i ≤ j) : EP n d j := ⟨h.len, Nat.le_trans h.pl hj⟩
theorem EP.write {n : Nat} {d : DM} {i : Nat} (h : EP n d i) (k : Int) (l : List UInt8) : EP n (d.write k l).1 (i + 1) := by
  have hp := pend_powered d
  have h1 := h.pl
  have h2 := h.len
  unfold DM.write
  split
  · split
    · split
      · exact ⟨by simp only [d.powered_len]; exact h2, by simp only [List.length_append, List.length_cons, List.length_nil]; omega⟩
      · exact ⟨by rw [d.powered_len]; exact h2, by simp only; omega⟩
    · exact h.le (by omega)
  · exact h.le (by omega)
theorem EP.flush {n : Nat} {d : DM} {i : Nat} (h : EP n d i) : EP n d.flush.1 i := by
  have hp := pend_powered d
  have h1 := h.pl
  have h2 := h.len
  unfold DM.flush
  split
  · exact ⟨by simp only [layAll_len, d.powered_len]; exact h2, by simp⟩
  · exact ⟨by rw [d.powered_len]; exact h2, by simp only; omega⟩
theorem EP.crash {n : Nat} {d : DM} {i : Nat} (h : EP n d i) (sv : List Bool) : EP n (d.crash sv) i := ⟨by rw [d.crash_len]; exact h.len, Nat.le_trans (pend_crash d sv) h.pl⟩
theorem EP.power {n : Nat} {d : DM} {i : Nat} (h : EP n d i) : EP n d.power i := ⟨h.len, by simp [DM.power]⟩

def act15 (p : SM × DM) (a : Act15) : SM × DM := if a.do_ ≤ 5 then ((p.1.ask a.part a.kind a.at_ a.req).1, p.2) else if 7 < a.do_ then ((p.1.slot p.2).1, (p.1.slot p.2).2.1) else p
def play15 (x : Shp) (l : List Act15) : SM × DM := l.foldl act15 (SM.new x.xs x.rooms x.slots, DM.new 16)
/-- counts that stay small -/
structure Bd (n : Nat) (m : SM) (d : DM) : Prop where
  last : ∀ p ∈ m.parts, p.last ≤ n
  served : ∀ p ∈ m.parts, p.served ≤ n
  ep : EP 16 d n
theorem Bd.le {n k : Nat} {m : SM} {d : DM} (h : Bd n m d) (hk : n ≤ k) : Bd k m d := ⟨fun p hp => Nat.le_trans (h.last p hp) hk, fun p hp => Nat.le_trans (h.served p hp) hk, h.ep.le hk⟩
theorem askP_last (p : PM) (k a : Int) (l : List UInt8) : (askP p k a l).1.last ≤ p.last + 1 ∧ (askP p k a l).1.served = p.served := by
  unfold askP
  split
  · exact ⟨by simp, rfl⟩
  · split
    · exact ⟨by simp, rfl⟩
    · split
      · exact ⟨by simp, rfl⟩
      · split
        · exact ⟨by simp, rfl⟩
        · exact ⟨by simp, rfl⟩
theorem Bd.ask {n : Nat} {m : SM} {d : DM} (h : Bd n m d) (i k a : Int) (l : List UInt8) : Bd (n + 1) (m.ask i k a l).1 d := by
  unfold SM.ask
  split
  · split
    · exact h.le (by omega)
    · rename_i p hp
      have hm := List.mem_of_getElem? hp
      refine ⟨fun q hq => ?_, fun q hq => ?_, h.ep.le (by omega)⟩
      · rcases List.mem_or_eq_of_mem_set hq with hq | rfl
        · exact Nat.le_trans (h.last q hq) (by omega)
        · have := (askP_last p k a l).1; have := h.last p hm; omega
      · rcases List.mem_or_eq_of_mem_set hq with hq | rfl
        · exact Nat.le_trans (h.served q hq) (by omega)
        · have := (askP_last p k a l).2; have := h.served p hm; omega
  · exact h.le (by omega)
theorem EP.serve {n : Nat} {d : DM} {i : Nat} (h : EP n d i) (x : Ext) (r : Rq) : EP n (serveM d x r).1 (i + 1) := by
  unfold serveM
  split
  · exact h.le (by omega)
  · split
    · simp only
      unfold pwrite
      split
      · exact h.write _ _
      · exact h.le (by omega)
    · exact h.flush.le (by omega)
theorem Bd.step {n : Nat} {m : SM} {d : DM} (h : Bd n m d) : Bd n m.step d := ⟨h.last, h.served, h.ep⟩
theorem Bd.slot {n : Nat} {m : SM} {d : DM} (h : Bd n m d) : Bd (n + 1) (m.slot d).1 (m.slot d).2.1 := by
  unfold SM.slot
  split
  · exact h.le (by omega)
  · split
    · exact h.step.le (by omega)
    · split
      · exact h.step.le (by omega)
      · rename_i p hp
        have hm := List.mem_of_getElem? hp
        split
        · refine ⟨fun q hq => ?_, fun q hq => ?_, h.ep.serve _ _⟩
          · rcases List.mem_or_eq_of_mem_set hq with hq | rfl
            · exact Nat.le_trans (h.last q hq) (by omega)
            · have := h.last p hm; simp only; omega
          · rcases List.mem_or_eq_of_mem_set hq with hq | rfl
            · exact Nat.le_trans (h.served q hq) (by omega)
            · have := h.served p hm; simp only; omega
        · exact h.step.le (by omega)
theorem Bd.new (xs : List Ext) (rooms slots : List Int) : Bd 0 (SM.new xs rooms slots) (DM.new 16) := by
  refine ⟨fun p hp => ?_, fun p hp => ?_, by simp [DM.new], Nat.le_refl _⟩
  all_goals
    simp only [SM.new] at hp
    obtain ⟨i, hi, rfl⟩ := List.mem_iff_getElem.1 hp
    simp [newPM]
theorem Bd.act {n : Nat} {p : SM × DM} (h : Bd n p.1 p.2) (a : Act15) : Bd (n + 1) (act15 p a).1 (act15 p a).2 := by
  unfold act15
  split
  · exact h.ask _ _ _ _
  · split
    · exact h.slot
    · exact h.le (by omega)
theorem play15_succ (x : Shp) (l : List Act15) (i : Nat) (h : i < l.length) : play15 x (l.take (i + 1)) = act15 (play15 x (l.take i)) l[i] := by
  unfold play15
  rw [List.take_succ_eq_append_getElem h, List.foldl_append]
  rfl
theorem play15_bd (x : Shp) (l : List Act15) : Bd l.length (play15 x l).1 (play15 x l).2 := by
  have : ∀ (i : Nat), i ≤ l.length → Bd i (play15 x (l.take i)).1 (play15 x (l.take i)).2 := by
    intro i
    induction i with
    | zero => intro _; exact Bd.new _ _ _
    | succ i ih => intro hi; rw [play15_succ x l i hi]; exact (ih (by omega)).act _
  have h := this l.length (Nat.le_refl _)
  rwa [List.take_length] at h
end Go.Proofs.Ytmcojfpomejnnaa

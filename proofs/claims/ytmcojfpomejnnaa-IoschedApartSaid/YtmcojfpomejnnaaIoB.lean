/- The schedule as plain data; iosched.formed, isPart, Ask, Next, Waiting, Served. -/
import Derived.Test.YtmcojfpomejnnaaIoA
set_option linter.unusedSimpArgs false
set_option linter.unusedVariables false
namespace Go.Proofs.Ytmcojfpomejnnaa
open Go Go.RowKit Go.Own

/-- a request that waits -/
structure Rq where
  n : Nat
  kind : Int
  at_ : Int
  data : List UInt8
structure PM where
  ext : Option Ext
  room : Int
  last : Nat
  served : Nat
  q : List Rq
structure SM where
  parts : List PM
  slots : List Int
  next : Nat
def formedM (k a : Int) (n : Nat) : Bool := if k = 1 then decide (n = 64) else if k = 2 then decide (a = 0 ∧ n = 0) else if k = 0 then decide (n = 0) else false
def askP (p : PM) (k a : Int) (data : List UInt8) : PM × Nat × Int :=
  match p.ext with
  | none => (p, 0, 6)
  | some x =>
    if formedM k a data.length = false then (p, 0, 1)
    else if k ≠ 2 ∧ (a < 0 ∨ x.2 ≤ a) then (p, 0, 4)
    else if p.room ≤ (p.q.length : Int) then (p, 0, 5)
    else ({ p with last := p.last + 1, q := p.q ++ [⟨p.last + 1, k, a, data⟩] }, p.last + 1, 0)
def SM.ask (m : SM) (i : Int) (k a : Int) (data : List UInt8) : SM × Nat × Int :=
  if 0 ≤ i then match m.parts[i.toNat]? with
    | none => (m, 0, 6)
    | some p => ({ m with parts := m.parts.set i.toNat (askP p k a data).1 }, (askP p k a data).2)
  else (m, 0, 6)

def Rq.ok (r : Rq) : Prop := (0 ≤ r.kind ∧ r.kind ≤ 2) ∧ I64 r.at_ ∧ r.data.length ≤ 1000
/-- a partition lies in memory as its model says; b: the disk's block -/
structure PRep (s : Ro) (b : Nat) (p : Pr) (m : PM) : Prop where
  ok : p.Ok
  pv : (m.ext = none ∧ p.pv = none ∧ m.q = []) ∨ ∃ x bp, m.ext = some x ∧ p.pv = some bp ∧ PartS s bp b x
  room : p.room = m.room
  r1 : 1 ≤ m.room ∧ m.room ≤ 16
  last : p.last = m.last
  served : p.served = m.served
  cnt : p.count = m.q.length
  qok : ∀ r ∈ m.q, r.ok
  its : ∀ k (h : k < m.q.length), ∃ da dc, (p.items.drop ((p.first + k) % 16 * 4)).take 4 = askC m.q[k].n m.q[k].kind m.q[k].at_ (.slice da m.q[k].data.length dc) ∧ SlS s (.slice da m.q[k].data.length dc) 1 m.q[k].data.length (u8s m.q[k].data)
theorem PRep.mono {s s' : Ro} {b : Nat} {p : Pr} {m : PM} (h : PRep s b p m) (hs : s.Le s') : PRep s' b p m := by
  refine ⟨h.ok, h.pv.imp id fun ⟨x, bp, h1, h2, h3⟩ => ⟨x, bp, h1, h2, h3.mono hs⟩, h.room, h.r1, h.last, h.served, h.cnt, h.qok, fun k hk => ?_⟩
  obtain ⟨da, dc, h1, h2⟩ := h.its k hk
  exact ⟨da, dc, h1, h2.mono hs⟩
structure SRep (s : Ro) (b : Nat) (ps : List Pr) (m : SM) : Prop where
  len : ps.length = m.parts.length
  all : ∀ i (h : i < ps.length) (h' : i < m.parts.length), PRep s b ps[i] m.parts[i]
  few : m.parts.length ≤ 8
  sln : m.slots.length ≤ 32
  nxt : m.next < m.slots.length ∨ (m.slots = [] ∧ m.next = 0)
  slv : ∀ v ∈ m.slots, -1 ≤ v ∧ v < (m.parts.length : Int)
theorem SRep.mono {s s' : Ro} {b : Nat} {ps : List Pr} {m : SM} (h : SRep s b ps m) (hs : s.Le s') : SRep s' b ps m := ⟨h.len, fun i h1 h2 => (h.all i h1 h2).mono hs, h.few, h.sln, h.nxt, h.slv⟩
theorem SRep.oks {s : Ro} {b : Nat} {ps : List Pr} {m : SM} (h : SRep s b ps m) : ∀ q ∈ ps, q.Ok := by
  intro q hq
  obtain ⟨i, hi, rfl⟩ := List.mem_iff_getElem.1 hq
  exact (h.all i hi (by rw [← h.len]; exact hi)).ok
theorem SRep.set {s : Ro} {b : Nat} {ps : List Pr} {m : SM} (h : SRep s b ps m) {i : Nat} {p : Pr} {pm : PM} (hp : PRep s b p pm) : SRep s b (ps.set i p) { m with parts := m.parts.set i pm } := by
  refine ⟨by simp [h.len], fun j h1 h2 => ?_, by simp [h.few], h.sln, h.nxt, by simpa using h.slv⟩
  simp only [List.getElem_set]
  split
  · exact hp
  · exact h.all j (by simpa using h1) (by simpa using h2)
/-- the schedule at bS lies in memory as m says, and the pieces rs beside it -/
def Sch (s : Ro) (w : World) (b bS : Nat) (m : SM) (rs : List Asn) : Prop := ∃ va cap sa sc ps, SRep s b ps m ∧ SlS s (.slice sa m.slots.length sc) 1 m.slots.length (m.slots.map (Value.int .i64)) ∧
  Holds s w (var bS 136 [.slice va ps.length cap, .slice sa m.slots.length sc, .int .i64 (m.next : Int)] :: row 143 70 (.slice va ps.length cap) ps.length (ps.flatMap Pr.cells) :: rs)

section
variable {s : Ro} {w : World} {R : List Asn} {b bS : Nat} {m : SM} {k a i : Int} {da : Option Addr} {dc : Nat} {l : List UInt8}
theorem formed_t {k a : Int} {n : Nat} (h : k = 1 ∧ n = 64 ∨ k = 2 ∧ a = 0 ∧ n = 0 ∨ k = 0 ∧ n = 0) : formedM k a n = true := by
  unfold formedM
  rcases h with ⟨rfl, h⟩ | ⟨rfl, h⟩ | ⟨rfl, h⟩
  · simpa using h
  · rw [if_neg (by decide), if_pos rfl]; simpa using h
  · rw [if_neg (by decide), if_neg (by decide), if_pos rfl]; simpa using h
theorem formed_f {k a : Int} {n : Nat} (h : ¬ (k = 1 ∧ n = 64 ∨ k = 2 ∧ a = 0 ∧ n = 0 ∨ k = 0 ∧ n = 0)) : formedM k a n = false := by
  unfold formedM
  split
  · rw [decide_eq_false (by omega)]
  · split
    · rw [decide_eq_false (by omega)]
    · split
      · rw [decide_eq_false (by omega)]
      · rfl
theorem formed_s (H : Holds s w R) : Calls Try.prog 64 #[.agg #[.int .i64 k, .int .i64 a, .slice da l.length dc]] w fun e w' => e = .returned (.bool (formedM k a l.length)) ∧ Holds s w' R := by
  refine enter Try.func64 rfl Try.ntmps64 rfl ?_
  repeat' (first | refine Z H ?_ | (refine Zc ?_ ?_ <;> intro hc <;> first | (exfalso; omega) | skip) | (refine Y ?_; try change C _ _ _ _ _ _) | (refine Zs H ?_; clear H; (try clear w); intro w H) | (refine Zn H ?_; clear H; (try clear w); intro _ w H) | (refine Ze H ?_; clear H; (try clear w); intro gv w H))
  all_goals
    refine ⟨_, resT rfl, ?_, H.tail⟩
    first
      | rw [formed_t (by omega)]; rfl
      | rw [formed_f (by omega)]; rfl

theorem isPart_s {v1 v2 : Value} {va : Option Addr} {n c : Nat} (hn : n ≤ 8) (H : Holds s w (var bS 136 [.slice va n c, v1, v2] :: R)) : Calls Try.prog 63 #[.pointer (some ⟨bS, 0, none⟩), .int .i64 i] w fun e w' => e = .returned (.bool (decide (0 ≤ i ∧ i < (n : Int)))) ∧ Holds s w' (var bS 136 [.slice va n c, v1, v2] :: R) := by
  refine enter Try.func63 rfl Try.ntmps63 rfl ?_
  repeat' (first | refine Z H ?_ | (refine Zc ?_ ?_ <;> intro hc <;> first | (exfalso; omega) | skip) | (refine Y ?_; try change C _ _ _ _ _ _) | (refine Zs H ?_; clear H; (try clear w); intro w H) | (refine Zn H ?_; clear H; (try clear w); intro _ w H) | (refine Ze H ?_; clear H; (try clear w); intro gv w H))
  all_goals
    refine ⟨_, resT rfl, ?_, H⟩
    first
      | rw [decide_eq_true (by omega)]; rfl
      | rw [decide_eq_false (by omega)]; rfl

theorem Next_s (h : Sch s w b bS m R) : Calls Try.prog 34 #[.pointer (some ⟨bS, 0, none⟩)] w fun e w' => e = .returned (.int .i64 (m.next : Int)) ∧ Sch s w' b bS m R := by
  obtain ⟨va, cap, sa, sc, ps, hr, hsl, H⟩ := h
  refine enter Try.func34 rfl Try.ntmps34 rfl ?_
  repeat' (first | refine Z H ?_ | (refine Zc ?_ ?_ <;> intro hc <;> first | (exfalso; omega) | skip) | (refine Y ?_; try change C _ _ _ _ _ _) | (refine Zs H ?_; clear H; (try clear w); intro w H) | (refine Zn H ?_; clear H; (try clear w); intro _ w H) | (refine Ze H ?_; clear H; (try clear w); intro gv w H))
  exact ⟨_, resT rfl, rfl, va, cap, sa, sc, ps, hr, hsl, H⟩
def SM.waiting (m : SM) (i : Int) : Nat := if 0 ≤ i then ((m.parts[i.toNat]?).map fun p => p.q.length).getD 0 else 0
def SM.servedN (m : SM) (i : Int) : Nat := if 0 ≤ i then ((m.parts[i.toNat]?).map fun p => p.served).getD 0 else 0

theorem Waiting_q (h : Sch s w b bS m R) : Calls Try.prog 38 #[.pointer (some ⟨bS, 0, none⟩), .int .i64 i] w fun e w' => e = .returned (.int .i64 (m.waiting i : Int)) ∧ Sch s w' b bS m R := by
  obtain ⟨va, cap, sa, sc, ps, hr, hsl, H⟩ := h
  have hlen := hr.len
  have hfew := hr.few
  have hP := isPart_s (i := i) (by omega) H
  by_cases hi : 0 ≤ i ∧ i < (ps.length : Int)
  · obtain ⟨j, rfl⟩ : ∃ j : Nat, i = j := ⟨i.toNat, by omega⟩
    have hj : j < ps.length := by omega
    rw [decide_eq_true hi] at hP
    have hv : View ps j ps[j] := ⟨hr.oks, hj, rfl⟩
    have hp := hr.all j hj (by omega)
    have hw : m.waiting (j : Int) = ps[j].count := by
      unfold SM.waiting
      rw [if_pos (by omega), Int.toNat_natCast, List.getElem?_eq_getElem (by omega)]
      exact hp.cnt.symm
    rw [hw]
    obtain ⟨g, rfl, _⟩ := H.form (i := 1) rfl (by omega)
    have hc : (ps.flatMap Pr.cells)[0 + j * 70 + 4 + 65]? = some (.int .i64 (ps[j].count : Int)) := hv.get (Pr.get_count hp.ok) (by omega)
    refine enter Try.func38 rfl Try.ntmps38 rfl ?_
    repeat' (first | refine Z H ?_ | (refine Zc ?_ ?_ <;> intro hc <;> first | (exfalso; omega) | skip) | (refine Y ?_; try change C _ _ _ _ _ _) | (refine Zs H ?_; clear H; (try clear w); intro w H) | (refine Zn H ?_; clear H; (try clear w); intro _ w H) | (refine Ze H ?_; clear H; (try clear w); intro gv w H))
    (refine X.call (hP) ?_; (try clear H); rintro _ w ⟨rfl, H⟩; refine ⟨_, rfl, ?_⟩)
    clear hP
    repeat' (first | refine Z H ?_ | (refine Zc ?_ ?_ <;> intro hc <;> first | (exfalso; omega) | skip) | (refine Y ?_; try change C _ _ _ _ _ _) | (refine Zs H ?_; clear H; (try clear w); intro w H) | (refine Zn H ?_; clear H; (try clear w); intro _ w H) | (refine Ze H ?_; clear H; (try clear w); intro gv w H))
    exact ⟨_, resT rfl, rfl, _, cap, sa, sc, ps, hr, hsl, H⟩
  · rw [decide_eq_false hi] at hP
    have hw : m.waiting i = 0 := by
      unfold SM.waiting
      split
      · rw [List.getElem?_eq_none (by omega)]; rfl
      · rfl
    rw [hw]
    refine enter Try.func38 rfl Try.ntmps38 rfl ?_
    repeat' (first | refine Z H ?_ | (refine Zc ?_ ?_ <;> intro hc <;> first | (exfalso; omega) | skip) | (refine Y ?_; try change C _ _ _ _ _ _) | (refine Zs H ?_; clear H; (try clear w); intro w H) | (refine Zn H ?_; clear H; (try clear w); intro _ w H) | (refine Ze H ?_; clear H; (try clear w); intro gv w H))
    (refine X.call (hP) ?_; (try clear H); rintro _ w ⟨rfl, H⟩; refine ⟨_, rfl, ?_⟩)
    clear hP
    repeat' (first | refine Z H ?_ | (refine Zc ?_ ?_ <;> intro hc <;> first | (exfalso; omega) | skip) | (refine Y ?_; try change C _ _ _ _ _ _) | (refine Zs H ?_; clear H; (try clear w); intro w H) | (refine Zn H ?_; clear H; (try clear w); intro _ w H) | (refine Ze H ?_; clear H; (try clear w); intro gv w H))
    exact ⟨_, resT rfl, rfl, va, cap, sa, sc, ps, hr, hsl, H⟩

theorem Served_q (h : Sch s w b bS m R) : Calls Try.prog 39 #[.pointer (some ⟨bS, 0, none⟩), .int .i64 i] w fun e w' => e = .returned (.int .u64 (m.servedN i : Int)) ∧ Sch s w' b bS m R := by
  obtain ⟨va, cap, sa, sc, ps, hr, hsl, H⟩ := h
  have hlen := hr.len
  have hfew := hr.few
  have hP := isPart_s (i := i) (by omega) H
  by_cases hi : 0 ≤ i ∧ i < (ps.length : Int)
  · obtain ⟨j, rfl⟩ : ∃ j : Nat, i = j := ⟨i.toNat, by omega⟩
    have hj : j < ps.length := by omega
    rw [decide_eq_true hi] at hP
    have hv : View ps j ps[j] := ⟨hr.oks, hj, rfl⟩
    have hp := hr.all j hj (by omega)
    have hw : m.servedN (j : Int) = ps[j].served := by
      unfold SM.servedN
      rw [if_pos (by omega), Int.toNat_natCast, List.getElem?_eq_getElem (by omega)]
      exact hp.served.symm
    rw [hw]
    obtain ⟨g, rfl, _⟩ := H.form (i := 1) rfl (by omega)
    have hc : (ps.flatMap Pr.cells)[0 + j * 70 + 3]? = some (.int .u64 (ps[j].served : Int)) := hv.get (j := 3) rfl (by omega)
    refine enter Try.func39 rfl Try.ntmps39 rfl ?_
    repeat' (first | refine Z H ?_ | (refine Zc ?_ ?_ <;> intro hc <;> first | (exfalso; omega) | skip) | (refine Y ?_; try change C _ _ _ _ _ _) | (refine Zs H ?_; clear H; (try clear w); intro w H) | (refine Zn H ?_; clear H; (try clear w); intro _ w H) | (refine Ze H ?_; clear H; (try clear w); intro gv w H))
    (refine X.call (hP) ?_; (try clear H); rintro _ w ⟨rfl, H⟩; refine ⟨_, rfl, ?_⟩)
    clear hP
    repeat' (first | refine Z H ?_ | (refine Zc ?_ ?_ <;> intro hc <;> first | (exfalso; omega) | skip) | (refine Y ?_; try change C _ _ _ _ _ _) | (refine Zs H ?_; clear H; (try clear w); intro w H) | (refine Zn H ?_; clear H; (try clear w); intro _ w H) | (refine Ze H ?_; clear H; (try clear w); intro gv w H))
    exact ⟨_, resT rfl, rfl, _, cap, sa, sc, ps, hr, hsl, H⟩
  · rw [decide_eq_false hi] at hP
    have hw : m.servedN i = 0 := by
      unfold SM.servedN
      split
      · rw [List.getElem?_eq_none (by omega)]; rfl
      · rfl
    rw [hw]
    refine enter Try.func39 rfl Try.ntmps39 rfl ?_
    repeat' (first | refine Z H ?_ | (refine Zc ?_ ?_ <;> intro hc <;> first | (exfalso; omega) | skip) | (refine Y ?_; try change C _ _ _ _ _ _) | (refine Zs H ?_; clear H; (try clear w); intro w H) | (refine Zn H ?_; clear H; (try clear w); intro _ w H) | (refine Ze H ?_; clear H; (try clear w); intro gv w H))
    (refine X.call (hP) ?_; (try clear H); rintro _ w ⟨rfl, H⟩; refine ⟨_, rfl, ?_⟩)
    clear hP
    repeat' (first | refine Z H ?_ | (refine Zc ?_ ?_ <;> intro hc <;> first | (exfalso; omega) | skip) | (refine Y ?_; try change C _ _ _ _ _ _) | (refine Zs H ?_; clear H; (try clear w); intro w H) | (refine Zn H ?_; clear H; (try clear w); intro _ w H) | (refine Ze H ?_; clear H; (try clear w); intro gv w H))
    exact ⟨_, resT rfl, rfl, va, cap, sa, sc, ps, hr, hsl, H⟩
end
end Go.Proofs.Ytmcojfpomejnnaa

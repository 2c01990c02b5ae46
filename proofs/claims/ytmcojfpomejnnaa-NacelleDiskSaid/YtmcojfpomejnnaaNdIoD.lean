/- iosched.Slot. -/
import Derived.Test.YtmcojfpomejnnaaNdIoC
set_option linter.unusedSimpArgs false
set_option linter.unusedVariables false
namespace Go.Proofs.Ytmcojfpomejnnaa
open Go Go.RowKit Go.Own
structure Dn where
  part : Int
  n : Nat
  data : List UInt8
  code : Int
def Dn.zero : Dn := ⟨0, 0, [], 0⟩
def serveM (d : DM) (x : Ext) (r : Rq) : DM × List UInt8 × Int :=
  if r.kind = 0 then (d, pread d x r.at_) else if r.kind = 1 then ((pwrite d x r.at_ r.data).1, [], (pwrite d x r.at_ r.data).2) else (d.flush.1, [], d.flush.2)
def SM.step (m : SM) : SM := { m with next := (m.next + 1) % m.slots.length }
def SM.slot (m : SM) (d : DM) : SM × DM × Option Dn :=
  match m.slots[m.next]? with
  | none => (m, d, none)
  | some pt =>
    if pt < 0 then (m.step, d, none) else match m.parts[pt.toNat]? with
    | none => (m.step, d, none)
    | some p => match p.q, p.ext with
      | r :: rest, some x => ({ m.step with parts := m.parts.set pt.toNat { p with q := rest, served := p.served + 1 } }, (serveM d x r).1, some ⟨pt, r.n, (serveM d x r).2.1, (serveM d x r).2.2⟩)
      | _, _ => (m.step, d, none)
theorem slot_end {m : SM} (h : m.slots = []) (d : DM) : m.slot d = (m, d, none) := by unfold SM.slot; rw [h]; rfl
theorem slot_off {m : SM} (h : m.next < m.slots.length) (hp : m.slots[m.next] < 0) (d : DM) : m.slot d = (m.step, d, none) := by
  unfold SM.slot; rw [List.getElem?_eq_getElem h]; simp only; rw [if_pos hp]
theorem slot_idle {m : SM} (h : m.next < m.slots.length) {j : Nat} (hp : m.slots[m.next] = j) (hj : j < m.parts.length) (hq : m.parts[j].q = []) (d : DM) : m.slot d = (m.step, d, none) := by
  unfold SM.slot; rw [List.getElem?_eq_getElem h]; simp only; rw [if_neg (by omega), hp, Int.toNat_natCast, List.getElem?_eq_getElem hj]; simp only; rw [hq]
theorem slot_serve {m : SM} (h : m.next < m.slots.length) {j : Nat} (hp : m.slots[m.next] = j) (hj : j < m.parts.length) {r : Rq} {rest : List Rq} {x : Ext} (hq : m.parts[j].q = r :: rest) (hx : m.parts[j].ext = some x) (d : DM) :
    m.slot d = ({ m.step with parts := m.parts.set j { m.parts[j] with q := rest, served := m.parts[j].served + 1 } }, (serveM d x r).1, some ⟨(j : Int), r.n, (serveM d x r).2.1, (serveM d x r).2.2⟩) := by
  unfold SM.slot; rw [List.getElem?_eq_getElem h]; simp only; rw [if_neg (by omega), hp, Int.toNat_natCast, List.getElem?_eq_getElem hj]; simp only; rw [hq, hx]
theorem build_done0 (w : World) : (Instr.build 48 ([] : List (Nat × Value)).toArray).run Try.prog w = .ok (.agg #[.int .i64 0, .int .u64 0, .slice none 0 0, .int .i64 0]) w := by kernel_rfl
theorem build_done (x : Int) (n : Nat) (w : World) : (Instr.build 48 [(0, .int .i64 x), (1, .int .u64 (n : Int))].toArray).run Try.prog w = .ok (.agg #[.int .i64 x, .int .u64 (n : Int), .slice none 0 0, .int .i64 0]) w := by kernel_rfl
section
variable {s : Ro} {w : World} {R : List Asn} {b bS : Nat} {m : SM} {d : DM}
theorem SRep.step {ps : List Pr} (h : SRep s b ps m) (hn : m.next < m.slots.length) : SRep s b ps m.step :=
  ⟨h.len, h.all, h.few, h.sln, .inl (by unfold SM.step; exact Nat.mod_lt _ (by omega)), h.slv⟩
theorem PRep.pop {p : Pr} {pm : PM} {r : Rq} {rest : List Rq} (h : PRep s b p pm) (hq : pm.q = r :: rest) : PRep s b { p.pop with served := p.served + 1 } { pm with q := rest, served := pm.served + 1 } := by
  have hc := h.cnt
  have h16 := h.ok.f16
  have hc16 := h.ok.c16
  have hl := h.ok.len
  rw [hq] at hc
  simp only [List.length_cons] at hc
  have hok := h.ok.none
  refine ⟨⟨hok.len, hok.one, Nat.mod_lt _ (by decide), by simp only [Pr.pop]; omega⟩, ?_, h.room, h.r1, h.last, by simp only; rw [h.served], by simp only [Pr.pop]; omega, fun q hq' => h.qok q (by rw [hq]; exact List.mem_cons_of_mem _ hq'), fun k hk => ?_⟩
  · rcases h.pv with ⟨_, _, h3⟩ | h1
    · rw [hq] at h3; cases h3
    · exact .inr h1
  · simp only at hk
    obtain ⟨da, dc, h1, h2⟩ := h.its (k + 1) (by rw [hq]; simp only [List.length_cons]; omega)
    simp only [hq, List.getElem_cons_succ] at h1 h2
    refine ⟨da, dc, ?_, h2⟩
    rw [← h1]
    simp only [Pr.pop]
    have hm : ((p.first + 1) % 16 + k) % 16 = (p.first + (k + 1)) % 16 := by omega
    have hm2 : (p.first + (k + 1)) % 16 < 16 := Nat.mod_lt _ (by decide)
    have hne : (p.first + (k + 1)) % 16 ≠ p.first := by omega
    rw [hm]
    exact putL_other (by simp [noneC]; omega) (by simp [noneC]; omega)
set_option maxRecDepth 100000 in
set_option maxHeartbeats 1000000 in
theorem Slot_s (h : Sch s w b bS m (dsk b d :: R)) (hpl : d.pend.length ≤ 100000) (hserv : ∀ p ∈ m.parts, p.served ≤ 1000000) :
    Calls Try.prog 17 #[.pointer (some ⟨bS, 0, none⟩)] w fun e w' => ∃ t da dc, e = .returned (.tuple #[.agg #[.int .i64 ((m.slot d).2.2.getD Dn.zero).part, .int .u64 (((m.slot d).2.2.getD Dn.zero).n : Int), .slice da ((m.slot d).2.2.getD Dn.zero).data.length dc, .int .i64 ((m.slot d).2.2.getD Dn.zero).code], .bool (m.slot d).2.2.isSome]) ∧
      Sch s w' b bS (m.slot d).1 (row t 1 (.slice da ((m.slot d).2.2.getD Dn.zero).data.length dc) ((m.slot d).2.2.getD Dn.zero).data.length (u8s ((m.slot d).2.2.getD Dn.zero).data) :: dsk b (m.slot d).2.1 :: R) := by
  obtain ⟨va, cap, sa, sc, ps, hr, hsl, H⟩ := h
  have hlen := hr.len
  have hfew := hr.few
  have hsln := hr.sln
  rcases hr.nxt with hn | ⟨hn, hn0⟩
  rotate_left
  · rw [slot_end hn]
    have hsl0 : m.slots.length = 0 := by rw [hn]; rfl
    refine enter Try.func17 rfl Try.ntmps17 rfl ?_
    repeat' (first | (refine K.build [] (.agg #[.int .i64 0, .int .u64 0, .slice none 0 0, .int .i64 0]) build_done0 rfl rfl rfl ?_) | refine Z H ?_ | (refine Zc ?_ ?_ <;> intro hc <;> first | (exfalso; omega) | skip) | (refine Y ?_; try change C _ _ _ _ _ _) | (refine Zs H ?_; clear H; (try clear w); intro w H) | (refine Zn H ?_; clear H; (try clear w); intro _ w H) | (refine Ze H ?_; clear H; (try clear w); intro gv w H))
    have H' : Holds s w (var bS 136 [.slice va ps.length cap, .slice sa m.slots.length sc, .int .i64 (m.next : Int)] :: row 143 70 (.slice va ps.length cap) ps.length (ps.flatMap Pr.cells) :: row 0 1 (.slice none 0 0) 0 [] :: dsk b d :: R) := (H.tail.nilRow 0 1).arr
    exact ⟨_, resCT 0 H rfl rfl rfl rfl, 0, none, 0, rfl, va, cap, sa, sc, ps, hr, hsl, H'⟩
  have hslv := hr.slv m.slots[m.next] (List.getElem_mem _)
  obtain ⟨gs, os, cs, hv2, _, _, hpin⟩ := elemS1 hsl (by omega)
  cases hv2
  have pn : Pin s gs (os + m.next * 1) (.int .i64 m.slots[m.next]) := by rw [Nat.mul_one]; exact hpin m.next hn
  have hrem : ((m.next : Int) + 1).tmod (m.slots.length : Int) = (((m.next + 1) % m.slots.length : Nat) : Int) := by
    rw [show ((m.next : Int) + 1) = ((m.next + 1 : Nat) : Int) by omega, Int.tmod_eq_emod_of_nonneg (by omega)]; exact (Int.natCast_emod _ _).symm
  have hstep : m.step.slots = m.slots := rfl
  have hrs := hr.step hn
  by_cases hneg : m.slots[m.next] < 0
  · rw [slot_off hn hneg]
    generalize m.slots[m.next] = pt at *
    refine enter Try.func17 rfl Try.ntmps17 rfl ?_
    repeat' (first | refine Z H ?_ | (refine Zc ?_ ?_ <;> intro hc <;> first | (exfalso; omega) | skip) | (refine Y ?_; try change C _ _ _ _ _ _) | (refine Zs H ?_; clear H; (try clear w); intro w H) | (refine Zn H ?_; clear H; (try clear w); intro _ w H) | (refine Ze H ?_; clear H; (try clear w); intro gv w H))
    refine C.drawn1 [0, 0, 0, 1, 0, 0, 0, 1, 0, 1, 0] [0, 1, 3, 7, 0, 16, 48, 112, 255, 511, 1023] (by kernel_rfl) ?_; replace H := H.drew
    repeat' (first | refine Z H ?_ | (refine Zc ?_ ?_ <;> intro hc <;> first | (exfalso; omega) | skip) | (refine Y ?_; try change C _ _ _ _ _ _) | (refine Zs H ?_; clear H; (try clear w); intro w H) | (refine Zn H ?_; clear H; (try clear w); intro _ w H) | (refine Ze H ?_; clear H; (try clear w); intro gv w H))
    refine C.drawn1 [0, 0, 0, 0, 1, 0, 0, 0, 0, 1, 0, 0, 0, 0, 3] [0, 0, 2, 6, 14, 30, 0, 64, 192, 448, 960, 2046, 4095, 8191, 16383] (by kernel_rfl) ?_; replace H := H.drew
    repeat' (first | (refine K.rem rfl rfl rfl rfl (by omega) ?_; rw [hrem]) | (refine K.build [] (.agg #[.int .i64 0, .int .u64 0, .slice none 0 0, .int .i64 0]) build_done0 rfl rfl rfl ?_) | refine Z H ?_ | (refine Zc ?_ ?_ <;> intro hc <;> first | (exfalso; omega) | skip) | (refine Y ?_; try change C _ _ _ _ _ _) | (refine Zs H ?_; clear H; (try clear w); intro w H) | (refine Zn H ?_; clear H; (try clear w); intro _ w H) | (refine Ze H ?_; clear H; (try clear w); intro gv w H))
    have H' : Holds s w (var bS 136 [.slice va ps.length cap, .slice (some ⟨gs, os, none⟩) m.slots.length sc, .int .i64 (((m.next + 1) % m.slots.length : Nat) : Int)] :: row 143 70 (.slice va ps.length cap) ps.length (ps.flatMap Pr.cells) :: row 0 1 (.slice none 0 0) 0 [] :: dsk b d :: R) := (H.tail.nilRow 0 1).arr
    exact ⟨_, resCT 0 H rfl rfl rfl rfl, 0, none, 0, rfl, va, cap, some ⟨gs, os, none⟩, sc, ps, hrs, hsl, H'⟩
  obtain ⟨j, hjp⟩ : ∃ j : Nat, m.slots[m.next] = j := ⟨m.slots[m.next].toNat, by omega⟩
  have hj' : j < m.parts.length := by omega
  have hj : j < ps.length := by omega
  have hp := hr.all j hj hj'
  have hv : View ps j ps[j] := ⟨hr.oks, hj, rfl⟩
  have hsv := hserv m.parts[j] (List.getElem_mem _)
  have hpsv := hp.served
  have hcnt := hp.cnt
  obtain ⟨g, rfl, _⟩ := H.form (i := 1) rfl (by omega)
  have h6 : (ps.flatMap Pr.cells)[0 + j * 70 + 4 + 65]? = some (.int .i64 (ps[j].count : Int)) := hv.get (Pr.get_count hp.ok) (by omega)
  cases hq : m.parts[j].q with
  | nil =>
    rw [slot_idle hn hjp hj' hq]
    rw [hjp] at pn
    rw [hq] at hcnt
    simp only [List.length_nil] at hcnt
    refine enter Try.func17 rfl Try.ntmps17 rfl ?_
    repeat' (first | refine Z H ?_ | (refine Zc ?_ ?_ <;> intro hc <;> first | (exfalso; omega) | skip) | (refine Y ?_; try change C _ _ _ _ _ _) | (refine Zs H ?_; clear H; (try clear w); intro w H) | (refine Zn H ?_; clear H; (try clear w); intro _ w H) | (refine Ze H ?_; clear H; (try clear w); intro gv w H))
    refine C.drawn1 [0, 0, 0, 1, 0, 0, 0, 1, 0, 1, 0] [0, 1, 3, 7, 0, 16, 48, 112, 255, 511, 1023] (by kernel_rfl) ?_; replace H := H.drew
    repeat' (first | refine Z H ?_ | (refine Zc ?_ ?_ <;> intro hc <;> first | (exfalso; omega) | skip) | (refine Y ?_; try change C _ _ _ _ _ _) | (refine Zs H ?_; clear H; (try clear w); intro w H) | (refine Zn H ?_; clear H; (try clear w); intro _ w H) | (refine Ze H ?_; clear H; (try clear w); intro gv w H))
    refine C.drawn1 [0, 0, 0, 0, 1, 0, 0, 0, 0, 1, 0, 0, 0, 0, 3] [0, 0, 2, 6, 14, 30, 0, 64, 192, 448, 960, 2046, 4095, 8191, 16383] (by kernel_rfl) ?_; replace H := H.drew
    repeat' (first | (refine K.rem rfl rfl rfl rfl (by omega) ?_; rw [hrem]) | (refine K.build [] (.agg #[.int .i64 0, .int .u64 0, .slice none 0 0, .int .i64 0]) build_done0 rfl rfl rfl ?_) | refine Z H ?_ | (refine Zc ?_ ?_ <;> intro hc <;> first | (exfalso; omega) | skip) | (refine Y ?_; try change C _ _ _ _ _ _) | (refine Zs H ?_; clear H; (try clear w); intro w H) | (refine Zn H ?_; clear H; (try clear w); intro _ w H) | (refine Ze H ?_; clear H; (try clear w); intro gv w H))
    have H' : Holds s w (var bS 136 [.slice (some ⟨g, 0, none⟩) ps.length cap, .slice (some ⟨gs, os, none⟩) m.slots.length sc, .int .i64 (((m.next + 1) % m.slots.length : Nat) : Int)] :: row 143 70 (.slice (some ⟨g, 0, none⟩) ps.length cap) ps.length (ps.flatMap Pr.cells) :: row 0 1 (.slice none 0 0) 0 [] :: dsk b d :: R) := (H.tail.nilRow 0 1).arr
    exact ⟨_, resCT 0 H rfl rfl rfl rfl, 0, none, 0, rfl, _, cap, some ⟨gs, os, none⟩, sc, ps, hrs, hsl, H'⟩
  | cons r rest =>
    obtain ⟨x, bp, q1, q2, hx⟩ : ∃ x bp, m.parts[j].ext = some x ∧ ps[j].pv = some bp ∧ PartS s bp b x := by
      rcases hp.pv with ⟨_, _, h3⟩ | h1
      · rw [hq] at h3; cases h3
      · exact h1
    rw [slot_serve hn hjp hj' hq q1]
    rw [hjp] at pn
    obtain ⟨hk, hat, hdl⟩ := hp.qok r (by rw [hq]; exact List.mem_cons_self)
    obtain ⟨da, dc, hit, hda⟩ := hp.its 0 (by rw [hq]; simp)
    simp only [hq, List.getElem_cons_zero, Nat.add_zero] at hit hda
    rw [Nat.mod_eq_of_lt hp.ok.f16] at hit
    have hrep := hp.pop hq
    have hcp : 0 < ps[j].count := by rw [hcnt, hq]; simp
    -- the ring's next state
    obtain ⟨p1, hp1⟩ : ∃ p1 : Pr, p1 = ps[j].pop := ⟨_, rfl⟩
    have hok1 : p1.Ok := by rw [hp1]; exact ⟨hrep.ok.len, hrep.ok.one, hrep.ok.f16, hrep.ok.c16⟩
    rw [← hp1] at hrep
    have hv1 : View (ps.set j p1) j p1 := hv.set hok1
    have hsv1 : ((ps.set j p1).flatMap Pr.cells)[0 + j * 70 + 3]? = some (.int .u64 (ps[j].served : Int)) := hv1.get (j := 3) (by rw [hp1]; rfl) (by omega)
    have l70 := hv1.len70
    have hwrap : IntKind.u64.wrap ((ps[j].served : Int) + 1) = ((ps[j].served + 1 : Nat) : Int) := by simp [IntKind.wrap, IntKind.bits, IntKind.signed]; omega
    obtain ⟨p2, hp2⟩ : ∃ p2 : Pr, p2 = { p1 with served := ps[j].served + 1 } := ⟨_, rfl⟩
    rw [← hp2] at hrep
    have hset : ((ps.set j p1).flatMap Pr.cells).set (0 + j * 70 + 3) (.int .u64 ((ps[j].served + 1 : Nat) : Int)) = (ps.set j p2).flatMap Pr.cells := by
      rw [hv1.wr (p' := p2) (j := 3) (v := .int .u64 ((ps[j].served + 1 : Nat) : Int)) (by rw [hp2]; rfl) (by omega), List.set_set]
    have hv2 : View (ps.set j p2) j p2 := hv.set hrep.ok
    have hpt : ((ps.set j p2).flatMap Pr.cells)[0 + j * 70 + 0]? = some (.pointer (some ⟨bp, 0, none⟩)) := hv2.get (j := 0) (by rw [hp2, hp1, show ({ ps[j].pop with served := ps[j].served + 1 } : Pr).cells[0]? = some (ptr ps[j].pv) from rfl, q2]; rfl) (by omega)
    have hrs2 := hrs.set (i := j) hrep
    refine enter Try.func17 rfl Try.ntmps17 rfl ?_
    repeat' (first | refine Z H ?_ | (refine Zc ?_ ?_ <;> intro hc <;> first | (exfalso; omega) | skip) | (refine Y ?_; try change C _ _ _ _ _ _) | (refine Zs H ?_; clear H; (try clear w); intro w H) | (refine Zn H ?_; clear H; (try clear w); intro _ w H) | (refine Ze H ?_; clear H; (try clear w); intro gv w H))
    refine C.drawn1 [0, 0, 0, 1, 0, 0, 0, 1, 0, 1, 0] [0, 1, 3, 7, 0, 16, 48, 112, 255, 511, 1023] (by kernel_rfl) ?_; replace H := H.drew
    repeat' (first | refine Z H ?_ | (refine Zc ?_ ?_ <;> intro hc <;> first | (exfalso; omega) | skip) | (refine Y ?_; try change C _ _ _ _ _ _) | (refine Zs H ?_; clear H; (try clear w); intro w H) | (refine Zn H ?_; clear H; (try clear w); intro _ w H) | (refine Ze H ?_; clear H; (try clear w); intro gv w H))
    refine C.drawn1 [0, 0, 0, 0, 1, 0, 0, 0, 0, 1, 0, 0, 0, 0, 3] [0, 0, 2, 6, 14, 30, 0, 64, 192, 448, 960, 2046, 4095, 8191, 16383] (by kernel_rfl) ?_; replace H := H.drew
    repeat' (first | (refine K.rem rfl rfl rfl rfl (by omega) ?_; rw [hrem]) | refine Z H ?_ | (refine Zc ?_ ?_ <;> intro hc <;> first | (exfalso; omega) | skip) | (refine Y ?_; try change C _ _ _ _ _ _) | (refine Zs H ?_; clear H; (try clear w); intro w H) | (refine Zn H ?_; clear H; (try clear w); intro _ w H) | (refine Ze H ?_; clear H; (try clear w); intro gv w H))
    first | (have hT : Holds _ _ (row _ _ _ _ _ :: _) := H; clear hT) | (replace H := H.up 1 rfl; (try simp only [List.set_cons_zero, List.set_cons_succ, List.eraseIdx_cons_zero, List.eraseIdx_cons_succ] at H); have hT : Holds _ _ (row _ _ _ _ _ :: _) := H; clear hT) | (replace H := H.up 2 rfl; (try simp only [List.set_cons_zero, List.set_cons_succ, List.eraseIdx_cons_zero, List.eraseIdx_cons_succ] at H); have hT : Holds _ _ (row _ _ _ _ _ :: _) := H; clear hT) | (replace H := H.up 3 rfl; (try simp only [List.set_cons_zero, List.set_cons_succ, List.eraseIdx_cons_zero, List.eraseIdx_cons_succ] at H); have hT : Holds _ _ (row _ _ _ _ _ :: _) := H; clear hT) | (replace H := H.up 4 rfl; (try simp only [List.set_cons_zero, List.set_cons_succ, List.eraseIdx_cons_zero, List.eraseIdx_cons_succ] at H); have hT : Holds _ _ (row _ _ _ _ _ :: _) := H; clear hT) | (replace H := H.up 5 rfl; (try simp only [List.set_cons_zero, List.set_cons_succ, List.eraseIdx_cons_zero, List.eraseIdx_cons_succ] at H); have hT : Holds _ _ (row _ _ _ _ _ :: _) := H; clear hT) | (replace H := H.up 6 rfl; (try simp only [List.set_cons_zero, List.set_cons_succ, List.eraseIdx_cons_zero, List.eraseIdx_cons_succ] at H); have hT : Holds _ _ (row _ _ _ _ _ :: _) := H; clear hT)
    have hPo := pop_s (o := 0 + j * 70 + 4) H hv hcp rfl hit
    rw [← hp1] at hPo
    (refine X.call (hPo) ?_; (try clear H); rintro _ w ⟨rfl, H⟩; refine ⟨_, rfl, ?_⟩)
    clear hPo
    repeat' (first | (refine K.arith _ rfl rfl rfl rfl rfl ?_; rw [hwrap]) | refine Z H ?_ | (refine Zc ?_ ?_ <;> intro hc <;> first | (exfalso; omega) | skip) | (refine Y ?_; try change C _ _ _ _ _ _) | (refine Zs H ?_; clear H; (try clear w); intro w H) | (refine Zn H ?_; clear H; (try clear w); intro _ w H) | (refine Ze H ?_; clear H; (try clear w); intro gv w H))
    rw [hset] at H
    have hlen2 : (ps.set j p2).length = ps.length := by simp
    rcases (show r.kind = 0 ∨ r.kind = 1 ∨ r.kind = 2 by omega) with hk0 | hk0 | hk0
    · have hse : serveM d x r = (d, pread d x r.at_) := by unfold serveM; rw [if_pos hk0]
      rw [hse]
      repeat' (first | (refine K.build [(0, .int .i64 (j : Int)), (1, .int .u64 (r.n : Int))] (.agg #[.int .i64 (j : Int), .int .u64 (r.n : Int), .slice none 0 0, .int .i64 0]) (build_done _ _) rfl rfl rfl ?_) | refine Z H ?_ | (refine Zc ?_ ?_ <;> intro hc <;> first | (exfalso; omega) | skip) | (refine Y ?_; try change C _ _ _ _ _ _) | (refine Zs H ?_; clear H; (try clear w); intro w H) | (refine Zn H ?_; clear H; (try clear w); intro _ w H) | (refine Ze H ?_; clear H; (try clear w); intro gv w H))
      refine C.drawn1 [0, 0, 0, 1, 0, 0, 1, 3, 0, 0, 0, 0, 3, 0, 3] [0, 1, 3, 7, 0, 16, 48, 127, 255, 511, 511, 1023, 3071, 8191, 16383] (by kernel_rfl) ?_; replace H := H.drew
      repeat' (first | refine Z H ?_ | (refine Zc ?_ ?_ <;> intro hc <;> first | (exfalso; omega) | skip) | (refine Y ?_; try change C _ _ _ _ _ _) | (refine Zs H ?_; clear H; (try clear w); intro w H) | (refine Zn H ?_; clear H; (try clear w); intro _ w H) | (refine Ze H ?_; clear H; (try clear w); intro gv w H))
      first | (have hT : Holds _ _ (dsk b _ :: _) := H; clear hT) | (replace H := H.up 1 rfl; (try simp only [List.set_cons_zero, List.set_cons_succ, List.eraseIdx_cons_zero, List.eraseIdx_cons_succ] at H); have hT : Holds _ _ (dsk b _ :: _) := H; clear hT) | (replace H := H.up 2 rfl; (try simp only [List.set_cons_zero, List.set_cons_succ, List.eraseIdx_cons_zero, List.eraseIdx_cons_succ] at H); have hT : Holds _ _ (dsk b _ :: _) := H; clear hT) | (replace H := H.up 3 rfl; (try simp only [List.set_cons_zero, List.set_cons_succ, List.eraseIdx_cons_zero, List.eraseIdx_cons_succ] at H); have hT : Holds _ _ (dsk b _ :: _) := H; clear hT) | (replace H := H.up 4 rfl; (try simp only [List.set_cons_zero, List.set_cons_succ, List.eraseIdx_cons_zero, List.eraseIdx_cons_succ] at H); have hT : Holds _ _ (dsk b _ :: _) := H; clear hT) | (replace H := H.up 5 rfl; (try simp only [List.set_cons_zero, List.set_cons_succ, List.eraseIdx_cons_zero, List.eraseIdx_cons_succ] at H); have hT : Holds _ _ (dsk b _ :: _) := H; clear hT) | (replace H := H.up 6 rfl; (try simp only [List.set_cons_zero, List.set_cons_succ, List.eraseIdx_cons_zero, List.eraseIdx_cons_succ] at H); have hT : Holds _ _ (dsk b _ :: _) := H; clear hT)
      (refine X.call (Read_p H hx hat) ?_; (try clear H); rintro _ w ⟨t1, a3, c3, rfl, H⟩; refine ⟨_, rfl, ?_⟩)
      generalize pread d x r.at_ = rd at *
      repeat' (first | refine Z H ?_ | (refine Zc ?_ ?_ <;> intro hc <;> first | (exfalso; omega) | skip) | (refine Y ?_; try change C _ _ _ _ _ _) | (refine Zs H ?_; clear H; (try clear w); intro w H) | (refine Zn H ?_; clear H; (try clear w); intro _ w H) | (refine Ze H ?_; clear H; (try clear w); intro gv w H))
      have H' : Holds s w (var bS 136 [.slice (some ⟨g, 0, none⟩) ps.length cap, .slice (some ⟨gs, os, none⟩) m.slots.length sc, .int .i64 (((m.next + 1) % m.slots.length : Nat) : Int)] :: row 143 70 (.slice (some ⟨g, 0, none⟩) ps.length cap) ps.length ((ps.set j p2).flatMap Pr.cells) :: row t1 1 (.slice a3 rd.1.length c3) rd.1.length (u8s rd.1) :: dsk b d :: R) := H.arr
      refine ⟨_, resCT 5 H rfl rfl rfl rfl, t1, a3, c3, rfl, some ⟨g, 0, none⟩, cap, some ⟨gs, os, none⟩, sc, ps.set j p2, hrs2, hsl, ?_⟩
      rw [hlen2]
      exact H'
    · have hse : serveM d x r = ((pwrite d x r.at_ r.data).1, [], (pwrite d x r.at_ r.data).2) := by unfold serveM; rw [if_neg (by omega), if_pos hk0]
      rw [hse]
      repeat' (first | (refine K.build [(0, .int .i64 (j : Int)), (1, .int .u64 (r.n : Int))] (.agg #[.int .i64 (j : Int), .int .u64 (r.n : Int), .slice none 0 0, .int .i64 0]) (build_done _ _) rfl rfl rfl ?_) | refine Z H ?_ | (refine Zc ?_ ?_ <;> intro hc <;> first | (exfalso; omega) | skip) | (refine Y ?_; try change C _ _ _ _ _ _) | (refine Zs H ?_; clear H; (try clear w); intro w H) | (refine Zn H ?_; clear H; (try clear w); intro _ w H) | (refine Ze H ?_; clear H; (try clear w); intro gv w H))
      refine C.drawn1 [0, 0, 0, 1, 0, 0, 1, 0, 0, 1, 3, 0, 3] [0, 1, 3, 7, 0, 16, 48, 0, 128, 384, 1023, 2047, 4095] (by kernel_rfl) ?_; replace H := H.drew
      repeat' (first | refine Z H ?_ | (refine Zc ?_ ?_ <;> intro hc <;> first | (exfalso; omega) | skip) | (refine Y ?_; try change C _ _ _ _ _ _) | (refine Zs H ?_; clear H; (try clear w); intro w H) | (refine Zn H ?_; clear H; (try clear w); intro _ w H) | (refine Ze H ?_; clear H; (try clear w); intro gv w H))
      first | (have hT : Holds _ _ (dsk b _ :: _) := H; clear hT) | (replace H := H.up 1 rfl; (try simp only [List.set_cons_zero, List.set_cons_succ, List.eraseIdx_cons_zero, List.eraseIdx_cons_succ] at H); have hT : Holds _ _ (dsk b _ :: _) := H; clear hT) | (replace H := H.up 2 rfl; (try simp only [List.set_cons_zero, List.set_cons_succ, List.eraseIdx_cons_zero, List.eraseIdx_cons_succ] at H); have hT : Holds _ _ (dsk b _ :: _) := H; clear hT) | (replace H := H.up 3 rfl; (try simp only [List.set_cons_zero, List.set_cons_succ, List.eraseIdx_cons_zero, List.eraseIdx_cons_succ] at H); have hT : Holds _ _ (dsk b _ :: _) := H; clear hT) | (replace H := H.up 4 rfl; (try simp only [List.set_cons_zero, List.set_cons_succ, List.eraseIdx_cons_zero, List.eraseIdx_cons_succ] at H); have hT : Holds _ _ (dsk b _ :: _) := H; clear hT) | (replace H := H.up 5 rfl; (try simp only [List.set_cons_zero, List.set_cons_succ, List.eraseIdx_cons_zero, List.eraseIdx_cons_succ] at H); have hT : Holds _ _ (dsk b _ :: _) := H; clear hT) | (replace H := H.up 6 rfl; (try simp only [List.set_cons_zero, List.set_cons_succ, List.eraseIdx_cons_zero, List.eraseIdx_cons_succ] at H); have hT : Holds _ _ (dsk b _ :: _) := H; clear hT)
      (refine X.call (Write_p H hx hat (.ro hda) (by omega)) ?_; (try clear H); rintro _ w ⟨rfl, H⟩; refine ⟨_, rfl, ?_⟩)
      generalize pwrite d x r.at_ r.data = rd at *
      repeat' (first | refine Z H ?_ | (refine Zc ?_ ?_ <;> intro hc <;> first | (exfalso; omega) | skip) | (refine Y ?_; try change C _ _ _ _ _ _) | (refine Zs H ?_; clear H; (try clear w); intro w H) | (refine Zn H ?_; clear H; (try clear w); intro _ w H) | (refine Ze H ?_; clear H; (try clear w); intro gv w H))
      have H' : Holds s w (var bS 136 [.slice (some ⟨g, 0, none⟩) ps.length cap, .slice (some ⟨gs, os, none⟩) m.slots.length sc, .int .i64 (((m.next + 1) % m.slots.length : Nat) : Int)] :: row 143 70 (.slice (some ⟨g, 0, none⟩) ps.length cap) ps.length ((ps.set j p2).flatMap Pr.cells) :: row 0 1 (.slice none 0 0) 0 [] :: dsk b rd.1 :: R) := (H.nilRow 0 1).arr
      refine ⟨_, resCT 4 H rfl rfl rfl rfl, 0, none, 0, rfl, some ⟨g, 0, none⟩, cap, some ⟨gs, os, none⟩, sc, ps.set j p2, hrs2, hsl, ?_⟩
      rw [hlen2]
      exact H'
    · have hse : serveM d x r = (d.flush.1, [], d.flush.2) := by unfold serveM; rw [if_neg (by omega), if_neg (by omega)]
      rw [hse]
      repeat' (first | (refine K.build [(0, .int .i64 (j : Int)), (1, .int .u64 (r.n : Int))] (.agg #[.int .i64 (j : Int), .int .u64 (r.n : Int), .slice none 0 0, .int .i64 0]) (build_done _ _) rfl rfl rfl ?_) | refine Z H ?_ | (refine Zc ?_ ?_ <;> intro hc <;> first | (exfalso; omega) | skip) | (refine Y ?_; try change C _ _ _ _ _ _) | (refine Zs H ?_; clear H; (try clear w); intro w H) | (refine Zn H ?_; clear H; (try clear w); intro _ w H) | (refine Ze H ?_; clear H; (try clear w); intro gv w H))
      first | (have hT : Holds _ _ (dsk b _ :: _) := H; clear hT) | (replace H := H.up 1 rfl; (try simp only [List.set_cons_zero, List.set_cons_succ, List.eraseIdx_cons_zero, List.eraseIdx_cons_succ] at H); have hT : Holds _ _ (dsk b _ :: _) := H; clear hT) | (replace H := H.up 2 rfl; (try simp only [List.set_cons_zero, List.set_cons_succ, List.eraseIdx_cons_zero, List.eraseIdx_cons_succ] at H); have hT : Holds _ _ (dsk b _ :: _) := H; clear hT) | (replace H := H.up 3 rfl; (try simp only [List.set_cons_zero, List.set_cons_succ, List.eraseIdx_cons_zero, List.eraseIdx_cons_succ] at H); have hT : Holds _ _ (dsk b _ :: _) := H; clear hT) | (replace H := H.up 4 rfl; (try simp only [List.set_cons_zero, List.set_cons_succ, List.eraseIdx_cons_zero, List.eraseIdx_cons_succ] at H); have hT : Holds _ _ (dsk b _ :: _) := H; clear hT) | (replace H := H.up 5 rfl; (try simp only [List.set_cons_zero, List.set_cons_succ, List.eraseIdx_cons_zero, List.eraseIdx_cons_succ] at H); have hT : Holds _ _ (dsk b _ :: _) := H; clear hT) | (replace H := H.up 6 rfl; (try simp only [List.set_cons_zero, List.set_cons_succ, List.eraseIdx_cons_zero, List.eraseIdx_cons_succ] at H); have hT : Holds _ _ (dsk b _ :: _) := H; clear hT)
      (refine X.call (Flush_p H hx) ?_; (try clear H); rintro _ w ⟨rfl, H⟩; refine ⟨_, rfl, ?_⟩)
      generalize d.flush = rd at *
      repeat' (first | refine Z H ?_ | (refine Zc ?_ ?_ <;> intro hc <;> first | (exfalso; omega) | skip) | (refine Y ?_; try change C _ _ _ _ _ _) | (refine Zs H ?_; clear H; (try clear w); intro w H) | (refine Zn H ?_; clear H; (try clear w); intro _ w H) | (refine Ze H ?_; clear H; (try clear w); intro gv w H))
      have H' : Holds s w (var bS 136 [.slice (some ⟨g, 0, none⟩) ps.length cap, .slice (some ⟨gs, os, none⟩) m.slots.length sc, .int .i64 (((m.next + 1) % m.slots.length : Nat) : Int)] :: row 143 70 (.slice (some ⟨g, 0, none⟩) ps.length cap) ps.length ((ps.set j p2).flatMap Pr.cells) :: row 0 1 (.slice none 0 0) 0 [] :: dsk b rd.1 :: R) := (H.nilRow 0 1).arr
      refine ⟨_, resCT 4 H rfl rfl rfl rfl, 0, none, 0, rfl, some ⟨g, 0, none⟩, cap, some ⟨gs, os, none⟩, sc, ps.set j p2, hrs2, hsl, ?_⟩
      rw [hlen2]
      exact H'
end
end Go.Proofs.Ytmcojfpomejnnaa

/- nacelleref15.Slot. -/
import Derived.Test.YtmcojfpomejnnaaQpIoU
import Derived.Test.YtmcojfpomejnnaaQpK4
set_option linter.unusedSimpArgs false
set_option linter.unusedVariables false
namespace Go.Proofs.Ytmcojfpomejnnaa
open Go Go.RowKit Go.Own
theorem SlS.tl {s : Ro} {a : Option Addr} {c sz n l : Nat} {xs : List Value} (h : SlS s (.slice a n c) sz n xs) (hl : l ≤ n) : SlS s (.slice (subAddr a c l sz) (n - l) (c - l)) sz (n - l) (xs.drop (l * sz)) := by
  obtain ⟨a', c', hv, h1, h2, h3, h4⟩ := h
  cases hv
  refine ⟨_, _, rfl, by rw [List.length_drop, h1, Nat.sub_mul], by omega, by omega, ?_⟩
  rcases h4 with rfl | ⟨g, o, rfl, h5⟩
  · left; simp
  · by_cases hc : c = l
    · left
      have : n = l := by omega
      subst this
      rw [List.drop_of_length_le (by omega)]
    · right
      refine ⟨g, o + l * sz, ?_, fun j x hj => ?_⟩
      · unfold subAddr
        rw [if_neg hc]
        simp [Addr.add]
      · rw [List.getElem?_drop] at hj
        rw [Nat.add_assoc]
        exact h5 _ x hj
theorem pread_at {d : DM} {x : Ext} {a : Int} (h1 : 0 ≤ a ∧ a < x.2) (h2 : liesM x.1 x.2 16 = true) : pread d x a = d.read (x.1 + a) := by
  have h3 : 1 ≤ x.2 ∧ 0 ≤ x.1 ∧ x.1 ≤ 16 ∧ x.2 ≤ 16 - x.1 := by unfold liesM at h2; simpa using h2
  have hp : placeM x.1 x.2 a = (x.1 + a, 0) := by unfold placeM; rw [if_neg (by omega), if_neg (by omega)]
  unfold pread
  rw [hp, if_pos rfl]
theorem pwrite_at {d : DM} {x : Ext} {a : Int} {l : List UInt8} (h1 : 0 ≤ a ∧ a < x.2) (h2 : liesM x.1 x.2 16 = true) : pwrite d x a l = d.write (x.1 + a) l := by
  have h3 : 1 ≤ x.2 ∧ 0 ≤ x.1 ∧ x.1 ≤ 16 ∧ x.2 ≤ 16 - x.1 := by unfold liesM at h2; simpa using h2
  have hp : placeM x.1 x.2 a = (x.1 + a, 0) := by unfold placeM; rw [if_neg (by omega), if_neg (by omega)]
  unfold pwrite
  rw [hp, if_pos rfl]
theorem build_rdone0 (w : World) : (Instr.build 81 ([] : List (Nat × Value)).toArray).run Try.prog w = .ok (.agg [.int .i64 0, .int .u64 0, .string ⟨#[]⟩, .int .i64 0].toArray) w := by kernel_rfl
theorem build_rdone (x : Int) (n : Nat) (w : World) : (Instr.build 81 [(0, .int .i64 x), (1, .int .u64 (n : Int))].toArray).run Try.prog w = .ok (.agg [.int .i64 x, .int .u64 (n : Int), .string ⟨#[]⟩, .int .i64 0].toArray) w := by kernel_rfl
def wrFS (bW bl : Nat) (dc : List Value) (at_ : Int) (qa : Option Addr) (qc : Nat) (l : List UInt8) (code : Int) (d1 : DM) : List FS := [
/-  0 -/ FS.v 147 [] (.pointer (some ⟨bW, 0, none⟩)),
/-  1 -/ FS.v 148 [0] (.pointer (some ⟨bW, 0, none⟩)),
/-  2 -/ FS.v 149 [1] (.pointer (some ⟨bW, 0, none⟩)),
/-  3 -/ FS.v 150 [2] (.agg dc.toArray),
/-  4 -/ FS.v 151 [] (.int .i64 at_),
/-  5 -/ FS.v 152 [] (.pointer (some ⟨bl, 2, none⟩)),
/-  6 -/ FS.v 153 [5] (.slice qa l.length qc),
/-  7 -/ FS.v 154 [6] (.string (bst l)),
/-  8 -/ FS.f 155 [3, 4, 7] (fun s v => ∃ v', v = .tuple #[v', .int .i64 code] ∧ RefS s v' d1) (fun hs ⟨v', h, k⟩ => ⟨v', h, k.mono hs⟩),
/-  9 -/ FS.f 146 [8] (fun s v => ∃ v', v = .tuple #[v', .int .i64 code] ∧ RefS s v' d1) (fun hs ⟨v', h, k⟩ => ⟨v', h, k.mono hs⟩),
/- 10 -/ FS.f 156 [9] (fun s v => RefS s v d1) (fun hs k => k.mono hs),
/- 11 -/ FS.v 157 [9] (.int .i64 code),
/- 12 -/ FS.new 8 63 [.slice none 0 0, .slice none 0 0, .bool false, .int .i64 0, .slice none 0 0],
/- 13 -/ FS.put2 8 156 12 [12, 10] 63,
/- 14 -/ FS.v 9 [11] (.int .i64 code)]
section
variable {s : Ro} {w : World} {R : List Asn} {bW : Nat} {xs : List Ext} {rooms : List Int} {m : SM} {d : DM}
theorem RFac.stepped {dv xv rv lv : Value} {ws : List Value} (h : RFac s xs rooms m d dv xv rv lv ws) : RFac s xs rooms m.step d dv xv rv lv ws := ⟨h.dk, h.hx, h.hr, h.hl, h.wn, h.wl⟩
theorem RFac.disk {d' : DM} {dv dv' xv rv lv : Value} {ws : List Value} (h : RFac s xs rooms m d dv xv rv lv ws) (hR : RefS s dv' d') : RFac s xs rooms m d' dv' xv rv lv ws := ⟨hR, h.hx, h.hr, h.hl, h.wn, h.wl⟩
set_option maxRecDepth 100000 in
set_option maxHeartbeats 1000000 in
theorem RSlot_s (h : RSch s w bW xs rooms m d R) (hP : Pl xs rooms m) (hpl : d.pend.length ≤ 10000) (hserv : ∀ p ∈ m.parts, p.served ≤ 1000000) :
    Calls Try.prog 32 #[.pointer (some ⟨bW, 0, none⟩)] w fun e w' => ∃ s', e = .returned (.tuple #[.agg #[.int .i64 ((m.slot d).2.2.getD Dn.zero).part, .int .u64 (((m.slot d).2.2.getD Dn.zero).n : Int), .string (bst ((m.slot d).2.2.getD Dn.zero).data), .int .i64 ((m.slot d).2.2.getD Dn.zero).code], .bool (m.slot d).2.2.isSome]) ∧ s.Le s' ∧ RSch s' w' bW xs rooms (m.slot d).1 (m.slot d).2.1 R := by
  obtain ⟨a0, c0, a1, c1, lf, a2, n2, c2, xa, xc, ra, rc, la, lc, ws, wa, wc, va, vc, hf, H⟩ := h
  have hlen := hP.len
  have hfew := hP.few
  have hrl := hP.rl
  have hsln := hP.sln
  rcases hP.nxt with hn | ⟨hn, hn0⟩
  rotate_left
  · rw [slot_end hn]
    have hsl0 : m.slots.length = 0 := by rw [hn]; rfl
    refine enter Try.func32 rfl Try.ntmps32 rfl ?_
    repeat' (first | (refine K.build [] (.agg [.int .i64 0, .int .u64 0, .string ⟨#[]⟩, .int .i64 0].toArray) build_rdone0 rfl rfl rfl ?_) | refine Z H ?_ | (refine Zc ?_ ?_ <;> intro hc <;> first | (exfalso; omega) | skip) | (refine Y ?_; try change C _ _ _ _ _ _) | (refine Zs H ?_; clear H; (try clear w); intro w H) | (refine Zn H ?_; clear H; (try clear w); (first | ((fail_if_success (have := bl1)); intro bl1 w H) | ((fail_if_success (have := bl2)); intro bl2 w H) | ((fail_if_success (have := bl3)); intro bl3 w H) | ((fail_if_success (have := bl4)); intro bl4 w H) | intro _ w H)) | (refine Ze H ?_; clear H; (try clear w); intro gv w H))
    exact ⟨_, resVT H rfl, s, rfl, Ro.Le.refl _, a0, c0, a1, c1, lf, a2, n2, c2, xa, xc, ra, rc, la, lc, ws, wa, wc, va, vc, hf, H.arr⟩
  have hslv := hP.slv m.slots[m.next] (List.getElem_mem _)
  obtain ⟨gl, ol, cl, hv2, _, _, hpin⟩ := elemS1 hf.hl (by omega)
  cases hv2
  have pn : Pin s gl (ol + m.next * 1) (.int .i64 m.slots[m.next]) := by rw [Nat.mul_one]; exact hpin m.next hn
  have hstep : m.step.slots = m.slots := rfl
  generalize hpt : m.slots[m.next] = pt at *
  refine enter Try.func32 rfl Try.ntmps32 rfl ?_
  repeat' (first | refine Z H ?_ | (refine Zc ?_ ?_ <;> intro hc <;> first | (exfalso; omega) | skip) | (refine Y ?_; try change C _ _ _ _ _ _) | (refine Zs H ?_; clear H; (try clear w); intro w H) | (refine Zn H ?_; clear H; (try clear w); (first | ((fail_if_success (have := bl1)); intro bl1 w H) | ((fail_if_success (have := bl2)); intro bl2 w H) | ((fail_if_success (have := bl3)); intro bl3 w H) | ((fail_if_success (have := bl4)); intro bl4 w H) | intro _ w H)) | (refine Ze H ?_; clear H; (try clear w); intro gv w H))
  refine C.drawn1 [0, 0, 0, 1, 0, 0, 0, 1, 0, 1, 0] [0, 1, 3, 7, 0, 16, 48, 112, 255, 511, 1023] (by kernel_rfl) ?_; replace H := H.drew
  repeat' (first | ((fail_if_success (with_reducible show C _ _ _ (Code.seq (Code.seq (Code.region 5 _ _) _) _) _ _)); refine Z H ?_) | (refine Zc ?_ ?_ <;> intro hc <;> first | (exfalso; omega) | skip) | (refine Y ?_; try change C _ _ _ _ _ _) | (refine Zs H ?_; clear H; (try clear w); intro w H) | (refine Zn H ?_; clear H; (try clear w); (first | ((fail_if_success (have := bl1)); intro bl1 w H) | ((fail_if_success (have := bl2)); intro bl2 w H) | ((fail_if_success (have := bl3)); intro bl3 w H) | ((fail_if_success (have := bl4)); intro bl4 w H) | intro _ w H)) | (refine Ze H ?_; clear H; (try clear w); intro gv w H))
  refine C.cut [36, 37, 38, 39, 40, 41, 42, 43, 44, 45, 46, 47, 48] [] rfl (fun vs w => Holds s w (var bl1 81 [.int .i64 0, .int .u64 0, .string ⟨#[]⟩, .int .i64 0] :: var bW 77 [.slice a0 d.secs.length c0, .slice a1 d.pend.length c1, .bool d.off, .int .i64 lf, .slice a2 n2 c2, .slice xa xs.length xc, .slice ra rooms.length rc, .slice wa m.parts.length wc, .slice va m.parts.length vc, .slice (some ⟨gl, ol, none⟩) m.slots.length lc, .int .i64 (((m.next + 1) % m.slots.length : Nat) : Int)] :: row 89 1 (.slice wa m.parts.length wc) m.parts.length ws :: row 41 1 (.slice va m.parts.length vc) m.parts.length (svd m.parts) :: R)) ?_ ?_
  · rw [show ((m.next : Int) + 1) = ((m.next + 1 : Nat) : Int) from rfl] at H
    repeat' (first | refine Z H ?_ | (refine Zc ?_ ?_ <;> intro hc <;> first | (exfalso; omega) | skip) | (refine Y ?_; try change C _ _ _ _ _ _) | (refine Zs H ?_; clear H; (try clear w); intro w H) | (refine Zn H ?_; clear H; (try clear w); (first | ((fail_if_success (have := bl1)); intro bl1 w H) | ((fail_if_success (have := bl2)); intro bl2 w H) | ((fail_if_success (have := bl3)); intro bl3 w H) | ((fail_if_success (have := bl4)); intro bl4 w H) | intro _ w H)) | (refine Ze H ?_; clear H; (try clear w); intro gv w H))
    refine C.drawn1 [0, 0, 0, 1, 0, 0, 0, 1, 0, 0] [0, 1, 3, 7, 0, 16, 48, 112, 240, 511] (by kernel_rfl) ?_; replace H := H.drew
    repeat' (first | refine Z H ?_ | (refine Zc ?_ ?_ <;> intro hc <;> first | (exfalso; omega) | skip) | (refine Y ?_; try change C _ _ _ _ _ _) | (refine Zs H ?_; clear H; (try clear w); intro w H) | (refine Zn H ?_; clear H; (try clear w); (first | ((fail_if_success (have := bl1)); intro bl1 w H) | ((fail_if_success (have := bl2)); intro bl2 w H) | ((fail_if_success (have := bl3)); intro bl3 w H) | ((fail_if_success (have := bl4)); intro bl4 w H) | intro _ w H)) | (refine Ze H ?_; clear H; (try clear w); intro gv w H))
    · have e : (m.next + 1) % m.slots.length = 0 := by rw [show m.next + 1 = m.slots.length by omega, Nat.mod_self]
      rw [e]
      exact ⟨by (repeat (first | exact Agr.refl | exact Agr.hav | refine Agr.upd rfl ?_ | refine Agr.in rfl ?_)), H.arr⟩
    · have e : (m.next + 1) % m.slots.length = m.next + 1 := Nat.mod_eq_of_lt (by omega)
      rw [e]
      exact ⟨by (repeat (first | exact Agr.refl | exact Agr.hav | refine Agr.upd rfl ?_ | refine Agr.in rfl ?_)), H.arr⟩
  clear H
  rintro vs hv w H
  by_cases hneg : pt < 0
  · rw [slot_off hn (by rw [hpt]; exact hneg)]
    repeat' (first | (refine K.build [] (.agg [.int .i64 0, .int .u64 0, .string ⟨#[]⟩, .int .i64 0].toArray) build_rdone0 rfl rfl rfl ?_) | refine Z H ?_ | (refine Zc ?_ ?_ <;> intro hc <;> first | (exfalso; omega) | skip) | (refine Y ?_; try change C _ _ _ _ _ _) | (refine Zs H ?_; clear H; (try clear w); intro w H) | (refine Zn H ?_; clear H; (try clear w); (first | ((fail_if_success (have := bl1)); intro bl1 w H) | ((fail_if_success (have := bl2)); intro bl2 w H) | ((fail_if_success (have := bl3)); intro bl3 w H) | ((fail_if_success (have := bl4)); intro bl4 w H) | intro _ w H)) | (refine Ze H ?_; clear H; (try clear w); intro gv w H))
    exact ⟨_, resVT H rfl, s, rfl, Ro.Le.refl _, a0, c0, a1, c1, lf, a2, n2, c2, xa, xc, ra, rc, some ⟨gl, ol, none⟩, lc, ws, wa, wc, va, vc, hf.stepped, (show Holds s _ (var bW 77 [.slice a0 d.secs.length c0, .slice a1 d.pend.length c1, .bool d.off, .int .i64 lf, .slice a2 n2 c2, .slice xa xs.length xc, .slice ra rooms.length rc, .slice wa m.parts.length wc, .slice va m.parts.length vc, .slice (some ⟨gl, ol, none⟩) m.slots.length lc, .int .i64 (((m.next + 1) % m.slots.length : Nat) : Int)] :: row 89 1 (.slice wa m.parts.length wc) m.parts.length ws :: row 41 1 (.slice va m.parts.length vc) m.parts.length (svd m.parts) :: R) from H.arr)⟩
  obtain ⟨j, rfl⟩ : ∃ j : Nat, pt = j := ⟨pt.toNat, by omega⟩
  have hj : j < xs.length := by omega
  have hjr : j < rooms.length := by omega
  have hjm : j < m.parts.length := by omega
  have hp := hP.all j hj hjr hjm
  have hsv := hserv m.parts[j] (List.getElem_mem _)
  obtain ⟨gx, ox, cx, hv1, _, _, hpx⟩ := elemS hf.hx (fun _ _ => rfl) (by decide) (by omega)
  cases hv1
  have px : Pin s gx (ox + j * 2 + 0) (.int .i64 xs[j].1) := hpx j hj 0 _ rfl
  obtain ⟨gw, rfl, _⟩ := H.form (i := 2) rfl (by omega)
  obtain ⟨gsv, rfl, _⟩ := H.form (i := 3) rfl (by omega)
  have hwn := hf.wn
  have hjw : j < ws.length := by omega
  have hW := hf.wl j hjw hjm
  obtain ⟨ta, tc, hqv, hq1, hq2⟩ := hW.form
  have hws : ws[0 + j * 1]? = some (.slice ta m.parts[j].q.length tc) := by
    rw [Nat.zero_add, Nat.mul_one, List.getElem?_eq_getElem hjw, hqv]
  cases hq : m.parts[j].q with
  | nil =>
    rw [slot_idle hn hpt hjm hq]
    rw [hq] at hws
    have hws' : ws[0 + j * 1]? = some (.slice ta 0 tc) := hws
    clear hws
    repeat' (first | (refine K.build [] (.agg [.int .i64 0, .int .u64 0, .string ⟨#[]⟩, .int .i64 0].toArray) build_rdone0 rfl rfl rfl ?_) | refine Z H ?_ | (refine Zc ?_ ?_ <;> intro hc <;> first | (exfalso; omega) | skip) | (refine Y ?_; try change C _ _ _ _ _ _) | (refine Zs H ?_; clear H; (try clear w); intro w H) | (refine Zn H ?_; clear H; (try clear w); (first | ((fail_if_success (have := bl1)); intro bl1 w H) | ((fail_if_success (have := bl2)); intro bl2 w H) | ((fail_if_success (have := bl3)); intro bl3 w H) | ((fail_if_success (have := bl4)); intro bl4 w H) | intro _ w H)) | (refine Ze H ?_; clear H; (try clear w); intro gv w H))
    refine ⟨_, resVT H rfl, s, rfl, Ro.Le.refl _, a0, c0, a1, c1, lf, a2, n2, c2, some ⟨gx, ox, none⟩, xc, ra, rc, some ⟨gl, ol, none⟩, lc, ws, some ⟨gw, 0, none⟩, wc, some ⟨gsv, 0, none⟩, vc, hf.stepped, (show Holds s _ (var bW 77 [.slice a0 d.secs.length c0, .slice a1 d.pend.length c1, .bool d.off, .int .i64 lf, .slice a2 n2 c2, .slice (some ⟨gx, ox, none⟩) xs.length xc, .slice ra rooms.length rc, .slice (some ⟨gw, 0, none⟩) m.parts.length wc, .slice (some ⟨gsv, 0, none⟩) m.parts.length vc, .slice (some ⟨gl, ol, none⟩) m.slots.length lc, .int .i64 (((m.next + 1) % m.slots.length : Nat) : Int)] :: row 89 1 (.slice (some ⟨gw, 0, none⟩) m.parts.length wc) m.parts.length ws :: row 41 1 (.slice (some ⟨gsv, 0, none⟩) m.parts.length vc) m.parts.length (svd m.parts) :: R) from H.arr)⟩
  | cons r rest =>
  obtain ⟨nx, hnx⟩ : ∃ nx, nx = (m.next + 1) % m.slots.length := ⟨_, rfl⟩
  rw [← hnx] at H
  have hfm := hp.fm r (by rw [hq]; exact List.mem_cons_self)
  obtain ⟨hfm, hx0, hin⟩ := hfm
  have hk3 := formed_k hfm
  have hext := hp.ext
  rw [if_neg hx0] at hext
  have hlie := hP.lie xs[j] (List.getElem_mem _) hx0
  have hli : 1 ≤ xs[j].2 ∧ 0 ≤ xs[j].1 ∧ xs[j].1 ≤ 16 ∧ xs[j].2 ≤ 16 - xs[j].1 := by unfold liesM at hlie; simpa using hlie
  have hfk : r.kind = 1 ∧ r.data.length = 64 ∨ r.kind = 2 ∧ r.at_ = 0 ∧ r.data.length = 0 ∨ r.kind = 0 ∧ r.data.length = 0 := Decidable.byContradiction fun h => by rw [formed_f h] at hfm; cases hfm
  have hnum : m.parts[j].served + 1 = r.n := by
    have := hp.num 0 (by rw [hq]; simp)
    simp only [hq, List.getElem_cons_zero] at this
    omega
  rw [slot_serve hn hpt hjm hq hext]
  obtain ⟨ql, hqm, hqs, hqd⟩ := hW
  rw [hqv, hq] at hqs
  rw [hq] at hqm hws
  cases ql with
  | nil => cases hqm
  | cons x0 ql =>
  obtain ⟨r', qa, qc⟩ := x0
  simp only [List.map_cons, List.cons.injEq] at hqm
  obtain ⟨rfl, hqm⟩ := hqm
  have hrl' : rest.length = ql.length := by rw [← hqm, List.length_map]
  rw [List.length_cons, hrl'] at hqs hws
  have hdat := hqd ⟨r', qa, qc⟩ List.mem_cons_self
  simp only at hdat
  obtain ⟨gq, oq, cq, hv3, _, _, hpq⟩ := elemS (l := (⟨r', qa, qc⟩ :: ql : List Wq)) hqs (fun _ _ => rfl) (by decide) (by simp)
  cases hv3
  have pq : ∀ k v, ([.int .i64 r'.kind, .int .i64 r'.at_, .slice qa r'.data.length qc] : List Value)[k]? = some v → Pin s gq (oq + 0 * 3 + k) v := hpq 0 (by simp)
  have htl := SlS.tl (l := 1) hqs (by omega)
  have hsg : (svd m.parts)[0 + j * 1]? = some (.int .u64 (m.parts[j].served : Int)) := by
    rw [Nat.zero_add, Nat.mul_one]
    simp [svd, List.getElem?_eq_getElem hjm]
  have hwrap : IntKind.u64.wrap ((m.parts[j].served : Int) + 1) = ((m.parts[j].served + 1 : Nat) : Int) := by simp [IntKind.wrap, IntKind.bits, IntKind.signed]; omega
  have hwl : Wl s (.slice (subAddr (some ⟨gq, oq, none⟩) tc 1 3) (ql.length + 1 - 1) (tc - 1)) rest := ⟨ql, hqm, by simpa [Wq.cells] using htl, fun x hx => hqd x (List.mem_cons_of_mem _ hx)⟩
  have hsg2 : ((svd m.parts).set (0 + j * 1) (.int .u64 ((m.parts[j].served + 1 : Nat) : Int)))[0 + j * 1]? = some (.int .u64 ((m.parts[j].served + 1 : Nat) : Int)) := by
    rw [List.getElem?_set_self (by rw [svd_len]; omega)]
  have hsl9 : 0 + j * 1 < (svd m.parts).length := by rw [svd_len]; omega
  have hR := hf.dk
  have hat : 0 ≤ r'.at_ ∧ r'.at_ ≤ 16 := by omega
  repeat' (first | (refine K.ia (i := 0) rfl rfl rfl rfl rfl (by omega) ?_) | refine Z H ?_ | (refine Zc ?_ ?_ <;> intro hc <;> first | (exfalso; omega) | skip) | (refine Y ?_; try change C _ _ _ _ _ _) | (refine Zs H ?_; clear H; (try clear w); intro w H) | (refine Zn H ?_; clear H; (try clear w); (first | ((fail_if_success (have := bl1)); intro bl1 w H) | ((fail_if_success (have := bl2)); intro bl2 w H) | ((fail_if_success (have := bl3)); intro bl3 w H) | ((fail_if_success (have := bl4)); intro bl4 w H) | intro _ w H)) | (refine Ze H ?_; clear H; (try clear w); intro gv w H))
  refine C.drawn1 [0, 0, 0, 1, 0, 0, 0, 0, 1, 0, 0, 1, 0, 0, 3] [0, 1, 3, 7, 0, 0, 32, 96, 224, 0, 992, 2016, 4064, 8191, 16383] (by kernel_rfl) ?_; replace H := H.drew
  repeat' (first | (refine K.from (l := 1) rfl rfl rfl rfl rfl (by omega) ?_) | (refine K.arith _ rfl rfl rfl rfl rfl ?_; rw [hwrap]) | (refine K.build [(0, .int .i64 (j : Int)), (1, .int .u64 ((m.parts[j].served + 1 : Nat) : Int))] (.agg [.int .i64 (j : Int), .int .u64 ((m.parts[j].served + 1 : Nat) : Int), .string ⟨#[]⟩, .int .i64 0].toArray) (build_rdone _ _) rfl rfl rfl ?_) | refine Z H ?_ | (refine Zc ?_ ?_ <;> intro hc <;> first | (exfalso; omega) | skip) | (refine Y ?_; try change C _ _ _ _ _ _) | (refine Zs H ?_; clear H; (try clear w); intro w H) | (refine Zn H ?_; clear H; (try clear w); (first | ((fail_if_success (have := bl1)); intro bl1 w H) | ((fail_if_success (have := bl2)); intro bl2 w H) | ((fail_if_success (have := bl3)); intro bl3 w H) | ((fail_if_success (have := bl4)); intro bl4 w H) | intro _ w H)) | (refine Ze H ?_; clear H; (try clear w); intro gv w H))
  refine C.drawn1 [0, 0, 0, 1, 0, 0, 0, 1, 0, 1, 0, 0] [0, 1, 3, 7, 0, 31, 63, 127, 0, 256, 1023, 2047] (by kernel_rfl) ?_; replace H := H.drew
  rcases hfk with ⟨hk, h64⟩ | ⟨hk, ha0, h64⟩ | ⟨hk, h64⟩
  rotate_left 2
  · have hse : serveM d xs[j] r' = (d, d.read (xs[j].1 + r'.at_)) := by unfold serveM; rw [if_pos hk, pread_at (by omega) hlie]
    rw [hse]
    repeat' (first | (refine K.iaA (i := 0) rfl rfl rfl rfl rfl (by omega) ?_) | (refine X.ldp [.slice a0 d.secs.length c0, .slice a1 d.pend.length c1, .bool d.off, .int .i64 lf, .slice a2 n2 c2] H ?_) | refine Z H ?_ | (refine Zc ?_ ?_ <;> intro hc <;> first | (exfalso; omega) | skip) | (refine Y ?_; try change C _ _ _ _ _ _) | (refine Zs H ?_; clear H; (try clear w); intro w H) | (refine Zn H ?_; clear H; (try clear w); (first | ((fail_if_success (have := bl1)); intro bl1 w H) | ((fail_if_success (have := bl2)); intro bl2 w H) | ((fail_if_success (have := bl3)); intro bl3 w H) | ((fail_if_success (have := bl4)); intro bl4 w H) | intro _ w H)) | (refine Ze H ?_; clear H; (try clear w); intro gv w H))
    have H' : Holds _ _ (var bl3 81 [.int .i64 (j : Int), .int .u64 ((m.parts[j].served + 1 : Nat) : Int), .string ⟨#[]⟩, .int .i64 0] :: var bl2 45 [.int .i64 r'.kind, .int .i64 r'.at_, .slice qa r'.data.length qc] :: var bl1 81 [.int .i64 0, .int .u64 0, .string ⟨#[]⟩, .int .i64 0] :: var bW 77 [.slice a0 d.secs.length c0, .slice a1 d.pend.length c1, .bool d.off, .int .i64 lf, .slice a2 n2 c2, .slice (some ⟨gx, ox, none⟩) xs.length xc, .slice ra rooms.length rc, .slice (some ⟨gw, 0, none⟩) m.parts.length wc, .slice (some ⟨gsv, 0, none⟩) m.parts.length vc, .slice (some ⟨gl, ol, none⟩) m.slots.length lc, .int .i64 (nx : Int)] :: row 89 1 (.slice (some ⟨gw, 0, none⟩) m.parts.length wc) m.parts.length (ws.set (0 + j * 1) (.slice (subAddr (some ⟨gq, oq, none⟩) tc 1 3) (ql.length + 1 - 1) (tc - 1))) :: row 41 1 (.slice (some ⟨gsv, 0, none⟩) m.parts.length vc) m.parts.length ((svd m.parts).set (0 + j * 1) (.int .u64 ((m.parts[j].served + 1 : Nat) : Int))) :: R) := H.arr
    rw [Nat.zero_add, Nat.mul_one] at H'
    clear H
    have H := H'
    clear H'
    (refine X.call (Read_r (n := xs[j].1 + r'.at_) H hR (by omega)) ?_; (try clear H); rintro _ w ⟨rfl, H⟩; refine ⟨_, rfl, ?_⟩)
    generalize d.read (xs[j].1 + r'.at_) = rd at *
    repeat' (first | refine Z H ?_ | (refine Zc ?_ ?_ <;> intro hc <;> first | (exfalso; omega) | skip) | (refine Y ?_; try change C _ _ _ _ _ _) | (refine Zs H ?_; clear H; (try clear w); intro w H) | (refine Zn H ?_; clear H; (try clear w); (first | ((fail_if_success (have := bl1)); intro bl1 w H) | ((fail_if_success (have := bl2)); intro bl2 w H) | ((fail_if_success (have := bl3)); intro bl3 w H) | ((fail_if_success (have := bl4)); intro bl4 w H) | intro _ w H)) | (refine Ze H ?_; clear H; (try clear w); intro gv w H))
    have hle := Ro.Le.refl s
    subst hnx; rw [← hnum]
    refine ⟨_, resVT H rfl, s, rfl, hle, a0, c0, a1, c1, lf, a2, n2, c2, some ⟨gx, ox, none⟩, xc, ra, rc, some ⟨gl, ol, none⟩, lc, ws.set j (.slice (subAddr (some ⟨gq, oq, none⟩) tc 1 3) (ql.length + 1 - 1) (tc - 1)), some ⟨gw, 0, none⟩, wc, some ⟨gsv, 0, none⟩, vc, (RFac.disk ((hf.stepped.mono hle).push (j := j) (p := { m.parts[j] with q := rest, served := m.parts[j].served + 1 }) (hwl.mono hle)) hR), ?_⟩
    simp only [List.length_set]
    rw [svd_set]
    exact (show Holds _ _ (var bW 77 [.slice a0 d.secs.length c0, .slice a1 d.pend.length c1, .bool d.off, .int .i64 lf, .slice a2 n2 c2, .slice (some ⟨gx, ox, none⟩) xs.length xc, .slice ra rooms.length rc, .slice (some ⟨gw, 0, none⟩) m.parts.length wc, .slice (some ⟨gsv, 0, none⟩) m.parts.length vc, .slice (some ⟨gl, ol, none⟩) m.slots.length lc, .int .i64 (((m.next + 1) % m.slots.length : Nat) : Int)] :: row 89 1 (.slice (some ⟨gw, 0, none⟩) m.parts.length wc) m.parts.length (ws.set j (.slice (subAddr (some ⟨gq, oq, none⟩) tc 1 3) (ql.length + 1 - 1) (tc - 1))) :: row 41 1 (.slice (some ⟨gsv, 0, none⟩) m.parts.length vc) m.parts.length ((svd m.parts).set j (.int .u64 ((m.parts[j].served + 1 : Nat) : Int))) :: R) from H.arr)
  · have hse : serveM d xs[j] r' = ((d.write (xs[j].1 + r'.at_) r'.data).1, [], (d.write (xs[j].1 + r'.at_) r'.data).2) := by unfold serveM; rw [if_neg (by omega), if_pos hk, pwrite_at (by omega) hlie]
    rw [hse]
    generalize hdw : d.write (xs[j].1 + r'.at_) r'.data = pw at *
    obtain ⟨d1, code⟩ := pw
    dsimp only
    repeat' (first | (refine K.iaA (i := 0) rfl rfl rfl rfl rfl (by omega) ?_) | refine Z H ?_ | (refine Zc ?_ ?_ <;> intro hc <;> first | (exfalso; omega) | skip) | (refine Y ?_; try change C _ _ _ _ _ _) | (refine Zs H ?_; clear H; (try clear w); intro w H) | (refine Zn H ?_; clear H; (try clear w); (first | ((fail_if_success (have := bl1)); intro bl1 w H) | ((fail_if_success (have := bl2)); intro bl2 w H) | ((fail_if_success (have := bl3)); intro bl3 w H) | ((fail_if_success (have := bl4)); intro bl4 w H) | intro _ w H)) | (refine Ze H ?_; clear H; (try clear w); intro gv w H))
    have H' : Holds _ _ (var bl3 81 [.int .i64 (j : Int), .int .u64 ((m.parts[j].served + 1 : Nat) : Int), .string ⟨#[]⟩, .int .i64 0] :: var bl2 45 [.int .i64 r'.kind, .int .i64 r'.at_, .slice qa r'.data.length qc] :: var bl1 81 [.int .i64 0, .int .u64 0, .string ⟨#[]⟩, .int .i64 0] :: var bW 77 [.slice a0 d.secs.length c0, .slice a1 d.pend.length c1, .bool d.off, .int .i64 lf, .slice a2 n2 c2, .slice (some ⟨gx, ox, none⟩) xs.length xc, .slice ra rooms.length rc, .slice (some ⟨gw, 0, none⟩) m.parts.length wc, .slice (some ⟨gsv, 0, none⟩) m.parts.length vc, .slice (some ⟨gl, ol, none⟩) m.slots.length lc, .int .i64 (nx : Int)] :: row 89 1 (.slice (some ⟨gw, 0, none⟩) m.parts.length wc) m.parts.length (ws.set (0 + j * 1) (.slice (subAddr (some ⟨gq, oq, none⟩) tc 1 3) (ql.length + 1 - 1) (tc - 1))) :: row 41 1 (.slice (some ⟨gsv, 0, none⟩) m.parts.length vc) m.parts.length ((svd m.parts).set (0 + j * 1) (.int .u64 ((m.parts[j].served + 1 : Nat) : Int))) :: R) := H.arr
    rw [Nat.zero_add, Nat.mul_one] at H'
    clear H
    have H := H'
    clear H'
    refine C.flow (wrFS bW bl2 [.slice a0 d.secs.length c0, .slice a1 d.pend.length c1, .bool d.off, .int .i64 lf, .slice a2 n2 c2] (xs[j].1 + r'.at_) qa qc r'.data code d1) [10, 13, 14] [0, 1, 2, 3, 4, 5, 6, 7, 8, 9, 10, 11, 13, 14] H (by kernel_rfl) rfl rfl ?_ ?_
    · repeat' (first | exact StepsF.nil | refine StepsF.cons ?_ ?_)
      · intro s1 h w E hs1; (conv => whnf); intro H; replace H : Holds s1 w (var bl3 81 [.int .i64 (j : Int), .int .u64 ((m.parts[j].served + 1 : Nat) : Int), .string ⟨#[]⟩, .int .i64 0] :: var bl2 45 [.int .i64 r'.kind, .int .i64 r'.at_, .slice qa r'.data.length qc] :: var bl1 81 [.int .i64 0, .int .u64 0, .string ⟨#[]⟩, .int .i64 0] :: var bW 77 [.slice a0 d.secs.length c0, .slice a1 d.pend.length c1, .bool d.off, .int .i64 lf, .slice a2 n2 c2, .slice (some ⟨gx, ox, none⟩) xs.length xc, .slice ra rooms.length rc, .slice (some ⟨gw, 0, none⟩) m.parts.length wc, .slice (some ⟨gsv, 0, none⟩) m.parts.length vc, .slice (some ⟨gl, ol, none⟩) m.slots.length lc, .int .i64 (nx : Int)] :: row 89 1 (.slice (some ⟨gw, 0, none⟩) m.parts.length wc) m.parts.length (ws.set j (.slice (subAddr (some ⟨gq, oq, none⟩) tc 1 3) (ql.length + 1 - 1) (tc - 1))) :: row 41 1 (.slice (some ⟨gsv, 0, none⟩) m.parts.length vc) m.parts.length ((svd m.parts).set j (.int .u64 ((m.parts[j].served + 1 : Nat) : Int))) :: (R ++ E)) := H
        repeat' (first | refine Z H ?_ | (refine Zc ?_ ?_ <;> intro hc <;> first | (exfalso; omega) | skip) | (refine Y ?_; try change C _ _ _ _ _ _) | (refine Zs H ?_; clear H; (try clear w); intro w H) | (refine Zn H ?_; clear H; (try clear w); (first | ((fail_if_success (have := bl1)); intro bl1 w H) | ((fail_if_success (have := bl2)); intro bl2 w H) | ((fail_if_success (have := bl3)); intro bl3 w H) | ((fail_if_success (have := bl4)); intro bl4 w H) | intro _ w H)) | (refine Ze H ?_; clear H; (try clear w); intro gv w H))
        exact ⟨rfl, by (repeat (first | exact Agr.refl | exact Agr.hav | refine Agr.upd rfl ?_ | refine Agr.in rfl ?_)), s1, Ro.Le.refl _, rfl, H⟩
      · intro s1 h w E hs1; (conv => whnf); rintro _ rfl; (conv => whnf); intro H; replace H : Holds s1 w (var bl3 81 [.int .i64 (j : Int), .int .u64 ((m.parts[j].served + 1 : Nat) : Int), .string ⟨#[]⟩, .int .i64 0] :: var bl2 45 [.int .i64 r'.kind, .int .i64 r'.at_, .slice qa r'.data.length qc] :: var bl1 81 [.int .i64 0, .int .u64 0, .string ⟨#[]⟩, .int .i64 0] :: var bW 77 [.slice a0 d.secs.length c0, .slice a1 d.pend.length c1, .bool d.off, .int .i64 lf, .slice a2 n2 c2, .slice (some ⟨gx, ox, none⟩) xs.length xc, .slice ra rooms.length rc, .slice (some ⟨gw, 0, none⟩) m.parts.length wc, .slice (some ⟨gsv, 0, none⟩) m.parts.length vc, .slice (some ⟨gl, ol, none⟩) m.slots.length lc, .int .i64 (nx : Int)] :: row 89 1 (.slice (some ⟨gw, 0, none⟩) m.parts.length wc) m.parts.length (ws.set j (.slice (subAddr (some ⟨gq, oq, none⟩) tc 1 3) (ql.length + 1 - 1) (tc - 1))) :: row 41 1 (.slice (some ⟨gsv, 0, none⟩) m.parts.length vc) m.parts.length ((svd m.parts).set j (.int .u64 ((m.parts[j].served + 1 : Nat) : Int))) :: (R ++ E)) := H
        repeat' (first | refine Z H ?_ | (refine Zc ?_ ?_ <;> intro hc <;> first | (exfalso; omega) | skip) | (refine Y ?_; try change C _ _ _ _ _ _) | (refine Zs H ?_; clear H; (try clear w); intro w H) | (refine Zn H ?_; clear H; (try clear w); (first | ((fail_if_success (have := bl1)); intro bl1 w H) | ((fail_if_success (have := bl2)); intro bl2 w H) | ((fail_if_success (have := bl3)); intro bl3 w H) | ((fail_if_success (have := bl4)); intro bl4 w H) | intro _ w H)) | (refine Ze H ?_; clear H; (try clear w); intro gv w H))
        exact ⟨rfl, by (repeat (first | exact Agr.refl | exact Agr.hav | refine Agr.upd rfl ?_ | refine Agr.in rfl ?_)), s1, Ro.Le.refl _, rfl, H⟩
      · intro s1 h w E hs1; (conv => whnf); rintro _ rfl; (conv => whnf); intro H; replace H : Holds s1 w (var bl3 81 [.int .i64 (j : Int), .int .u64 ((m.parts[j].served + 1 : Nat) : Int), .string ⟨#[]⟩, .int .i64 0] :: var bl2 45 [.int .i64 r'.kind, .int .i64 r'.at_, .slice qa r'.data.length qc] :: var bl1 81 [.int .i64 0, .int .u64 0, .string ⟨#[]⟩, .int .i64 0] :: var bW 77 [.slice a0 d.secs.length c0, .slice a1 d.pend.length c1, .bool d.off, .int .i64 lf, .slice a2 n2 c2, .slice (some ⟨gx, ox, none⟩) xs.length xc, .slice ra rooms.length rc, .slice (some ⟨gw, 0, none⟩) m.parts.length wc, .slice (some ⟨gsv, 0, none⟩) m.parts.length vc, .slice (some ⟨gl, ol, none⟩) m.slots.length lc, .int .i64 (nx : Int)] :: row 89 1 (.slice (some ⟨gw, 0, none⟩) m.parts.length wc) m.parts.length (ws.set j (.slice (subAddr (some ⟨gq, oq, none⟩) tc 1 3) (ql.length + 1 - 1) (tc - 1))) :: row 41 1 (.slice (some ⟨gsv, 0, none⟩) m.parts.length vc) m.parts.length ((svd m.parts).set j (.int .u64 ((m.parts[j].served + 1 : Nat) : Int))) :: (R ++ E)) := H
        repeat' (first | refine Z H ?_ | (refine Zc ?_ ?_ <;> intro hc <;> first | (exfalso; omega) | skip) | (refine Y ?_; try change C _ _ _ _ _ _) | (refine Zs H ?_; clear H; (try clear w); intro w H) | (refine Zn H ?_; clear H; (try clear w); (first | ((fail_if_success (have := bl1)); intro bl1 w H) | ((fail_if_success (have := bl2)); intro bl2 w H) | ((fail_if_success (have := bl3)); intro bl3 w H) | ((fail_if_success (have := bl4)); intro bl4 w H) | intro _ w H)) | (refine Ze H ?_; clear H; (try clear w); intro gv w H))
        exact ⟨rfl, by (repeat (first | exact Agr.refl | exact Agr.hav | refine Agr.upd rfl ?_ | refine Agr.in rfl ?_)), s1, Ro.Le.refl _, rfl, H⟩
      · intro s1 h w E hs1; (conv => whnf); rintro _ rfl; (conv => whnf); intro H; replace H : Holds s1 w (var bl3 81 [.int .i64 (j : Int), .int .u64 ((m.parts[j].served + 1 : Nat) : Int), .string ⟨#[]⟩, .int .i64 0] :: var bl2 45 [.int .i64 r'.kind, .int .i64 r'.at_, .slice qa r'.data.length qc] :: var bl1 81 [.int .i64 0, .int .u64 0, .string ⟨#[]⟩, .int .i64 0] :: var bW 77 [.slice a0 d.secs.length c0, .slice a1 d.pend.length c1, .bool d.off, .int .i64 lf, .slice a2 n2 c2, .slice (some ⟨gx, ox, none⟩) xs.length xc, .slice ra rooms.length rc, .slice (some ⟨gw, 0, none⟩) m.parts.length wc, .slice (some ⟨gsv, 0, none⟩) m.parts.length vc, .slice (some ⟨gl, ol, none⟩) m.slots.length lc, .int .i64 (nx : Int)] :: row 89 1 (.slice (some ⟨gw, 0, none⟩) m.parts.length wc) m.parts.length (ws.set j (.slice (subAddr (some ⟨gq, oq, none⟩) tc 1 3) (ql.length + 1 - 1) (tc - 1))) :: row 41 1 (.slice (some ⟨gsv, 0, none⟩) m.parts.length vc) m.parts.length ((svd m.parts).set j (.int .u64 ((m.parts[j].served + 1 : Nat) : Int))) :: (R ++ E)) := H
        repeat' (first | (refine X.ldp [.slice a0 d.secs.length c0, .slice a1 d.pend.length c1, .bool d.off, .int .i64 lf, .slice a2 n2 c2] H ?_) | refine Z H ?_ | (refine Zc ?_ ?_ <;> intro hc <;> first | (exfalso; omega) | skip) | (refine Y ?_; try change C _ _ _ _ _ _) | (refine Zs H ?_; clear H; (try clear w); intro w H) | (refine Zn H ?_; clear H; (try clear w); (first | ((fail_if_success (have := bl1)); intro bl1 w H) | ((fail_if_success (have := bl2)); intro bl2 w H) | ((fail_if_success (have := bl3)); intro bl3 w H) | ((fail_if_success (have := bl4)); intro bl4 w H) | intro _ w H)) | (refine Ze H ?_; clear H; (try clear w); intro gv w H))
        exact ⟨rfl, by (repeat (first | exact Agr.refl | exact Agr.hav | refine Agr.upd rfl ?_ | refine Agr.in rfl ?_)), s1, Ro.Le.refl _, rfl, H⟩
      · intro s1 h w E hs1; (conv => whnf); intro H; replace H : Holds s1 w (var bl3 81 [.int .i64 (j : Int), .int .u64 ((m.parts[j].served + 1 : Nat) : Int), .string ⟨#[]⟩, .int .i64 0] :: var bl2 45 [.int .i64 r'.kind, .int .i64 r'.at_, .slice qa r'.data.length qc] :: var bl1 81 [.int .i64 0, .int .u64 0, .string ⟨#[]⟩, .int .i64 0] :: var bW 77 [.slice a0 d.secs.length c0, .slice a1 d.pend.length c1, .bool d.off, .int .i64 lf, .slice a2 n2 c2, .slice (some ⟨gx, ox, none⟩) xs.length xc, .slice ra rooms.length rc, .slice (some ⟨gw, 0, none⟩) m.parts.length wc, .slice (some ⟨gsv, 0, none⟩) m.parts.length vc, .slice (some ⟨gl, ol, none⟩) m.slots.length lc, .int .i64 (nx : Int)] :: row 89 1 (.slice (some ⟨gw, 0, none⟩) m.parts.length wc) m.parts.length (ws.set j (.slice (subAddr (some ⟨gq, oq, none⟩) tc 1 3) (ql.length + 1 - 1) (tc - 1))) :: row 41 1 (.slice (some ⟨gsv, 0, none⟩) m.parts.length vc) m.parts.length ((svd m.parts).set j (.int .u64 ((m.parts[j].served + 1 : Nat) : Int))) :: (R ++ E)) := H
        repeat' (first | refine Z H ?_ | (refine Zc ?_ ?_ <;> intro hc <;> first | (exfalso; omega) | skip) | (refine Y ?_; try change C _ _ _ _ _ _) | (refine Zs H ?_; clear H; (try clear w); intro w H) | (refine Zn H ?_; clear H; (try clear w); (first | ((fail_if_success (have := bl1)); intro bl1 w H) | ((fail_if_success (have := bl2)); intro bl2 w H) | ((fail_if_success (have := bl3)); intro bl3 w H) | ((fail_if_success (have := bl4)); intro bl4 w H) | intro _ w H)) | (refine Ze H ?_; clear H; (try clear w); intro gv w H))
        exact ⟨rfl, by (repeat (first | exact Agr.refl | exact Agr.hav | refine Agr.upd rfl ?_ | refine Agr.in rfl ?_)), s1, Ro.Le.refl _, rfl, H⟩
      · intro s1 h w E hs1; (conv => whnf); intro H; replace H : Holds s1 w (var bl3 81 [.int .i64 (j : Int), .int .u64 ((m.parts[j].served + 1 : Nat) : Int), .string ⟨#[]⟩, .int .i64 0] :: var bl2 45 [.int .i64 r'.kind, .int .i64 r'.at_, .slice qa r'.data.length qc] :: var bl1 81 [.int .i64 0, .int .u64 0, .string ⟨#[]⟩, .int .i64 0] :: var bW 77 [.slice a0 d.secs.length c0, .slice a1 d.pend.length c1, .bool d.off, .int .i64 lf, .slice a2 n2 c2, .slice (some ⟨gx, ox, none⟩) xs.length xc, .slice ra rooms.length rc, .slice (some ⟨gw, 0, none⟩) m.parts.length wc, .slice (some ⟨gsv, 0, none⟩) m.parts.length vc, .slice (some ⟨gl, ol, none⟩) m.slots.length lc, .int .i64 (nx : Int)] :: row 89 1 (.slice (some ⟨gw, 0, none⟩) m.parts.length wc) m.parts.length (ws.set j (.slice (subAddr (some ⟨gq, oq, none⟩) tc 1 3) (ql.length + 1 - 1) (tc - 1))) :: row 41 1 (.slice (some ⟨gsv, 0, none⟩) m.parts.length vc) m.parts.length ((svd m.parts).set j (.int .u64 ((m.parts[j].served + 1 : Nat) : Int))) :: (R ++ E)) := H
        repeat' (first | refine Z H ?_ | (refine Zc ?_ ?_ <;> intro hc <;> first | (exfalso; omega) | skip) | (refine Y ?_; try change C _ _ _ _ _ _) | (refine Zs H ?_; clear H; (try clear w); intro w H) | (refine Zn H ?_; clear H; (try clear w); (first | ((fail_if_success (have := bl1)); intro bl1 w H) | ((fail_if_success (have := bl2)); intro bl2 w H) | ((fail_if_success (have := bl3)); intro bl3 w H) | ((fail_if_success (have := bl4)); intro bl4 w H) | intro _ w H)) | (refine Ze H ?_; clear H; (try clear w); intro gv w H))
        exact ⟨rfl, by (repeat (first | exact Agr.refl | exact Agr.hav | refine Agr.upd rfl ?_ | refine Agr.in rfl ?_)), s1, Ro.Le.refl _, rfl, H⟩
      · intro s1 h w E hs1; (conv => whnf); rintro _ rfl; (conv => whnf); intro H; replace H : Holds s1 w (var bl3 81 [.int .i64 (j : Int), .int .u64 ((m.parts[j].served + 1 : Nat) : Int), .string ⟨#[]⟩, .int .i64 0] :: var bl2 45 [.int .i64 r'.kind, .int .i64 r'.at_, .slice qa r'.data.length qc] :: var bl1 81 [.int .i64 0, .int .u64 0, .string ⟨#[]⟩, .int .i64 0] :: var bW 77 [.slice a0 d.secs.length c0, .slice a1 d.pend.length c1, .bool d.off, .int .i64 lf, .slice a2 n2 c2, .slice (some ⟨gx, ox, none⟩) xs.length xc, .slice ra rooms.length rc, .slice (some ⟨gw, 0, none⟩) m.parts.length wc, .slice (some ⟨gsv, 0, none⟩) m.parts.length vc, .slice (some ⟨gl, ol, none⟩) m.slots.length lc, .int .i64 (nx : Int)] :: row 89 1 (.slice (some ⟨gw, 0, none⟩) m.parts.length wc) m.parts.length (ws.set j (.slice (subAddr (some ⟨gq, oq, none⟩) tc 1 3) (ql.length + 1 - 1) (tc - 1))) :: row 41 1 (.slice (some ⟨gsv, 0, none⟩) m.parts.length vc) m.parts.length ((svd m.parts).set j (.int .u64 ((m.parts[j].served + 1 : Nat) : Int))) :: (R ++ E)) := H
        repeat' (first | refine Z H ?_ | (refine Zc ?_ ?_ <;> intro hc <;> first | (exfalso; omega) | skip) | (refine Y ?_; try change C _ _ _ _ _ _) | (refine Zs H ?_; clear H; (try clear w); intro w H) | (refine Zn H ?_; clear H; (try clear w); (first | ((fail_if_success (have := bl1)); intro bl1 w H) | ((fail_if_success (have := bl2)); intro bl2 w H) | ((fail_if_success (have := bl3)); intro bl3 w H) | ((fail_if_success (have := bl4)); intro bl4 w H) | intro _ w H)) | (refine Ze H ?_; clear H; (try clear w); intro gv w H))
        exact ⟨rfl, by (repeat (first | exact Agr.refl | exact Agr.hav | refine Agr.upd rfl ?_ | refine Agr.in rfl ?_)), s1, Ro.Le.refl _, rfl, H⟩
      · intro s1 h w E hs1; (conv => whnf); rintro _ rfl; (conv => whnf); intro H; replace H : Holds s1 w (var bl3 81 [.int .i64 (j : Int), .int .u64 ((m.parts[j].served + 1 : Nat) : Int), .string ⟨#[]⟩, .int .i64 0] :: var bl2 45 [.int .i64 r'.kind, .int .i64 r'.at_, .slice qa r'.data.length qc] :: var bl1 81 [.int .i64 0, .int .u64 0, .string ⟨#[]⟩, .int .i64 0] :: var bW 77 [.slice a0 d.secs.length c0, .slice a1 d.pend.length c1, .bool d.off, .int .i64 lf, .slice a2 n2 c2, .slice (some ⟨gx, ox, none⟩) xs.length xc, .slice ra rooms.length rc, .slice (some ⟨gw, 0, none⟩) m.parts.length wc, .slice (some ⟨gsv, 0, none⟩) m.parts.length vc, .slice (some ⟨gl, ol, none⟩) m.slots.length lc, .int .i64 (nx : Int)] :: row 89 1 (.slice (some ⟨gw, 0, none⟩) m.parts.length wc) m.parts.length (ws.set j (.slice (subAddr (some ⟨gq, oq, none⟩) tc 1 3) (ql.length + 1 - 1) (tc - 1))) :: row 41 1 (.slice (some ⟨gsv, 0, none⟩) m.parts.length vc) m.parts.length ((svd m.parts).set j (.int .u64 ((m.parts[j].served + 1 : Nat) : Int))) :: (R ++ E)) := H
        have hdat1 := hdat.mono hs1
        repeat' (first | refine Z H ?_ | (refine Zc ?_ ?_ <;> intro hc <;> first | (exfalso; omega) | skip) | (refine Y ?_; try change C _ _ _ _ _ _) | (refine Zs H ?_; clear H; (try clear w); intro w H) | (refine Zn H ?_; clear H; (try clear w); (first | ((fail_if_success (have := bl1)); intro bl1 w H) | ((fail_if_success (have := bl2)); intro bl2 w H) | ((fail_if_success (have := bl3)); intro bl3 w H) | ((fail_if_success (have := bl4)); intro bl4 w H) | intro _ w H)) | (refine Ze H ?_; clear H; (try clear w); intro gv w H))
        exact ⟨rfl, by (repeat (first | exact Agr.refl | exact Agr.hav | refine Agr.upd rfl ?_ | refine Agr.in rfl ?_)), s1, Ro.Le.refl _, rfl, H⟩
      · intro s1 h w E hs1; (conv => whnf); rintro _ rfl; (conv => whnf); rintro _ rfl; (conv => whnf); rintro _ rfl; (conv => whnf); intro H; replace H : Holds s1 w (var bl3 81 [.int .i64 (j : Int), .int .u64 ((m.parts[j].served + 1 : Nat) : Int), .string ⟨#[]⟩, .int .i64 0] :: var bl2 45 [.int .i64 r'.kind, .int .i64 r'.at_, .slice qa r'.data.length qc] :: var bl1 81 [.int .i64 0, .int .u64 0, .string ⟨#[]⟩, .int .i64 0] :: var bW 77 [.slice a0 d.secs.length c0, .slice a1 d.pend.length c1, .bool d.off, .int .i64 lf, .slice a2 n2 c2, .slice (some ⟨gx, ox, none⟩) xs.length xc, .slice ra rooms.length rc, .slice (some ⟨gw, 0, none⟩) m.parts.length wc, .slice (some ⟨gsv, 0, none⟩) m.parts.length vc, .slice (some ⟨gl, ol, none⟩) m.slots.length lc, .int .i64 (nx : Int)] :: row 89 1 (.slice (some ⟨gw, 0, none⟩) m.parts.length wc) m.parts.length (ws.set j (.slice (subAddr (some ⟨gq, oq, none⟩) tc 1 3) (ql.length + 1 - 1) (tc - 1))) :: row 41 1 (.slice (some ⟨gsv, 0, none⟩) m.parts.length vc) m.parts.length ((svd m.parts).set j (.int .u64 ((m.parts[j].served + 1 : Nat) : Int))) :: (R ++ E)) := H
        have hWr := Write_r (n := xs[j].1 + r'.at_) (b := r'.data) H (hR.mono hs1) (by omega) (by omega)
        rw [hdw] at hWr
        dsimp only at hWr
        (refine X.call (hWr) ?_; (try clear H); rintro _ w ⟨s2, v1, rfl, hs2, hR1, H⟩; refine ⟨_, rfl, ?_⟩)
        repeat' (first | refine Z H ?_ | (refine Zc ?_ ?_ <;> intro hc <;> first | (exfalso; omega) | skip) | (refine Y ?_; try change C _ _ _ _ _ _) | (refine Zs H ?_; clear H; (try clear w); intro w H) | (refine Zn H ?_; clear H; (try clear w); (first | ((fail_if_success (have := bl1)); intro bl1 w H) | ((fail_if_success (have := bl2)); intro bl2 w H) | ((fail_if_success (have := bl3)); intro bl3 w H) | ((fail_if_success (have := bl4)); intro bl4 w H) | intro _ w H)) | (refine Ze H ?_; clear H; (try clear w); intro gv w H))
        exact ⟨rfl, by (repeat (first | exact Agr.refl | exact Agr.hav | refine Agr.upd rfl ?_ | refine Agr.in rfl ?_)), s2, hs2, ⟨v1, rfl, hR1⟩, H⟩
      · intro s1 h w E hs1; (conv => whnf); rintro _ ⟨v1, rfl, hR1⟩; (conv => whnf); intro H; replace H : Holds s1 w (var bl3 81 [.int .i64 (j : Int), .int .u64 ((m.parts[j].served + 1 : Nat) : Int), .string ⟨#[]⟩, .int .i64 0] :: var bl2 45 [.int .i64 r'.kind, .int .i64 r'.at_, .slice qa r'.data.length qc] :: var bl1 81 [.int .i64 0, .int .u64 0, .string ⟨#[]⟩, .int .i64 0] :: var bW 77 [.slice a0 d.secs.length c0, .slice a1 d.pend.length c1, .bool d.off, .int .i64 lf, .slice a2 n2 c2, .slice (some ⟨gx, ox, none⟩) xs.length xc, .slice ra rooms.length rc, .slice (some ⟨gw, 0, none⟩) m.parts.length wc, .slice (some ⟨gsv, 0, none⟩) m.parts.length vc, .slice (some ⟨gl, ol, none⟩) m.slots.length lc, .int .i64 (nx : Int)] :: row 89 1 (.slice (some ⟨gw, 0, none⟩) m.parts.length wc) m.parts.length (ws.set j (.slice (subAddr (some ⟨gq, oq, none⟩) tc 1 3) (ql.length + 1 - 1) (tc - 1))) :: row 41 1 (.slice (some ⟨gsv, 0, none⟩) m.parts.length vc) m.parts.length ((svd m.parts).set j (.int .u64 ((m.parts[j].served + 1 : Nat) : Int))) :: (R ++ E)) := H
        repeat' (first | refine Z H ?_ | (refine Zc ?_ ?_ <;> intro hc <;> first | (exfalso; omega) | skip) | (refine Y ?_; try change C _ _ _ _ _ _) | (refine Zs H ?_; clear H; (try clear w); intro w H) | (refine Zn H ?_; clear H; (try clear w); (first | ((fail_if_success (have := bl1)); intro bl1 w H) | ((fail_if_success (have := bl2)); intro bl2 w H) | ((fail_if_success (have := bl3)); intro bl3 w H) | ((fail_if_success (have := bl4)); intro bl4 w H) | intro _ w H)) | (refine Ze H ?_; clear H; (try clear w); intro gv w H))
        exact ⟨rfl, by (repeat (first | exact Agr.refl | exact Agr.hav | refine Agr.upd rfl ?_ | refine Agr.in rfl ?_)), s1, Ro.Le.refl _, ⟨v1, rfl, hR1⟩, H⟩
      · intro s1 h w E hs1; (conv => whnf); rintro _ ⟨v1, rfl, hR1⟩; (conv => whnf); intro H; replace H : Holds s1 w (var bl3 81 [.int .i64 (j : Int), .int .u64 ((m.parts[j].served + 1 : Nat) : Int), .string ⟨#[]⟩, .int .i64 0] :: var bl2 45 [.int .i64 r'.kind, .int .i64 r'.at_, .slice qa r'.data.length qc] :: var bl1 81 [.int .i64 0, .int .u64 0, .string ⟨#[]⟩, .int .i64 0] :: var bW 77 [.slice a0 d.secs.length c0, .slice a1 d.pend.length c1, .bool d.off, .int .i64 lf, .slice a2 n2 c2, .slice (some ⟨gx, ox, none⟩) xs.length xc, .slice ra rooms.length rc, .slice (some ⟨gw, 0, none⟩) m.parts.length wc, .slice (some ⟨gsv, 0, none⟩) m.parts.length vc, .slice (some ⟨gl, ol, none⟩) m.slots.length lc, .int .i64 (nx : Int)] :: row 89 1 (.slice (some ⟨gw, 0, none⟩) m.parts.length wc) m.parts.length (ws.set j (.slice (subAddr (some ⟨gq, oq, none⟩) tc 1 3) (ql.length + 1 - 1) (tc - 1))) :: row 41 1 (.slice (some ⟨gsv, 0, none⟩) m.parts.length vc) m.parts.length ((svd m.parts).set j (.int .u64 ((m.parts[j].served + 1 : Nat) : Int))) :: (R ++ E)) := H
        repeat' (first | refine Z H ?_ | (refine Zc ?_ ?_ <;> intro hc <;> first | (exfalso; omega) | skip) | (refine Y ?_; try change C _ _ _ _ _ _) | (refine Zs H ?_; clear H; (try clear w); intro w H) | (refine Zn H ?_; clear H; (try clear w); (first | ((fail_if_success (have := bl1)); intro bl1 w H) | ((fail_if_success (have := bl2)); intro bl2 w H) | ((fail_if_success (have := bl3)); intro bl3 w H) | ((fail_if_success (have := bl4)); intro bl4 w H) | intro _ w H)) | (refine Ze H ?_; clear H; (try clear w); intro gv w H))
        exact ⟨rfl, by (repeat (first | exact Agr.refl | exact Agr.hav | refine Agr.upd rfl ?_ | refine Agr.in rfl ?_)), s1, Ro.Le.refl _, hR1, H⟩
      · intro s1 h w E hs1; (conv => whnf); rintro _ ⟨v1, rfl, hR1⟩; (conv => whnf); intro H; replace H : Holds s1 w (var bl3 81 [.int .i64 (j : Int), .int .u64 ((m.parts[j].served + 1 : Nat) : Int), .string ⟨#[]⟩, .int .i64 0] :: var bl2 45 [.int .i64 r'.kind, .int .i64 r'.at_, .slice qa r'.data.length qc] :: var bl1 81 [.int .i64 0, .int .u64 0, .string ⟨#[]⟩, .int .i64 0] :: var bW 77 [.slice a0 d.secs.length c0, .slice a1 d.pend.length c1, .bool d.off, .int .i64 lf, .slice a2 n2 c2, .slice (some ⟨gx, ox, none⟩) xs.length xc, .slice ra rooms.length rc, .slice (some ⟨gw, 0, none⟩) m.parts.length wc, .slice (some ⟨gsv, 0, none⟩) m.parts.length vc, .slice (some ⟨gl, ol, none⟩) m.slots.length lc, .int .i64 (nx : Int)] :: row 89 1 (.slice (some ⟨gw, 0, none⟩) m.parts.length wc) m.parts.length (ws.set j (.slice (subAddr (some ⟨gq, oq, none⟩) tc 1 3) (ql.length + 1 - 1) (tc - 1))) :: row 41 1 (.slice (some ⟨gsv, 0, none⟩) m.parts.length vc) m.parts.length ((svd m.parts).set j (.int .u64 ((m.parts[j].served + 1 : Nat) : Int))) :: (R ++ E)) := H
        repeat' (first | refine Z H ?_ | (refine Zc ?_ ?_ <;> intro hc <;> first | (exfalso; omega) | skip) | (refine Y ?_; try change C _ _ _ _ _ _) | (refine Zs H ?_; clear H; (try clear w); intro w H) | (refine Zn H ?_; clear H; (try clear w); (first | ((fail_if_success (have := bl1)); intro bl1 w H) | ((fail_if_success (have := bl2)); intro bl2 w H) | ((fail_if_success (have := bl3)); intro bl3 w H) | ((fail_if_success (have := bl4)); intro bl4 w H) | intro _ w H)) | (refine Ze H ?_; clear H; (try clear w); intro gv w H))
        exact ⟨rfl, by (repeat (first | exact Agr.refl | exact Agr.hav | refine Agr.upd rfl ?_ | refine Agr.in rfl ?_)), s1, Ro.Le.refl _, rfl, H⟩
      · intro s1 h w E hs1; (conv => whnf); intro H; replace H : Holds s1 w (var bl3 81 [.int .i64 (j : Int), .int .u64 ((m.parts[j].served + 1 : Nat) : Int), .string ⟨#[]⟩, .int .i64 0] :: var bl2 45 [.int .i64 r'.kind, .int .i64 r'.at_, .slice qa r'.data.length qc] :: var bl1 81 [.int .i64 0, .int .u64 0, .string ⟨#[]⟩, .int .i64 0] :: var bW 77 [.slice a0 d.secs.length c0, .slice a1 d.pend.length c1, .bool d.off, .int .i64 lf, .slice a2 n2 c2, .slice (some ⟨gx, ox, none⟩) xs.length xc, .slice ra rooms.length rc, .slice (some ⟨gw, 0, none⟩) m.parts.length wc, .slice (some ⟨gsv, 0, none⟩) m.parts.length vc, .slice (some ⟨gl, ol, none⟩) m.slots.length lc, .int .i64 (nx : Int)] :: row 89 1 (.slice (some ⟨gw, 0, none⟩) m.parts.length wc) m.parts.length (ws.set j (.slice (subAddr (some ⟨gq, oq, none⟩) tc 1 3) (ql.length + 1 - 1) (tc - 1))) :: row 41 1 (.slice (some ⟨gsv, 0, none⟩) m.parts.length vc) m.parts.length ((svd m.parts).set j (.int .u64 ((m.parts[j].served + 1 : Nat) : Int))) :: (R ++ E)) := H
        repeat' (first | refine Z H ?_ | (refine Zc ?_ ?_ <;> intro hc <;> first | (exfalso; omega) | skip) | (refine Y ?_; try change C _ _ _ _ _ _) | (refine Zs H ?_; clear H; (try clear w); intro w H) | (refine Zn H ?_; clear H; (try clear w); (first | ((fail_if_success (have := bl1)); intro bl1 w H) | ((fail_if_success (have := bl2)); intro bl2 w H) | ((fail_if_success (have := bl3)); intro bl3 w H) | ((fail_if_success (have := bl4)); intro bl4 w H) | intro _ w H)) | (refine Ze H ?_; clear H; (try clear w); intro gv w H))
        exact ⟨rfl, by (repeat (first | exact Agr.refl | exact Agr.hav | refine Agr.upd rfl ?_ | refine Agr.in rfl ?_)), s1, Ro.Le.refl _, ⟨bl4, rfl⟩, H⟩
      · intro s1 h w E hs1; (conv => whnf)
        rintro _ ⟨b4, rfl⟩; (conv => whnf)
        rintro v1 hR1; (conv => whnf)
        obtain ⟨b0, k0, b1, k1, lf1, b2, m2, k2, rfl⟩ := hR1.cells'
        intro H
        replace H : Holds s1 w (var b4 63 [.slice none 0 0, .slice none 0 0, .bool false, .int .i64 0, .slice none 0 0] :: var bl3 81 [.int .i64 (j : Int), .int .u64 ((m.parts[j].served + 1 : Nat) : Int), .string ⟨#[]⟩, .int .i64 0] :: var bl2 45 [.int .i64 r'.kind, .int .i64 r'.at_, .slice qa r'.data.length qc] :: var bl1 81 [.int .i64 0, .int .u64 0, .string ⟨#[]⟩, .int .i64 0] :: var bW 77 [.slice a0 d.secs.length c0, .slice a1 d.pend.length c1, .bool d.off, .int .i64 lf, .slice a2 n2 c2, .slice (some ⟨gx, ox, none⟩) xs.length xc, .slice ra rooms.length rc, .slice (some ⟨gw, 0, none⟩) m.parts.length wc, .slice (some ⟨gsv, 0, none⟩) m.parts.length vc, .slice (some ⟨gl, ol, none⟩) m.slots.length lc, .int .i64 (nx : Int)] :: row 89 1 (.slice (some ⟨gw, 0, none⟩) m.parts.length wc) m.parts.length (ws.set j (.slice (subAddr (some ⟨gq, oq, none⟩) tc 1 3) (ql.length + 1 - 1) (tc - 1))) :: row 41 1 (.slice (some ⟨gsv, 0, none⟩) m.parts.length vc) m.parts.length ((svd m.parts).set j (.int .u64 ((m.parts[j].served + 1 : Nat) : Int))) :: (R ++ E)) := H
        repeat' (first | refine Z H ?_ | (refine Zc ?_ ?_ <;> intro hc <;> first | (exfalso; omega) | skip) | (refine Y ?_; try change C _ _ _ _ _ _) | (refine Zs H ?_; clear H; (try clear w); intro w H) | (refine Zn H ?_; clear H; (try clear w); (first | ((fail_if_success (have := bl1)); intro bl1 w H) | ((fail_if_success (have := bl2)); intro bl2 w H) | ((fail_if_success (have := bl3)); intro bl3 w H) | ((fail_if_success (have := bl4)); intro bl4 w H) | intro _ w H)) | (refine Ze H ?_; clear H; (try clear w); intro gv w H))
        exact ⟨rfl, by (repeat (first | exact Agr.refl | exact Agr.hav | refine Agr.upd rfl ?_ | refine Agr.in rfl ?_)), s1, Ro.Le.refl _, ⟨b4, rfl⟩, H⟩
      · intro s1 h w E hs1; (conv => whnf); rintro _ rfl; (conv => whnf); intro H; replace H : Holds s1 w (var bl3 81 [.int .i64 (j : Int), .int .u64 ((m.parts[j].served + 1 : Nat) : Int), .string ⟨#[]⟩, .int .i64 0] :: var bl2 45 [.int .i64 r'.kind, .int .i64 r'.at_, .slice qa r'.data.length qc] :: var bl1 81 [.int .i64 0, .int .u64 0, .string ⟨#[]⟩, .int .i64 0] :: var bW 77 [.slice a0 d.secs.length c0, .slice a1 d.pend.length c1, .bool d.off, .int .i64 lf, .slice a2 n2 c2, .slice (some ⟨gx, ox, none⟩) xs.length xc, .slice ra rooms.length rc, .slice (some ⟨gw, 0, none⟩) m.parts.length wc, .slice (some ⟨gsv, 0, none⟩) m.parts.length vc, .slice (some ⟨gl, ol, none⟩) m.slots.length lc, .int .i64 (nx : Int)] :: row 89 1 (.slice (some ⟨gw, 0, none⟩) m.parts.length wc) m.parts.length (ws.set j (.slice (subAddr (some ⟨gq, oq, none⟩) tc 1 3) (ql.length + 1 - 1) (tc - 1))) :: row 41 1 (.slice (some ⟨gsv, 0, none⟩) m.parts.length vc) m.parts.length ((svd m.parts).set j (.int .u64 ((m.parts[j].served + 1 : Nat) : Int))) :: (R ++ E)) := H
        repeat' (first | refine Z H ?_ | (refine Zc ?_ ?_ <;> intro hc <;> first | (exfalso; omega) | skip) | (refine Y ?_; try change C _ _ _ _ _ _) | (refine Zs H ?_; clear H; (try clear w); intro w H) | (refine Zn H ?_; clear H; (try clear w); (first | ((fail_if_success (have := bl1)); intro bl1 w H) | ((fail_if_success (have := bl2)); intro bl2 w H) | ((fail_if_success (have := bl3)); intro bl3 w H) | ((fail_if_success (have := bl4)); intro bl4 w H) | intro _ w H)) | (refine Ze H ?_; clear H; (try clear w); intro gv w H))
        exact ⟨rfl, by (repeat (first | exact Agr.refl | exact Agr.hav | refine Agr.upd rfl ?_ | refine Agr.in rfl ?_)), s1, Ro.Le.refl _, rfl, H⟩
    · intro s4 h w hs4; (conv => whnf)
      rintro v1 hR1; (conv => whnf)
      obtain ⟨b0, k0, b1, k1, lf1, b2, m2, k2, rfl⟩ := hR1.cells'
      rintro _ ⟨b4, rfl⟩; (conv => whnf)
      rintro _ rfl; (conv => whnf)
      intro H
      replace H : Holds s4 w (var b4 63 [.slice b0 d1.secs.length k0, .slice b1 d1.pend.length k1, .bool d1.off, .int .i64 lf1, .slice b2 m2 k2] :: var bl3 81 [.int .i64 (j : Int), .int .u64 ((m.parts[j].served + 1 : Nat) : Int), .string ⟨#[]⟩, .int .i64 0] :: var bl2 45 [.int .i64 r'.kind, .int .i64 r'.at_, .slice qa r'.data.length qc] :: var bl1 81 [.int .i64 0, .int .u64 0, .string ⟨#[]⟩, .int .i64 0] :: var bW 77 [.slice a0 d.secs.length c0, .slice a1 d.pend.length c1, .bool d.off, .int .i64 lf, .slice a2 n2 c2, .slice (some ⟨gx, ox, none⟩) xs.length xc, .slice ra rooms.length rc, .slice (some ⟨gw, 0, none⟩) m.parts.length wc, .slice (some ⟨gsv, 0, none⟩) m.parts.length vc, .slice (some ⟨gl, ol, none⟩) m.slots.length lc, .int .i64 (nx : Int)] :: row 89 1 (.slice (some ⟨gw, 0, none⟩) m.parts.length wc) m.parts.length (ws.set j (.slice (subAddr (some ⟨gq, oq, none⟩) tc 1 3) (ql.length + 1 - 1) (tc - 1))) :: row 41 1 (.slice (some ⟨gsv, 0, none⟩) m.parts.length vc) m.parts.length ((svd m.parts).set j (.int .u64 ((m.parts[j].served + 1 : Nat) : Int))) :: R) := H
      refine L.nil ⟨rfl, ?_⟩
      repeat' (first | (refine X.stp [.slice b0 d1.secs.length k0, .slice b1 d1.pend.length k1, .bool d1.off, .int .i64 lf1, .slice b2 m2 k2, .slice (some ⟨gx, ox, none⟩) xs.length xc, .slice ra rooms.length rc, .slice (some ⟨gw, 0, none⟩) m.parts.length wc, .slice (some ⟨gsv, 0, none⟩) m.parts.length vc, .slice (some ⟨gl, ol, none⟩) m.slots.length lc, .int .i64 (nx : Int)] H ?_; clear H; intro w H) | refine Z H ?_ | (refine Zc ?_ ?_ <;> intro hc <;> first | (exfalso; omega) | skip) | (refine Y ?_; try change C _ _ _ _ _ _) | (refine Zs H ?_; clear H; (try clear w); intro w H) | (refine Zn H ?_; clear H; (try clear w); (first | ((fail_if_success (have := bl1)); intro bl1 w H) | ((fail_if_success (have := bl2)); intro bl2 w H) | ((fail_if_success (have := bl3)); intro bl3 w H) | ((fail_if_success (have := bl4)); intro bl4 w H) | intro _ w H)) | (refine Ze H ?_; clear H; (try clear w); intro gv w H))
      have hle := hs4
      subst hnx; rw [← hnum]
      refine ⟨_, resVT H rfl, s4, rfl, hle, b0, k0, b1, k1, lf1, b2, m2, k2, some ⟨gx, ox, none⟩, xc, ra, rc, some ⟨gl, ol, none⟩, lc, ws.set j (.slice (subAddr (some ⟨gq, oq, none⟩) tc 1 3) (ql.length + 1 - 1) (tc - 1)), some ⟨gw, 0, none⟩, wc, some ⟨gsv, 0, none⟩, vc, (RFac.disk ((hf.stepped.mono hle).push (j := j) (p := { m.parts[j] with q := rest, served := m.parts[j].served + 1 }) (hwl.mono hle)) hR1), ?_⟩
      simp only [List.length_set]
      rw [svd_set]
      exact (show Holds _ _ (var bW 77 [.slice b0 d1.secs.length k0, .slice b1 d1.pend.length k1, .bool d1.off, .int .i64 lf1, .slice b2 m2 k2, .slice (some ⟨gx, ox, none⟩) xs.length xc, .slice ra rooms.length rc, .slice (some ⟨gw, 0, none⟩) m.parts.length wc, .slice (some ⟨gsv, 0, none⟩) m.parts.length vc, .slice (some ⟨gl, ol, none⟩) m.slots.length lc, .int .i64 (((m.next + 1) % m.slots.length : Nat) : Int)] :: row 89 1 (.slice (some ⟨gw, 0, none⟩) m.parts.length wc) m.parts.length (ws.set j (.slice (subAddr (some ⟨gq, oq, none⟩) tc 1 3) (ql.length + 1 - 1) (tc - 1))) :: row 41 1 (.slice (some ⟨gsv, 0, none⟩) m.parts.length vc) m.parts.length ((svd m.parts).set j (.int .u64 ((m.parts[j].served + 1 : Nat) : Int))) :: R) from H.arr)
  · have hse : serveM d xs[j] r' = (d.flush.1, [], d.flush.2) := by unfold serveM; rw [if_neg (by omega), if_neg (by omega)]
    rw [hse]
    generalize hdw : d.flush = pw at *
    obtain ⟨d1, code⟩ := pw
    dsimp only
    repeat' (first | (refine K.iaA (i := 0) rfl rfl rfl rfl rfl (by omega) ?_) | (refine X.ldp [.slice a0 d.secs.length c0, .slice a1 d.pend.length c1, .bool d.off, .int .i64 lf, .slice a2 n2 c2] H ?_) | refine Z H ?_ | (refine Zc ?_ ?_ <;> intro hc <;> first | (exfalso; omega) | skip) | (refine Y ?_; try change C _ _ _ _ _ _) | (refine Zs H ?_; clear H; (try clear w); intro w H) | (refine Zn H ?_; clear H; (try clear w); (first | ((fail_if_success (have := bl1)); intro bl1 w H) | ((fail_if_success (have := bl2)); intro bl2 w H) | ((fail_if_success (have := bl3)); intro bl3 w H) | ((fail_if_success (have := bl4)); intro bl4 w H) | intro _ w H)) | (refine Ze H ?_; clear H; (try clear w); intro gv w H))
    have H' : Holds _ _ (var bl3 81 [.int .i64 (j : Int), .int .u64 ((m.parts[j].served + 1 : Nat) : Int), .string ⟨#[]⟩, .int .i64 0] :: var bl2 45 [.int .i64 r'.kind, .int .i64 r'.at_, .slice qa r'.data.length qc] :: var bl1 81 [.int .i64 0, .int .u64 0, .string ⟨#[]⟩, .int .i64 0] :: var bW 77 [.slice a0 d.secs.length c0, .slice a1 d.pend.length c1, .bool d.off, .int .i64 lf, .slice a2 n2 c2, .slice (some ⟨gx, ox, none⟩) xs.length xc, .slice ra rooms.length rc, .slice (some ⟨gw, 0, none⟩) m.parts.length wc, .slice (some ⟨gsv, 0, none⟩) m.parts.length vc, .slice (some ⟨gl, ol, none⟩) m.slots.length lc, .int .i64 (nx : Int)] :: row 89 1 (.slice (some ⟨gw, 0, none⟩) m.parts.length wc) m.parts.length (ws.set (0 + j * 1) (.slice (subAddr (some ⟨gq, oq, none⟩) tc 1 3) (ql.length + 1 - 1) (tc - 1))) :: row 41 1 (.slice (some ⟨gsv, 0, none⟩) m.parts.length vc) m.parts.length ((svd m.parts).set (0 + j * 1) (.int .u64 ((m.parts[j].served + 1 : Nat) : Int))) :: R) := H.arr
    rw [Nat.zero_add, Nat.mul_one] at H'
    clear H
    have H := H'
    clear H'
    have hFl := Flush_r H hR (by omega)
    rw [hdw] at hFl
    dsimp only at hFl
    (refine X.call (hFl) ?_; (try clear H); rintro _ w ⟨s4, v1, rfl, hs4, hR1, H⟩; refine ⟨_, rfl, ?_⟩)
    obtain ⟨b0, k0, b1, k1, lf1, b2, m2, k2, rfl⟩ := hR1.cells'
    repeat' (first | (refine X.stp [.slice b0 d1.secs.length k0, .slice b1 d1.pend.length k1, .bool d1.off, .int .i64 lf1, .slice b2 m2 k2, .slice (some ⟨gx, ox, none⟩) xs.length xc, .slice ra rooms.length rc, .slice (some ⟨gw, 0, none⟩) m.parts.length wc, .slice (some ⟨gsv, 0, none⟩) m.parts.length vc, .slice (some ⟨gl, ol, none⟩) m.slots.length lc, .int .i64 (nx : Int)] H ?_; clear H; intro w H) | refine Z H ?_ | (refine Zc ?_ ?_ <;> intro hc <;> first | (exfalso; omega) | skip) | (refine Y ?_; try change C _ _ _ _ _ _) | (refine Zs H ?_; clear H; (try clear w); intro w H) | (refine Zn H ?_; clear H; (try clear w); (first | ((fail_if_success (have := bl1)); intro bl1 w H) | ((fail_if_success (have := bl2)); intro bl2 w H) | ((fail_if_success (have := bl3)); intro bl3 w H) | ((fail_if_success (have := bl4)); intro bl4 w H) | intro _ w H)) | (refine Ze H ?_; clear H; (try clear w); intro gv w H))
    have hle := hs4
    subst hnx; rw [← hnum]
    refine ⟨_, resVT H rfl, s4, rfl, hle, b0, k0, b1, k1, lf1, b2, m2, k2, some ⟨gx, ox, none⟩, xc, ra, rc, some ⟨gl, ol, none⟩, lc, ws.set j (.slice (subAddr (some ⟨gq, oq, none⟩) tc 1 3) (ql.length + 1 - 1) (tc - 1)), some ⟨gw, 0, none⟩, wc, some ⟨gsv, 0, none⟩, vc, (RFac.disk ((hf.stepped.mono hle).push (j := j) (p := { m.parts[j] with q := rest, served := m.parts[j].served + 1 }) (hwl.mono hle)) hR1), ?_⟩
    simp only [List.length_set]
    rw [svd_set]
    exact (show Holds _ _ (var bW 77 [.slice b0 d1.secs.length k0, .slice b1 d1.pend.length k1, .bool d1.off, .int .i64 lf1, .slice b2 m2 k2, .slice (some ⟨gx, ox, none⟩) xs.length xc, .slice ra rooms.length rc, .slice (some ⟨gw, 0, none⟩) m.parts.length wc, .slice (some ⟨gsv, 0, none⟩) m.parts.length vc, .slice (some ⟨gl, ol, none⟩) m.slots.length lc, .int .i64 (((m.next + 1) % m.slots.length : Nat) : Int)] :: row 89 1 (.slice (some ⟨gw, 0, none⟩) m.parts.length wc) m.parts.length (ws.set j (.slice (subAddr (some ⟨gq, oq, none⟩) tc 1 3) (ql.length + 1 - 1) (tc - 1))) :: row 41 1 (.slice (some ⟨gsv, 0, none⟩) m.parts.length vc) m.parts.length ((svd m.parts).set j (.int .u64 ((m.parts[j].served + 1 : Nat) : Int))) :: R) from H.arr)
end
end Go.Proofs.Ytmcojfpomejnnaa

/- iosched.Ask. -/
import Derived.Test.YtmcojfpomejnnaaNdTy2
set_option linter.unusedSimpArgs false
set_option linter.unusedVariables false
namespace Go.Proofs.Ytmcojfpomejnnaa
open Go Go.RowKit Go.Own
theorem putL_same {xs ys : List Value} {off : Nat} (h : off + ys.length ≤ xs.length) : ((putL xs off ys).drop off).take ys.length = ys := by
  apply List.ext_getElem?
  intro q
  rw [List.getElem?_take]
  split
  · rw [List.getElem?_drop, putL_get h, if_pos (by omega), Nat.add_sub_cancel_left]
  · rw [List.getElem?_eq_none (by omega)]
theorem putL_other {xs ys : List Value} {off o k : Nat} (h : off + ys.length ≤ xs.length) (hd : o + k ≤ off ∨ off + ys.length ≤ o) : ((putL xs off ys).drop o).take k = (xs.drop o).take k := by
  apply List.ext_getElem?
  intro q
  rw [List.getElem?_take, List.getElem?_take]
  split
  · rw [List.getElem?_drop, List.getElem?_drop, putL_get h, if_neg (by omega)]
  · rfl
theorem formed_k {k a : Int} {n : Nat} (h : formedM k a n = true) : 0 ≤ k ∧ k ≤ 2 := by
  unfold formedM at h
  split at h
  · omega
  · split at h
    · omega
    · split at h
      · omega
      · cases h
theorem mod_ne {f k c : Nat} (hk : k < c) (hc : c < 16) : (f + k) % 16 ≠ (f + c) % 16 := by omega
theorem SM.set_self (m : SM) (j : Nat) (h : j < m.parts.length) : ({ m with parts := m.parts.set j m.parts[j] } : SM) = m := by
  rw [List.set_getElem_self]
theorem ask_at {m : SM} {j : Nat} (h : j < m.parts.length) (k a : Int) (l : List UInt8) : m.ask (j : Int) k a l = ({ m with parts := m.parts.set j (askP m.parts[j] k a l).1 }, (askP m.parts[j] k a l).2) := by
  unfold SM.ask
  rw [if_pos (by omega), Int.toNat_natCast, List.getElem?_eq_getElem h]
theorem ask_far {m : SM} {i : Int} (h : ¬ (0 ≤ i ∧ i < (m.parts.length : Int))) (k a : Int) (l : List UInt8) : m.ask i k a l = (m, 0, 6) := by
  unfold SM.ask
  split
  · rw [List.getElem?_eq_none (by omega)]
  · rfl
theorem ask_same {m : SM} {j : Nat} (h : j < m.parts.length) {k a : Int} {l : List UInt8} {c : Int} (he : askP m.parts[j] k a l = (m.parts[j], 0, c)) : m.ask (j : Int) k a l = (m, 0, c) := by
  rw [ask_at h, he, SM.set_self]
section
variable {s : Ro} {w : World} {R : List Asn} {b bS : Nat} {m : SM} {k a i : Int} {da : Option Addr} {dc : Nat} {l : List UInt8}
theorem PRep.push {p : Pr} {pm : PM} {aa : Option Addr} {cc : Nat} {x : Ext} (h : PRep s b p pm) (hx : pm.ext = some x) (hr : ¬ pm.room ≤ (pm.q.length : Int)) (hd : SlS s (.slice aa l.length cc) 1 l.length (u8s l)) (hq : (Rq.mk (pm.last + 1) k a l).ok) :
    PRep s b (({ p with last := p.last + 1 } : Pr).push (p.last + 1) k a (.slice aa l.length cc)) { pm with last := pm.last + 1, q := pm.q ++ [⟨pm.last + 1, k, a, l⟩] } := by
  have hc := h.cnt
  have h16 := h.r1
  have hlen := h.ok.len
  have hm : (p.first + p.count) % 16 < 16 := Nat.mod_lt _ (by decide)
  have hok1 : ({ p with last := p.last + 1 } : Pr).Ok := ⟨h.ok.len, h.ok.one, h.ok.f16, h.ok.c16⟩
  refine ⟨hok1.push (by simp only; omega) rfl, ?_, h.room, h.r1, by simp only [Pr.push]; rw [h.last], h.served, by simp [Pr.push, hc], ?_, fun q hq => ?_⟩
  · rcases h.pv with ⟨h1, _⟩ | h1
    · rw [hx] at h1; cases h1
    · exact .inr h1
  · intro r hr
    rcases List.mem_append.1 hr with h' | h'
    · exact h.qok r h'
    · simp only [List.mem_singleton] at h'; rw [h']; exact hq
  · simp only [Pr.push]
    simp only [List.length_append, List.length_cons, List.length_nil] at hq
    by_cases hlt : q < pm.q.length
    · obtain ⟨da, dc, h1, h2⟩ := h.its q hlt
      rw [List.getElem_append_left hlt]
      refine ⟨da, dc, ?_, h2⟩
      rw [← h1]
      have hne := mod_ne (f := p.first) (k := q) (c := p.count) (by omega) (by omega)
      have hm2 : (p.first + q) % 16 < 16 := Nat.mod_lt _ (by decide)
      exact putL_other (by simp [askC]; omega) (by simp [askC]; omega)
    · have : q = pm.q.length := by omega
      subst this
      rw [List.getElem_append_right (Nat.le_refl _)]
      simp only [Nat.sub_self, List.getElem_cons_zero]
      refine ⟨aa, cc, ?_, hd⟩
      rw [← hc, ← h.last]
      exact putL_same (ys := askC (p.last + 1) k a (.slice aa l.length cc)) (by simp [askC]; omega)
theorem build_asked (n : Nat) (k a : Int) (da : Option Addr) (dn dc : Nat) (w : World) : (Instr.build 138 [(0, .int .u64 (n : Int)), (1, .agg #[.int .i64 k, .int .i64 a, .slice da dn dc])].toArray).run Try.prog w = .ok (.agg #[.int .u64 (n : Int), .int .i64 k, .int .i64 a, .slice da dn dc]) w := by kernel_rfl
set_option maxRecDepth 100000 in
set_option maxHeartbeats 1000000 in
theorem Ask_s (h : Sch s w b bS m R) (hd : Src s R (.slice da l.length dc) 1 l.length (u8s l)) (hi : I64 i) (ha : I64 a) (hl : l.length ≤ 1000) (hlast : ∀ p ∈ m.parts, p.last ≤ 1000000) :
    Calls Try.prog 15 #[.pointer (some ⟨bS, 0, none⟩), .int .i64 i, .agg #[.int .i64 k, .int .i64 a, .slice da l.length dc]] w fun e w' => ∃ s', e = .returned (.tuple #[.int .u64 ((m.ask i k a l).2.1 : Int), .int .i64 (m.ask i k a l).2.2]) ∧ s.Le s' ∧ Sch s' w' b bS (m.ask i k a l).1 R := by
  obtain ⟨va, cap, sa, sc, ps, hr, hsl, H⟩ := h
  have hlen := hr.len
  have hfew := hr.few
  by_cases hin : 0 ≤ i ∧ i < (ps.length : Int)
  rotate_left
  · rw [ask_far (by omega)]
    refine enter Try.func15 rfl Try.ntmps15 rfl ?_
    repeat' (first | refine Z H ?_ | (refine Zc ?_ ?_ <;> intro hc <;> first | (exfalso; omega) | skip) | (refine Y ?_; try change C _ _ _ _ _ _) | (refine Zs H ?_; clear H; (try clear w); intro w H) | (refine Zn H ?_; clear H; (try clear w); (first | ((fail_if_success (have := bl1)); intro bl1 w H) | intro _ w H)) | (refine Ze H ?_; clear H; (try clear w); intro gv w H))
    first | (have hT : Holds _ _ (var bS _ _ :: _) := H; clear hT) | (replace H := H.up 1 rfl; (try simp only [List.set_cons_zero, List.set_cons_succ, List.eraseIdx_cons_zero, List.eraseIdx_cons_succ] at H); have hT : Holds _ _ (var bS _ _ :: _) := H; clear hT) | (replace H := H.up 2 rfl; (try simp only [List.set_cons_zero, List.set_cons_succ, List.eraseIdx_cons_zero, List.eraseIdx_cons_succ] at H); have hT : Holds _ _ (var bS _ _ :: _) := H; clear hT) | (replace H := H.up 3 rfl; (try simp only [List.set_cons_zero, List.set_cons_succ, List.eraseIdx_cons_zero, List.eraseIdx_cons_succ] at H); have hT : Holds _ _ (var bS _ _ :: _) := H; clear hT) | (replace H := H.up 4 rfl; (try simp only [List.set_cons_zero, List.set_cons_succ, List.eraseIdx_cons_zero, List.eraseIdx_cons_succ] at H); have hT : Holds _ _ (var bS _ _ :: _) := H; clear hT) | (replace H := H.up 5 rfl; (try simp only [List.set_cons_zero, List.set_cons_succ, List.eraseIdx_cons_zero, List.eraseIdx_cons_succ] at H); have hT : Holds _ _ (var bS _ _ :: _) := H; clear hT) | (replace H := H.up 6 rfl; (try simp only [List.set_cons_zero, List.set_cons_succ, List.eraseIdx_cons_zero, List.eraseIdx_cons_succ] at H); have hT : Holds _ _ (var bS _ _ :: _) := H; clear hT)
    have hP := isPart_s (i := i) (by omega) H
    rw [decide_eq_false hin] at hP
    (refine X.call (hP) ?_; (try clear H); rintro _ w ⟨rfl, H⟩; refine ⟨_, rfl, ?_⟩)
    clear hP
    repeat' (first | refine Z H ?_ | (refine Zc ?_ ?_ <;> intro hc <;> first | (exfalso; omega) | skip) | (refine Y ?_; try change C _ _ _ _ _ _) | (refine Zs H ?_; clear H; (try clear w); intro w H) | (refine Zn H ?_; clear H; (try clear w); (first | ((fail_if_success (have := bl1)); intro bl1 w H) | intro _ w H)) | (refine Ze H ?_; clear H; (try clear w); intro gv w H))
    exact ⟨_, resTT rfl, s, rfl, Ro.Le.refl _, va, cap, sa, sc, ps, hr, hsl, H.arr⟩
  obtain ⟨j, rfl⟩ : ∃ j : Nat, i = j := ⟨i.toNat, by omega⟩
  have hj : j < ps.length := by omega
  have hj' : j < m.parts.length := by omega
  have hp := hr.all j hj hj'
  have hv : View ps j ps[j] := ⟨hr.oks, hj, rfl⟩
  have hlj := hlast m.parts[j] (List.getElem_mem _)
  obtain ⟨g, rfl, _⟩ := H.form (i := 1) rfl (by omega)
  have h0 : (ps.flatMap Pr.cells)[0 + j * 70 + 0]? = some (ptr ps[j].pv) := hv.get (j := 0) rfl (by omega)
  rcases hp.pv with ⟨q1, q2, _⟩ | ⟨x, bp, q1, q2, hx⟩
  · have he : m.ask (j : Int) k a l = (m, 0, 6) := ask_same hj' (by unfold askP; rw [q1])
    rw [he]
    rw [q2] at h0
    have h0' : (ps.flatMap Pr.cells)[0 + j * 70 + 0]? = some (.pointer none) := h0
    refine enter Try.func15 rfl Try.ntmps15 rfl ?_
    repeat' (first | refine Z H ?_ | (refine Zc ?_ ?_ <;> intro hc <;> first | (exfalso; omega) | skip) | (refine Y ?_; try change C _ _ _ _ _ _) | (refine Zs H ?_; clear H; (try clear w); intro w H) | (refine Zn H ?_; clear H; (try clear w); (first | ((fail_if_success (have := bl1)); intro bl1 w H) | intro _ w H)) | (refine Ze H ?_; clear H; (try clear w); intro gv w H))
    first | (have hT : Holds _ _ (var bS _ _ :: _) := H; clear hT) | (replace H := H.up 1 rfl; (try simp only [List.set_cons_zero, List.set_cons_succ, List.eraseIdx_cons_zero, List.eraseIdx_cons_succ] at H); have hT : Holds _ _ (var bS _ _ :: _) := H; clear hT) | (replace H := H.up 2 rfl; (try simp only [List.set_cons_zero, List.set_cons_succ, List.eraseIdx_cons_zero, List.eraseIdx_cons_succ] at H); have hT : Holds _ _ (var bS _ _ :: _) := H; clear hT) | (replace H := H.up 3 rfl; (try simp only [List.set_cons_zero, List.set_cons_succ, List.eraseIdx_cons_zero, List.eraseIdx_cons_succ] at H); have hT : Holds _ _ (var bS _ _ :: _) := H; clear hT) | (replace H := H.up 4 rfl; (try simp only [List.set_cons_zero, List.set_cons_succ, List.eraseIdx_cons_zero, List.eraseIdx_cons_succ] at H); have hT : Holds _ _ (var bS _ _ :: _) := H; clear hT) | (replace H := H.up 5 rfl; (try simp only [List.set_cons_zero, List.set_cons_succ, List.eraseIdx_cons_zero, List.eraseIdx_cons_succ] at H); have hT : Holds _ _ (var bS _ _ :: _) := H; clear hT) | (replace H := H.up 6 rfl; (try simp only [List.set_cons_zero, List.set_cons_succ, List.eraseIdx_cons_zero, List.eraseIdx_cons_succ] at H); have hT : Holds _ _ (var bS _ _ :: _) := H; clear hT)
    have hP := isPart_s (i := (j : Int)) (by omega) H
    rw [decide_eq_true hin] at hP
    (refine X.call (hP) ?_; (try clear H); rintro _ w ⟨rfl, H⟩; refine ⟨_, rfl, ?_⟩)
    clear hP
    repeat' (first | refine Z H ?_ | (refine Zc ?_ ?_ <;> intro hc <;> first | (exfalso; omega) | skip) | (refine Y ?_; try change C _ _ _ _ _ _) | (refine Zs H ?_; clear H; (try clear w); intro w H) | (refine Zn H ?_; clear H; (try clear w); (first | ((fail_if_success (have := bl1)); intro bl1 w H) | intro _ w H)) | (refine Ze H ?_; clear H; (try clear w); intro gv w H))
    exact ⟨_, resTT rfl, s, rfl, Ro.Le.refl _, some ⟨g, 0, none⟩, cap, sa, sc, ps, hr, hsl, H.arr⟩
  · rw [q2] at h0
    have h0' : (ps.flatMap Pr.cells)[0 + j * 70 + 0]? = some (.pointer (some ⟨bp, 0, none⟩)) := h0
    clear h0
    refine enter Try.func15 rfl Try.ntmps15 rfl ?_
    repeat' (first | refine Z H ?_ | (refine Zc ?_ ?_ <;> intro hc <;> first | (exfalso; omega) | skip) | (refine Y ?_; try change C _ _ _ _ _ _) | (refine Zs H ?_; clear H; (try clear w); intro w H) | (refine Zn H ?_; clear H; (try clear w); (first | ((fail_if_success (have := bl1)); intro bl1 w H) | intro _ w H)) | (refine Ze H ?_; clear H; (try clear w); intro gv w H))
    first | (have hT : Holds _ _ (var bS _ _ :: _) := H; clear hT) | (replace H := H.up 1 rfl; (try simp only [List.set_cons_zero, List.set_cons_succ, List.eraseIdx_cons_zero, List.eraseIdx_cons_succ] at H); have hT : Holds _ _ (var bS _ _ :: _) := H; clear hT) | (replace H := H.up 2 rfl; (try simp only [List.set_cons_zero, List.set_cons_succ, List.eraseIdx_cons_zero, List.eraseIdx_cons_succ] at H); have hT : Holds _ _ (var bS _ _ :: _) := H; clear hT) | (replace H := H.up 3 rfl; (try simp only [List.set_cons_zero, List.set_cons_succ, List.eraseIdx_cons_zero, List.eraseIdx_cons_succ] at H); have hT : Holds _ _ (var bS _ _ :: _) := H; clear hT) | (replace H := H.up 4 rfl; (try simp only [List.set_cons_zero, List.set_cons_succ, List.eraseIdx_cons_zero, List.eraseIdx_cons_succ] at H); have hT : Holds _ _ (var bS _ _ :: _) := H; clear hT) | (replace H := H.up 5 rfl; (try simp only [List.set_cons_zero, List.set_cons_succ, List.eraseIdx_cons_zero, List.eraseIdx_cons_succ] at H); have hT : Holds _ _ (var bS _ _ :: _) := H; clear hT) | (replace H := H.up 6 rfl; (try simp only [List.set_cons_zero, List.set_cons_succ, List.eraseIdx_cons_zero, List.eraseIdx_cons_succ] at H); have hT : Holds _ _ (var bS _ _ :: _) := H; clear hT)
    have hP := isPart_s (i := (j : Int)) (by omega) H
    rw [decide_eq_true hin] at hP
    (refine X.call (hP) ?_; (try clear H); rintro _ w ⟨rfl, H⟩; refine ⟨_, rfl, ?_⟩)
    clear hP
    repeat' (first | refine Z H ?_ | (refine Zc ?_ ?_ <;> intro hc <;> first | (exfalso; omega) | skip) | (refine Y ?_; try change C _ _ _ _ _ _) | (refine Zs H ?_; clear H; (try clear w); intro w H) | (refine Zn H ?_; clear H; (try clear w); (first | ((fail_if_success (have := bl1)); intro bl1 w H) | intro _ w H)) | (refine Ze H ?_; clear H; (try clear w); intro gv w H))
    have hF := formed_s (k := k) (a := a) (l := l) (da := da) (dc := dc) H
    cases hfm : formedM k a l.length with
    | false =>
      have he : m.ask (j : Int) k a l = (m, 0, 1) := ask_same hj' (by unfold askP; rw [q1]; simp only; rw [if_pos hfm])
      rw [he]
      rw [hfm] at hF
      (refine X.call (hF) ?_; (try clear H); rintro _ w ⟨rfl, H⟩; refine ⟨_, rfl, ?_⟩)
      clear hF
      repeat' (first | refine Z H ?_ | (refine Zc ?_ ?_ <;> intro hc <;> first | (exfalso; omega) | skip) | (refine Y ?_; try change C _ _ _ _ _ _) | (refine Zs H ?_; clear H; (try clear w); intro w H) | (refine Zn H ?_; clear H; (try clear w); (first | ((fail_if_success (have := bl1)); intro bl1 w H) | intro _ w H)) | (refine Ze H ?_; clear H; (try clear w); intro gv w H))
      exact ⟨_, resTT rfl, s, rfl, Ro.Le.refl _, some ⟨g, 0, none⟩, cap, sa, sc, ps, hr, hsl, H.arr⟩
    | true =>
      rw [hfm] at hF
      (refine X.call (hF) ?_; (try clear H); rintro _ w ⟨rfl, H⟩; refine ⟨_, rfl, ?_⟩)
      clear hF
      have h3 : (ps.flatMap Pr.cells)[0 + j * 70 + 1]? = some (.int .i64 ps[j].room) := hv.get (j := 1) rfl (by omega)
      have h4 : (ps.flatMap Pr.cells)[0 + j * 70 + 2]? = some (.int .u64 (ps[j].last : Int)) := hv.get (j := 2) rfl (by omega)
      have h6 : (ps.flatMap Pr.cells)[0 + j * 70 + 4 + 65]? = some (.int .i64 (ps[j].count : Int)) := hv.get (Pr.get_count hp.ok) (by omega)
      have hcnt := hp.cnt
      have hroom := hp.room
      have hr16 := hp.r1
      have hlst := hp.last
      have hSz := fun (w : World) (R : List Asn) (H : Holds s w R) => Size_e H hx
      have hx2 : I64 x.2 := hx.ok.2
      unfold I64 at ha hx2
      have hfar : k ≠ 2 ∧ (a < 0 ∨ x.2 ≤ a) → m.ask (j : Int) k a l = (m, 0, 4) := fun h => ask_same hj' (by unfold askP; rw [q1]; simp only; rw [if_neg (by rw [hfm]; decide), if_pos h])
      have hfull : ¬ (k ≠ 2 ∧ (a < 0 ∨ x.2 ≤ a)) → m.parts[j].room ≤ (m.parts[j].q.length : Int) → m.ask (j : Int) k a l = (m, 0, 5) := fun h h' => ask_same hj' (by unfold askP; rw [q1]; simp only; rw [if_neg (by rw [hfm]; decide), if_neg h, if_pos h'])
      have hdone : ¬ (k ≠ 2 ∧ (a < 0 ∨ x.2 ≤ a)) → ¬ m.parts[j].room ≤ (m.parts[j].q.length : Int) → m.ask (j : Int) k a l = ({ m with parts := m.parts.set j { m.parts[j] with last := m.parts[j].last + 1, q := m.parts[j].q ++ [⟨m.parts[j].last + 1, k, a, l⟩] } }, m.parts[j].last + 1, 0) := fun h h' => by
        rw [ask_at hj']; unfold askP; rw [q1]; simp only; rw [if_neg (by rw [hfm]; decide), if_neg h, if_neg h', ← q1]
      repeat' (first | ((fail_if_success (with_reducible show C _ _ _ (Code.seq (Code.seq (Code.region 6 _ _) _) _) _ _)); refine Z H ?_) | (refine Zc ?_ ?_ <;> intro hc <;> first | (exfalso; omega) | skip) | (refine Y ?_; try change C _ _ _ _ _ _) | (refine Zs H ?_; clear H; (try clear w); intro w H) | (refine Zn H ?_; clear H; (try clear w); (first | ((fail_if_success (have := bl1)); intro bl1 w H) | intro _ w H)) | (refine Ze H ?_; clear H; (try clear w); intro gv w H))
      refine C.cut [6, 7, 33, 34, 35, 36, 37, 38, 39, 40, 41, 42, 43, 44, 45, 46, 47, 48, 49, 50] [] rfl (fun vs w => ¬ (k ≠ 2 ∧ (a < 0 ∨ x.2 ≤ a)) ∧ Holds s w (var bS 136 [.slice (some ⟨g, 0, none⟩) ps.length cap, .slice sa m.slots.length sc, .int .i64 (m.next : Int)] :: var bl1 45 [.int .i64 k, .int .i64 a, .slice da l.length dc] :: row 143 70 (.slice (some ⟨g, 0, none⟩) ps.length cap) ps.length (ps.flatMap Pr.cells) :: R)) ?_ ?_
      · repeat' (first | refine Z H ?_ | (refine Zc ?_ ?_ <;> intro hc <;> first | (exfalso; omega) | skip) | (refine Y ?_; try change C _ _ _ _ _ _) | (refine Zs H ?_; clear H; (try clear w); intro w H) | (refine Zn H ?_; clear H; (try clear w); (first | ((fail_if_success (have := bl1)); intro bl1 w H) | intro _ w H)) | (refine Ze H ?_; clear H; (try clear w); intro gv w H))
        refine C.drawn5 [0, 1, 2, 3, 4, 5, 6, 7, 8, 9, 10, 11, 12, 13, 14, 15, 16, 17] [0, 4, 0, 0, 0, 4, 0, 0, 0, 1, 0, 0, 0, 4, 2, 0, 0, 0] [15] [0, 1, 3, 7, 15, 31, 63, 127, 255, 511, 255, 1279, 3327, 7423, 15615, 32767, 65535, 131071] (by kernel_rfl) ?_; replace H := H.drew; simp only [Reg.pick, List.filterMap_cons, List.filterMap_nil, List.getElem?_toArray, List.getElem?_cons_zero, List.getElem?_cons_succ, segN, List.take_succ_cons, List.take_zero, List.drop_succ_cons, List.drop_zero]
        by_cases k2 : k = 2
        · subst k2
          repeat' (first | refine Z H ?_ | (refine Zc ?_ ?_ <;> intro hc <;> first | (exfalso; omega) | skip) | (refine Y ?_; try change C _ _ _ _ _ _) | (refine Zs H ?_; clear H; (try clear w); intro w H) | (refine Zn H ?_; clear H; (try clear w); (first | ((fail_if_success (have := bl1)); intro bl1 w H) | intro _ w H)) | (refine Ze H ?_; clear H; (try clear w); intro gv w H))
          refine ⟨rfl, rfl, (by first | exact fun h => Bool.noConfusion (show false = true from h) | exact fun _ => ext_same | exact fun _ => ext_only (by assumption)), ?_⟩
          repeat' (first | refine Z H ?_ | (refine Zc ?_ ?_ <;> intro hc <;> first | (exfalso; omega) | skip) | (refine Y ?_; try change C _ _ _ _ _ _) | (refine Zs H ?_; clear H; (try clear w); intro w H) | (refine Zn H ?_; clear H; (try clear w); (first | ((fail_if_success (have := bl1)); intro bl1 w H) | intro _ w H)) | (refine Ze H ?_; clear H; (try clear w); intro gv w H))
          exact ⟨by (repeat (first | exact Agr.refl | exact Agr.hav | refine Agr.upd rfl ?_ | refine Agr.in rfl ?_)), by omega, H⟩
        by_cases a0 : a < 0
        · rw [hfar (by omega)]
          repeat' (first | refine Z H ?_ | (refine Zc ?_ ?_ <;> intro hc <;> first | (exfalso; omega) | skip) | (refine Y ?_; try change C _ _ _ _ _ _) | (refine Zs H ?_; clear H; (try clear w); intro w H) | (refine Zn H ?_; clear H; (try clear w); (first | ((fail_if_success (have := bl1)); intro bl1 w H) | intro _ w H)) | (refine Ze H ?_; clear H; (try clear w); intro gv w H))
          refine ⟨rfl, rfl, (by first | exact fun h => Bool.noConfusion (show false = true from h) | exact fun _ => ext_same | exact fun _ => ext_only (by assumption)), ?_⟩
          repeat' (first | refine Z H ?_ | (refine Zc ?_ ?_ <;> intro hc <;> first | (exfalso; omega) | skip) | (refine Y ?_; try change C _ _ _ _ _ _) | (refine Zs H ?_; clear H; (try clear w); intro w H) | (refine Zn H ?_; clear H; (try clear w); (first | ((fail_if_success (have := bl1)); intro bl1 w H) | intro _ w H)) | (refine Ze H ?_; clear H; (try clear w); intro gv w H))
          exact ⟨_, resTT rfl, s, rfl, Ro.Le.refl _, some ⟨g, 0, none⟩, cap, sa, sc, ps, hr, hsl, H.arr⟩
        · repeat' (first | refine Z H ?_ | (refine Zc ?_ ?_ <;> intro hc <;> first | (exfalso; omega) | skip) | (refine Y ?_; try change C _ _ _ _ _ _) | (refine Zs H ?_; clear H; (try clear w); intro w H) | (refine Zn H ?_; clear H; (try clear w); (first | ((fail_if_success (have := bl1)); intro bl1 w H) | intro _ w H)) | (refine Ze H ?_; clear H; (try clear w); intro gv w H))
          (refine X.call (hSz _ _ H) ?_; (try clear H); rintro _ w ⟨rfl, ho, H⟩; refine ⟨_, rfl, ?_⟩); refine L.nil ?_; refine ⟨rfl, rfl, (by first | exact fun h => Bool.noConfusion (show false = true from h) | exact fun _ => ext_same | exact fun _ => ext_only (by assumption)), ?_⟩
          clear ho
          repeat' (first | refine Z H ?_ | (refine Zc ?_ ?_ <;> intro hc <;> first | (exfalso; omega) | skip) | (refine Y ?_; try change C _ _ _ _ _ _) | (refine Zs H ?_; clear H; (try clear w); intro w H) | (refine Zn H ?_; clear H; (try clear w); (first | ((fail_if_success (have := bl1)); intro bl1 w H) | intro _ w H)) | (refine Ze H ?_; clear H; (try clear w); intro gv w H))
          · rw [hfar (by omega)]
            exact ⟨_, resTT rfl, s, rfl, Ro.Le.refl _, some ⟨g, 0, none⟩, cap, sa, sc, ps, hr, hsl, H.arr⟩
          · exact ⟨by (repeat (first | exact Agr.refl | exact Agr.hav | refine Agr.upd rfl ?_ | refine Agr.in rfl ?_)), by omega, H⟩
      clear H hSz hfar
      rintro vs hv' w ⟨hnf, H⟩
      repeat' (first | refine Z H ?_ | (refine Zc ?_ ?_ <;> intro hc <;> first | (exfalso; omega) | skip) | (refine Y ?_; try change C _ _ _ _ _ _) | (refine Zs H ?_; clear H; (try clear w); intro w H) | (refine Zn H ?_; clear H; (try clear w); (first | ((fail_if_success (have := bl1)); intro bl1 w H) | intro _ w H)) | (refine Ze H ?_; clear H; (try clear w); intro gv w H))
      refine C.drawn1 [0, 0, 0, 0, 1, 0, 0, 0, 1, 0] [0, 1, 3, 7, 15, 0, 32, 96, 224, 511] (by kernel_rfl) ?_; replace H := H.drew
      repeat' (first | refine Z H ?_ | (refine Zc ?_ ?_ <;> intro hc <;> first | (exfalso; omega) | skip) | (refine Y ?_; try change C _ _ _ _ _ _) | (refine Zs H ?_; clear H; (try clear w); intro w H) | (refine Zn H ?_; clear H; (try clear w); (first | ((fail_if_success (have := bl1)); intro bl1 w H) | intro _ w H)) | (refine Ze H ?_; clear H; (try clear w); intro gv w H))
      · rw [hfull hnf (by omega)]
        exact ⟨_, resTT rfl, s, rfl, Ro.Le.refl _, some ⟨g, 0, none⟩, cap, sa, sc, ps, hr, hsl, H.arr⟩
      have hnr : ¬ m.parts[j].room ≤ (m.parts[j].q.length : Int) := by omega
      rw [hdone hnf hnr]
      clear hfull hdone
      have hd' : Src s (var bl1 45 [.int .i64 k, .int .i64 a, .slice da l.length dc] :: var bS 136 [.slice (some ⟨g, 0, none⟩) ps.length cap, .slice sa m.slots.length sc, .int .i64 (m.next : Int)] :: row 143 70 (.slice (some ⟨g, 0, none⟩) ps.length cap) ps.length (ps.flatMap Pr.cells) :: R) (.slice da l.length dc) 1 l.length (u8s l) := ⟨fun w H => hd.reads w H.tail.tail.tail, fun hx k hk => (hd.blk hx k hk).imp id fun ⟨i, A, h1, h2⟩ => ⟨i + 1 + 1 + 1, A, by simpa using h1, h2⟩⟩
      first | (have hT : Holds _ _ (var bl1 _ _ :: _) := H; clear hT) | (replace H := H.up 1 rfl; (try simp only [List.set_cons_zero, List.set_cons_succ, List.eraseIdx_cons_zero, List.eraseIdx_cons_succ] at H); have hT : Holds _ _ (var bl1 _ _ :: _) := H; clear hT) | (replace H := H.up 2 rfl; (try simp only [List.set_cons_zero, List.set_cons_succ, List.eraseIdx_cons_zero, List.eraseIdx_cons_succ] at H); have hT : Holds _ _ (var bl1 _ _ :: _) := H; clear hT) | (replace H := H.up 3 rfl; (try simp only [List.set_cons_zero, List.set_cons_succ, List.eraseIdx_cons_zero, List.eraseIdx_cons_succ] at H); have hT : Holds _ _ (var bl1 _ _ :: _) := H; clear hT) | (replace H := H.up 4 rfl; (try simp only [List.set_cons_zero, List.set_cons_succ, List.eraseIdx_cons_zero, List.eraseIdx_cons_succ] at H); have hT : Holds _ _ (var bl1 _ _ :: _) := H; clear hT) | (replace H := H.up 5 rfl; (try simp only [List.set_cons_zero, List.set_cons_succ, List.eraseIdx_cons_zero, List.eraseIdx_cons_succ] at H); have hT : Holds _ _ (var bl1 _ _ :: _) := H; clear hT) | (replace H := H.up 6 rfl; (try simp only [List.set_cons_zero, List.set_cons_succ, List.eraseIdx_cons_zero, List.eraseIdx_cons_succ] at H); have hT : Holds _ _ (var bl1 _ _ :: _) := H; clear hT)
      (refine X.call (CloneB_s H hd' (by omega)) ?_; (try clear H); rintro _ w ⟨aa, cc, rfl, H⟩; refine ⟨_, rfl, ?_⟩)
      obtain ⟨s1, hs1, H, hrow⟩ := H.fixRow
      replace hr := hr.mono hs1
      replace hp := hp.mono hs1
      replace hsl := hsl.mono hs1
      -- the partition's counter, then its ring
      obtain ⟨p1, hp1⟩ : ∃ p1 : Pr, p1 = { ps[j] with last := ps[j].last + 1 } := ⟨_, rfl⟩
      have hok1 : p1.Ok := by rw [hp1]; exact ⟨hp.ok.len, hp.ok.one, hp.ok.f16, hp.ok.c16⟩
      have hv1 : View (ps.set j p1) j p1 := hv.set hok1
      have hset : (ps.flatMap Pr.cells).set (0 + j * 70 + 2) (.int .u64 ((ps[j].last + 1 : Nat) : Int)) = (ps.set j p1).flatMap Pr.cells := hv.wr (j := 2) (by rw [hp1]; rfl) (by omega)
      have hwrap : IntKind.u64.wrap ((ps[j].last : Int) + 1) = ((ps[j].last + 1 : Nat) : Int) := by simp [IntKind.wrap, IntKind.bits, IntKind.signed]; omega
      have l70 := hv.len70
      have hlast1 : ((ps.set j p1).flatMap Pr.cells)[0 + j * 70 + 2]? = some (.int .u64 ((ps[j].last + 1 : Nat) : Int)) := hv1.get (j := 2) (by rw [hp1]; rfl) (by omega)
      have hrep := hp.push (k := k) (a := a) q1 hnr hrow ⟨formed_k hfm, ha, hl⟩
      have e1 : p1.count = ps[j].count := by rw [hp1]
      rw [← hp1] at hrep
      have hlen1 : (ps.set j p1).length = ps.length := by simp
      repeat' (first | (refine K.arith _ rfl rfl rfl rfl rfl ?_; rw [hwrap]) | refine Z H ?_ | (refine Zc ?_ ?_ <;> intro hc <;> first | (exfalso; omega) | skip) | (refine Y ?_; try change C _ _ _ _ _ _) | (refine Zs H ?_; clear H; (try clear w); intro w H) | (refine Zn H ?_; clear H; (try clear w); (first | ((fail_if_success (have := bl1)); intro bl1 w H) | intro _ w H)) | (refine Ze H ?_; clear H; (try clear w); intro gv w H))
      rw [hset] at H
      obtain ⟨p2, hp2⟩ : ∃ p2 : Pr, p2 = p1.push (ps[j].last + 1) k a (.slice aa l.length cc) := ⟨_, rfl⟩
      rw [← hp2] at hrep
      have hv2 : View (ps.set j p2) j p2 := hv.set hrep.ok
      have hlast2 : ((ps.set j p2).flatMap Pr.cells)[0 + j * 70 + 2]? = some (.int .u64 ((ps[j].last + 1 : Nat) : Int)) := hv2.get (j := 2) (by rw [hp2, hp1]; rfl) (by omega)
      repeat' (first | refine Z H ?_ | (refine Zc ?_ ?_ <;> intro hc <;> first | (exfalso; omega) | skip) | (refine Y ?_; try change C _ _ _ _ _ _) | (refine Zs H ?_; clear H; (try clear w); intro w H) | (refine Zn H ?_; clear H; (try clear w); (first | ((fail_if_success (have := bl1)); intro bl1 w H) | intro _ w H)) | (refine Ze H ?_; clear H; (try clear w); intro gv w H))
      refine C.drawn1 [0, 0, 0, 0, 0, 0, 1, 1, 0, 3] [0, 1, 3, 0, 8, 24, 56, 0, 248, 511] (by kernel_rfl) ?_; replace H := H.drew
      repeat' (first | (refine K.build [(0, .int .u64 ((ps[j].last + 1 : Nat) : Int)), (1, .agg #[.int .i64 k, .int .i64 a, .slice aa l.length cc])] (.agg #[.int .u64 ((ps[j].last + 1 : Nat) : Int), .int .i64 k, .int .i64 a, .slice aa l.length cc]) (build_asked _ _ _ _ _ _) rfl rfl rfl ?_) | refine Z H ?_ | (refine Zc ?_ ?_ <;> intro hc <;> first | (exfalso; omega) | skip) | (refine Y ?_; try change C _ _ _ _ _ _) | (refine Zs H ?_; clear H; (try clear w); intro w H) | (refine Zn H ?_; clear H; (try clear w); (first | ((fail_if_success (have := bl1)); intro bl1 w H) | intro _ w H)) | (refine Ze H ?_; clear H; (try clear w); intro gv w H))
      first | (have hT : Holds _ _ (row _ _ _ _ _ :: _) := H; clear hT) | (replace H := H.up 1 rfl; (try simp only [List.set_cons_zero, List.set_cons_succ, List.eraseIdx_cons_zero, List.eraseIdx_cons_succ] at H); have hT : Holds _ _ (row _ _ _ _ _ :: _) := H; clear hT) | (replace H := H.up 2 rfl; (try simp only [List.set_cons_zero, List.set_cons_succ, List.eraseIdx_cons_zero, List.eraseIdx_cons_succ] at H); have hT : Holds _ _ (row _ _ _ _ _ :: _) := H; clear hT) | (replace H := H.up 3 rfl; (try simp only [List.set_cons_zero, List.set_cons_succ, List.eraseIdx_cons_zero, List.eraseIdx_cons_succ] at H); have hT : Holds _ _ (row _ _ _ _ _ :: _) := H; clear hT) | (replace H := H.up 4 rfl; (try simp only [List.set_cons_zero, List.set_cons_succ, List.eraseIdx_cons_zero, List.eraseIdx_cons_succ] at H); have hT : Holds _ _ (row _ _ _ _ _ :: _) := H; clear hT) | (replace H := H.up 5 rfl; (try simp only [List.set_cons_zero, List.set_cons_succ, List.eraseIdx_cons_zero, List.eraseIdx_cons_succ] at H); have hT : Holds _ _ (row _ _ _ _ _ :: _) := H; clear hT) | (replace H := H.up 6 rfl; (try simp only [List.set_cons_zero, List.set_cons_succ, List.eraseIdx_cons_zero, List.eraseIdx_cons_succ] at H); have hT : Holds _ _ (row _ _ _ _ _ :: _) := H; clear hT)
      rw [← hlen1] at H
      have hPu := push_s (n := ps[j].last + 1) (k := k) (a := a) (da := aa) (dn := l.length) (dc := cc) (o := 0 + j * 70 + 4) H hv1.ok hv1.lt hv1.eq (by omega) rfl
      rw [← hp2, List.set_set, hlen1] at hPu
      (refine X.call (hPu) ?_; (try clear H); rintro _ w ⟨rfl, H⟩; refine ⟨_, rfl, ?_⟩)
      clear hPu
      repeat' (first | refine Z H ?_ | (refine Zc ?_ ?_ <;> intro hc <;> first | (exfalso; omega) | skip) | (refine Y ?_; try change C _ _ _ _ _ _) | (refine Zs H ?_; clear H; (try clear w); intro w H) | (refine Zn H ?_; clear H; (try clear w); (first | ((fail_if_success (have := bl1)); intro bl1 w H) | intro _ w H)) | (refine Ze H ?_; clear H; (try clear w); intro gv w H))
      refine ⟨_, resTT rfl, s1, ?_, hs1, some ⟨g, 0, none⟩, cap, sa, sc, ps.set j p2, hr.set hrep, hsl, ?_⟩
      · rw [← hlst]; rfl
      · rw [List.length_set]; exact H.arr
end
end Go.Proofs.Ytmcojfpomejnnaa

/- Squeezed copy of the texts Rf Rc Shelf. -/
import Derived.Test.YtgilmcpdpggikaaGreatDoorCDk
import Derived.Test.YtgilmcpdpggikaaGreatDoorCTy
import Derived.Test.YtgilmcpdpggikaaGreatDoorCK3
import Derived.Test.YtgilmcpdpggikaaGreatDoorCPf
import Derived.Test.YtgilmcpdpggikaaGreatDoorCK9
import Derived.Test.YtgilmcpdpggikaaGreatDoorProg
set_option maxRecDepth 100000
set_option maxHeartbeats 1000000
set_option linter.unusedSimpArgs false
set_option linter.unusedVariables false
namespace Go.Proofs.YtgilmcpdpggikaaGreatDoor
open Go Go.RowKit Go.Own
def Rd (w : World) (v : Value) (sz n : Nat) (xs : List Value) (R : List Nat) : Prop := Sl w v sz n xs ∧ (xs ≠ [] → ∀ k, v.ownBlock = some k → k ∈ R ∧ k < w.heap.size)
def bst (l : List UInt8) : ByteArray := ⟨l.toArray⟩
theorem bst_size (l : List UInt8) : (bst l).size = l.length := by simp [bst, ByteArray.size]
def strs (l : List (List UInt8)) : List Value := l.map fun s => .string (bst s)
theorem strs_len (l : List (List UInt8)) : (strs l).length = l.length := by simp [strs]
theorem strs_one (l : List (List UInt8)) : ∀ v ∈ strs l, v.oneCell' = true := by
 intro v hv; simp only [strs, List.mem_map] at hv; obtain ⟨_, _, rfl⟩ := hv; rfl
def rwr (p : Nat × List UInt8) : List Value := [.int .i64 (p.1 : Int), .string (bst p.2)]
theorem rwr_one (l : List (Nat × List UInt8)) : ∀ v ∈ l.flatMap rwr, v.oneCell' = true := by
 intro v hv; simp only [List.mem_flatMap, rwr] at hv; obtain ⟨p, _, hv⟩ := hv; simp at hv; rcases hv with rfl | rfl <;> rfl
theorem strs_set (l : List (List UInt8)) (n : Nat) (s : List UInt8) : (strs l).set n (.string (bst s)) = strs (l.set n s) := by simp [strs, List.map_set]
def RefS (s : Ro) (v : Value) (d : DM) : Prop := d.Wf ∧ ∃ ah ch aw cw sa sc lf surv,
 v = .agg #[.slice ah d.secs.length ch, .slice aw d.pend.length cw, .bool d.off, .int .i64 lf, .slice sa (List.length surv) sc] ∧
 SlS s (.slice ah d.secs.length ch) 1 d.secs.length (strs d.secs) ∧ SlS s (.slice aw d.pend.length cw) 2 d.pend.length (d.pend.flatMap rwr) ∧ SlS s (.slice sa surv.length sc) 1 surv.length (surv.map Value.bool) ∧
 (d.armed = true → lf = d.left ∧ surv = d.surv) ∧ (d.armed = false → lf = -1)
theorem RefS.mono {s s' : Ro} {v : Value} {d : DM} (h : RefS s v d) (hs : s.Le s') : RefS s' v d := by
 obtain ⟨hw, ah, ch, aw, cw, sa, sc, lf, surv, h1, h2, h3, h4, h5⟩ := h
 exact ⟨hw, ah, ch, aw, cw, sa, sc, lf, surv, h1, h2.mono hs, h3.mono hs, h4.mono hs, h5⟩
theorem with_r {s : Ro} {w : World} {R : List Asn} {v : Value} {l : List (List UInt8)} {n : Nat} {x : List UInt8} (H : Holds s w R) {m : Nat} (h : SlS s v 1 m (strs l)) (hm : l.length = m) (hn : n < m) (hl : m ≤ 256) :
  Calls Tryz.prog 162 #[v, .int .i64 n, .string (bst x)] w fun e w' => ∃ aa cc, e = .returned (.slice aa m cc) ∧ Holds s w' (row 9 1 (.slice aa m cc) m (strs (l.set n x)) :: R) := by
 subst hm
 obtain ⟨va, vc, rfl, hv⟩ : ∃ a c, v = .slice a l.length c ∧ True := by obtain ⟨a, c, h, _⟩ := h; exact ⟨a, c, h, trivial⟩
 refine enter Tryz.func162 rfl Tryz.ntmps162 rfl ?_
 (refine Gq8 H ?_; clear H; (try clear w); intro _ w H)
 refine K.app0 0 H rfl (.ro h) (strs_one _) (by unfold maxLen; omega) (by omega) rfl rfl rfl ?_; clear H; intro aa cc w H; (try simp only [List.set_cons_zero, List.set_cons_succ, List.eraseIdx_cons_zero, List.eraseIdx_cons_succ] at H)
 obtain ⟨g, rfl, _⟩ := H.form (i := 0) rfl (by omega)
 repeat' (first | (refine K.storeR 0 H rfl rfl rfl (by conv => lhs; whnf) (by rfl) (by simp [strs_len]; omega) ?_; clear H; (try clear w); intro w H; (try simp only [List.set_cons_zero, List.set_cons_succ, List.eraseIdx_cons_zero, List.eraseIdx_cons_succ] at H)) | refine Go8 H ?_ | (refine Gs8 H ?_; clear H; (try clear w); intro w H) | (refine Gn H ?_; clear H; (try clear w); intro _ w H))
 rw [Nat.zero_add, Nat.mul_one, strs_set] at H
 exact ⟨_, resT rfl, _, _, rfl, H⟩
theorem laid_r {s : Ro} {w : World} {R : List Asn} {v : Value} {d : DM} {all : Bool} {ka : Option Addr} {kc : Nat} {sv : List Bool} (H : Holds s w R) (h : RefS s v d) (hk : SlS s (.slice ka sv.length kc) 1 sv.length (sv.map Value.bool)) (hpl : d.pend.length ≤ 1000000) :
  Calls Tryz.prog 156 #[v, .bool all, .slice ka sv.length kc] w fun e w' => ∃ s' v', e = .returned v' ∧ s.Le s' ∧ RefS s' v' (d.lay all sv) ∧ Holds s' w' R := by
 obtain ⟨hw, ah, ch, aw, cw, sa, sc, lf, surv, rfl, h2, h3, h4, h5, h6⟩ := h
 have h256 := hw.hi
 refine enter Tryz.func156 rfl Tryz.ntmps156 rfl ?_
 repeat' (first | refine Go8 H ?_ | (refine Gs8 H ?_; clear H; (try clear w); intro w H) | (refine Gn H ?_; clear H; (try clear w); (first | ((fail_if_success (have := bl1)); intro bl1 w H) | ((fail_if_success (have := bl2)); intro bl2 w H) | intro _ w H)))
 refine C.loopS [7, 8, 9, 10, 11, 12, 13, 14, 15, 16, 17, 18, 19, 20, 21, 22, 23, 24, 25, 26, 27, 28, 29, 30, 31, 32, 33, 34, 35, 36, 37, 38, 39, 40, 41, 42, 43] [7] rfl (fun m vs w => ∃ i : Nat, ∃ s' ah' ch', m = d.pend.length - i ∧ i ≤ d.pend.length ∧ vs = [.int .i64 (i : Int)] ∧ s.Le s' ∧ SlS s' (.slice ah' d.secs.length ch') 1 d.secs.length (strs (layT d all sv i)) ∧
  Holds s' w (var bl2 74 [.slice none 0 0, .slice none 0 0, .bool false, .int .i64 0, .slice none 0 0] :: var bl1 74 [.slice ah' d.secs.length ch', .slice aw d.pend.length cw, .bool d.off, .int .i64 lf, .slice sa surv.length sc] :: R)) d.pend.length ?_ ?_
 ·exact ⟨0, s, ah, ch, rfl, Nat.zero_le _, rfl, Ro.Le.refl _, by simpa [layT, layAll, layS] using h2, H⟩
 ·rintro m vs hv w ⟨i, s', ah', ch', rfl, hi, rfl, hs, hsec, H⟩
  by_cases hlt : i < d.pend.length
  ·obtain ⟨gw, ow, cw_, hv3, _, _, hpin⟩ := elemS h3 (fun _ _ => rfl) (by decide) (by omega)
   cases hv3
   have p1 := (hpin i hlt 0 _ rfl).mono hs
   have p2 := (hpin i hlt 1 _ rfl).mono hs
   have hat := (hw.pnd _ (List.getElem_mem hlt)).1
   have hsucc := layT_succ d all sv hlt
   generalize d.pend[i] = pi at *
   repeat' (first | ((fail_if_success (with_reducible show C _ _ _ (Code.seq (Code.region 4 _ _) _) _ _)); refine Z H ?_) | (refine Zc ?_ ?_ <;> intro hc <;> first | (exfalso; omega) | skip) | (refine Y ?_; try change C _ _ _ _ _ _) | (refine Zs H ?_; clear H; (try clear w); intro w H) | (refine Zn H ?_; clear H; (try clear w); (first | ((fail_if_success (have := bl1)); intro bl1 w H) | ((fail_if_success (have := bl2)); intro bl2 w H) | intro _ w H)) | (refine Ze H ?_; clear H; (try clear w); intro gv w H))
   refine C.cut [15, 16, 17, 18, 19, 20, 21, 22, 23, 24, 25, 26, 27] [27] rfl (fun vs w => vs = [.bool (all || sv[i]?.getD false)] ∧ Holds s' w (var bl2 74 [.slice none 0 0, .slice none 0 0, .bool false, .int .i64 0, .slice none 0 0] :: var bl1 74 [.slice ah' d.secs.length ch', .slice (some ⟨gw, ow, none⟩) d.pend.length cw, .bool d.off, .int .i64 lf, .slice sa surv.length sc] :: R)) ?_ ?_
   ·cases all with
    | true =>
     refine Gq8 H ?_
     exact ⟨agr, by simp; rfl, H⟩
    | false =>
     by_cases hsv : i < sv.length
     ·obtain ⟨gk, ok, _, hk', _, _, hkp⟩ := elemS1 hk (by omega)
      cases hk'
      have pk := (hkp i hsv).mono hs
      repeat' (first | (refine K.loadS H pk rfl rfl rfl (by omega) ?_) | refine Go8 H ?_ | (refine Gs8 H ?_; clear H; (try clear w); intro w H) | (refine Gn H ?_; clear H; (try clear w); (first | ((fail_if_success (have := bl1)); intro bl1 w H) | ((fail_if_success (have := bl2)); intro bl2 w H) | intro _ w H)))
      exact ⟨agr, by simp [hsv]; rfl, H⟩
     ·refine Gq8 H ?_
      exact ⟨agr, by simp [hsv]; rfl, H⟩
   ·rintro vs h w ⟨rfl, H⟩
    refine C.ite rfl (fun hb => ?_) (fun hb => ?_)
    ·rw [if_pos hb] at hsucc
     refine C.drawn1 [0, 1, 0, 1, 0, 0, 0, 1, 0, 1, 0, 0, 0, 1, 3, 0, 3] [0, 1, 0, 4, 0, 28, 60, 124, 0, 256, 0, 1792, 3840, 7936, 16383, 32767, 65535] (by kernel_rfl) ?_
     replace H := H.drew
     repeat' (first | (refine K.loadS H p1 rfl rfl rfl (by omega) ?_) | (refine K.loadS H p2 rfl rfl rfl (by omega) ?_) | refine Go8 H ?_ | (refine Gs8 H ?_; clear H; (try clear w); intro w H) | (refine Gn H ?_; clear H; (try clear w); (first | ((fail_if_success (have := bl1)); intro bl1 w H) | ((fail_if_success (have := bl2)); intro bl2 w H) | intro _ w H)))
     (refine K.call rfl rfl rfl ?_; refine (with_r H hsec (layT_len _ _ _ _) hat h256).mono ?_; (try clear H); rintro _ w ⟨aa, cc, rfl, H⟩; refine ⟨_, rfl, ?_⟩)
     obtain ⟨s2, hs2, H, hsec2⟩ := H.fixRow
     (refine Gq8 H ?_; clear H; (try clear w); intro w H)
     exact ⟨agr, d.pend.length - (i + 1), by omega, i + 1, s2, aa, cc, rfl, by omega, rfl, hs.trans hs2, by rw [hsucc]; exact hsec2, H⟩
    ·rw [if_neg (by rw [hb]; simp)] at hsucc
     refine Gq8 H ?_
     exact ⟨agr, d.pend.length - (i + 1), by omega, i + 1, s', ah', ch', rfl, by omega, rfl, hs, by rw [hsucc]; exact hsec, H⟩
  ·have hi' : i = d.pend.length := by omega
   subst hi'
   (refine Gq8 H ?_; clear H; (try clear w); intro w H)
   rw [layT_all] at hsec
   have hsl : (d.lay all sv).secs.length = d.secs.length := by rw [← layT_all, layT_len]
   rw [← hsl] at hsec
   exact ⟨_, resC 0 H rfl rfl rfl rfl, s', _, rfl, hs, ⟨hw.lay _ _, ah', ch', none, 0, sa, sc, lf, surv, by rw [hsl]; rfl, hsec, SlS.nil _ _, h4.mono hs, h5, h6⟩, H.tail.tail⟩
theorem bst_app (x y : List UInt8) : bst x ++ bst y = bst (x ++ y) := by
 apply ByteArray.ext
 simp [bst]
theorem Crash_r {s : Ro} {w : World} {R : List Asn} {v : Value} {d : DM} {ka : Option Addr} {kc : Nat} {sv : List Bool} (H : Holds s w R) (h : RefS s v d) (hk : SlS s (.slice ka sv.length kc) 1 sv.length (sv.map Value.bool)) (hpl : d.pend.length ≤ 1000000) :
  Calls Tryz.prog 161 #[v, .slice ka sv.length kc] w fun e w' => ∃ s' v', e = .returned v' ∧ s.Le s' ∧ RefS s' v' (d.crash sv) ∧ Holds s' w' R := by
 have h0 := h
 obtain ⟨hw, ah, ch, aw, cw, sa, sc, lf, surv, rfl, h2, h3, h4, h5, h6⟩ := h
 have hwc := hw.crash sv
 refine enter Tryz.func161 rfl Tryz.ntmps161 rfl ?_
 repeat' (first | refine Go8 H ?_ | (refine Gs8 H ?_; clear H; (try clear w); intro w H) | (refine Gn H ?_; clear H; (try clear w); intro _ w H))
 refine C.ite rfl (fun hb => ?_) (fun hb => ?_)
 ·(refine Gq8 H ?_; clear H; (try clear w); intro w H)
  have e : d.crash sv = d := by simp [DM.crash, hb]
  rw [e]
  exact ⟨_, resC 0 H rfl rfl rfl rfl, s, _, rfl, Ro.Le.refl _, h0, H.tail.tail⟩
 ·refine Gq8 H ?_
  (refine K.call rfl rfl rfl ?_; refine (laid_r (all := false) H h0 hk hpl).mono ?_; (try clear H); rintro _ w ⟨s', v', rfl, hs, hr, H⟩; refine ⟨_, rfl, ?_⟩)
  obtain ⟨_, ah', ch', aw', cw', sa', sc', lf', surv', rfl, g2, g3, g4, g5, g6⟩ := hr
  (refine Gq8 H ?_; clear H; (try clear w); intro w H)
  have e : d.crash sv = { d.lay false sv with off := true, armed := false, left := 0, surv := [] } := by simp [DM.crash, hb, DM.lay]
  rw [e] at hwc ⊢
  exact ⟨_, resC 0 H rfl rfl rfl rfl, s', _, rfl, hs, ⟨hwc, ah', ch', aw', cw', sa', sc', -1, surv', rfl, g2, g3, g4, fun h => by simp at h, fun _ => rfl⟩, H.tail.tail⟩
theorem step_r {s : Ro} {w : World} {R : List Asn} {v : Value} {d : DM} (H : Holds s w R) (h : RefS s v d) (hpl : d.pend.length ≤ 1000000) :
  Calls Tryz.prog 155 #[v] w fun e w' => ∃ s' v', e = .returned (.tuple #[v', .bool d.powered.2]) ∧ s.Le s' ∧ RefS s' v' d.powered.1 ∧ Holds s' w' R := by
 have h0 := h
 obtain ⟨hw, ah, ch, aw, cw, sa, sc, lf, surv, rfl, h2, h3, h4, h5, h6⟩ := h
 have hl0 := hw.l0
 have hl1 := hw.l1
 have hwp := hw.powered
 have hlf : -1 ≤ lf ∧ lf ≤ 9223372036854775807 := by
  cases ha : d.armed
  ·rw [h6 ha]; omega
  ·rw [(h5 ha).1]; omega
 refine enter Tryz.func155 rfl Tryz.ntmps155 rfl ?_
 repeat' (first | refine Go8 H ?_ | (refine Gs8 H ?_; clear H; (try clear w); intro w H) | (refine Gn H ?_; clear H; (try clear w); intro _ w H))
 refine C.ite rfl (fun hb => ?_) (fun hb => ?_)
 ·(refine Gq8 H ?_; clear H; (try clear w); intro w H)
  have e : d.powered = (d, false) := by simp [DM.powered, hb]
  rw [e]
  exact ⟨_, resCT 0 H rfl rfl rfl rfl, s, _, rfl, Ro.Le.refl _, h0, H.tail.tail⟩
 ·repeat' (first | refine Z H ?_ | (refine Zc ?_ ?_ <;> intro hc <;> first | (exfalso; omega) | skip) | (refine Y ?_; try change C _ _ _ _ _ _) | (refine Zs H ?_; clear H; (try clear w); intro w H) | (refine Zn H ?_; clear H; (try clear w); intro _ w H) | (refine Ze H ?_; clear H; (try clear w); intro gv w H))
  ·have ha : d.armed = true := by
    cases ha : d.armed
    ·have := h6 ha; omega
    ·rfl
   obtain ⟨rfl, rfl⟩ := h5 ha
   (refine K.call rfl rfl rfl ?_; refine (Crash_r H h0 h4 hpl).mono ?_; (try clear H); rintro _ w ⟨s', v', rfl, hs, hr, H⟩; refine ⟨_, rfl, ?_⟩)
   have hr0 := hr
   obtain ⟨_, ah', ch', aw', cw', sa', sc', lf', surv', rfl, g2, g3, g4, g5, g6⟩ := hr
   repeat' (first | refine Z H ?_ | (refine Zc ?_ ?_ <;> intro hc <;> first | (exfalso; omega) | skip) | (refine Y ?_; try change C _ _ _ _ _ _) | (refine Zs H ?_; clear H; (try clear w); intro w H) | (refine Zn H ?_; clear H; (try clear w); intro _ w H) | (refine Ze H ?_; clear H; (try clear w); intro gv w H))
   have e : d.powered = (d.crash d.surv, false) := by simp [DM.powered, hb, ha, hc]
   rw [e]
   exact ⟨_, resCT 0 H rfl rfl rfl rfl, s', _, rfl, hs, hr0, H.tail.tail⟩
  ·have ha : d.armed = true := by
    cases ha : d.armed
    ·have := h6 ha; omega
    ·rfl
   obtain ⟨rfl, rfl⟩ := h5 ha
   have e : d.powered = ({ d with left := d.left - 1 }, true) := by simp [DM.powered, hb, ha]; omega
   rw [e] at hwp ⊢
   exact ⟨_, resCT 0 H rfl rfl rfl rfl, s, _, rfl, Ro.Le.refl _, ⟨hwp, ah, ch, aw, cw, sa, sc, d.left - 1, d.surv, rfl, h2, h3, h4, fun _ => ⟨rfl, rfl⟩, fun h => by simp [ha] at h⟩, H.tail.tail⟩
  ·have ha : d.armed = false := by
    cases ha : d.armed
    ·rfl
    ·have := (h5 ha).1; omega
   have e : d.powered = (d, true) := by simp [DM.powered, hb, ha]
   rw [e]
   exact ⟨_, resCT 0 H rfl rfl rfl rfl, s, _, rfl, Ro.Le.refl _, h0, H.tail.tail⟩
theorem Flush_r {s : Ro} {w : World} {R : List Asn} {v : Value} {d : DM} (H : Holds s w R) (h : RefS s v d) (hpl : d.pend.length ≤ 1000000) :
  Calls Tryz.prog 151 #[v] w fun e w' => ∃ s' v', e = .returned (.tuple #[v', .int .i64 d.flush.2]) ∧ s.Le s' ∧ RefS s' v' d.flush.1 ∧ Holds s' w' R := by
 have h0 := h
 obtain ⟨hw, ah, ch, aw, cw, sa, sc, lf, surv, rfl, h2, h3, h4, h5, h6⟩ := h
 have hpp : d.powered.1.pend.length ≤ d.pend.length := by
  unfold DM.powered DM.crash
  (repeat' split) <;> simp
 refine enter Tryz.func151 rfl Tryz.ntmps151 rfl ?_
 repeat' (first | refine Go8 H ?_ | (refine Gs8 H ?_; clear H; (try clear w); intro w H) | (refine Gn H ?_; clear H; (try clear w); intro _ w H))
 (refine K.call rfl rfl rfl ?_; refine (step_r H h0 hpl).mono ?_; (try clear H); rintro _ w ⟨s', v', rfl, hs, hr, H⟩; refine ⟨_, rfl, ?_⟩)
 have hr0 := hr
 obtain ⟨_, ah', ch', aw', cw', sa', sc', lf', surv', rfl, g2, g3, g4, g5, g6⟩ := hr
 (refine Gq8 H ?_; clear H; (try clear w); intro w H)
 refine C.ite rfl (fun hb => ?_) (fun hb => ?_)
 ·(refine Gq8 H ?_; clear H; (try clear w); intro w H)
  have e : d.flush = (d.powered.1, 9) := by simp at hb; simp [DM.flush, hb]
  rw [e]
  exact ⟨_, resCT 0 H rfl rfl rfl rfl, s', _, rfl, hs, hr0, H.tail.tail⟩
 ·refine Gq8 H ?_
  (refine K.call rfl rfl rfl ?_; refine (laid_r (all := true) (sv := []) H hr0 (SlS.nil _ _) (by omega)).mono ?_; (try clear H); rintro _ w ⟨s2, v2, rfl, hs2, hr2, H⟩; refine ⟨_, rfl, ?_⟩)
  have hr3 := hr2
  obtain ⟨_, ah2, ch2, aw2, cw2, sa2, sc2, lf2, surv2, rfl, k2, k3, k4, k5, k6⟩ := hr2
  (refine Gq8 H ?_; clear H; (try clear w); intro w H)
  have e : d.flush = (d.powered.1.lay true [], 0) := by simp at hb; simp [DM.flush, hb, DM.lay]
  rw [e]
  exact ⟨_, resCT 0 H rfl rfl rfl rfl, s2, _, rfl, hs.trans hs2, hr3, H.tail.tail⟩
theorem build_wr (n : Int) (b : ByteArray) (w : World) : (Instr.build 233 [(0, .int .i64 n), (1, .string b)].toArray).run Tryz.prog w = .ok (.agg #[.int .i64 n, .string b]) w := by kernel_rfl
theorem Write_r {s : Ro} {w : World} {R : List Asn} {v : Value} {d : DM} {n : Int} {b : List UInt8} (H : Holds s w R) (h : RefS s v d) (hpl : d.pend.length ≤ 100000) (hbl : b.length ≤ 140737488351232) :
  Calls Tryz.prog 150 #[v, .int .i64 n, .string (bst b)] w fun e w' => ∃ s' v', e = .returned (.tuple #[v', .int .i64 (d.write n b).2]) ∧ s.Le s' ∧ RefS s' v' (d.write n b).1 ∧ Holds s' w' R := by
 have h0 := h
 obtain ⟨hw, ah, ch, aw, cw, sa, sc, lf, surv, rfl, h2, h3, h4, h5, h6⟩ := h
 have h256 := hw.hi
 have hww := hw.write n b
 have hpp : d.powered.1.pend.length ≤ d.pend.length := by
  unfold DM.powered DM.crash
  (repeat' split) <;> simp
 have hbs : (bst b).size = b.length := bst_size b
 refine enter Tryz.func150 rfl Tryz.ntmps150 rfl ?_
 by_cases hin : 0 ≤ n ∧ n < d.secs.length
 ·obtain ⟨hn0, hn1⟩ := hin
  have hib : d.inB n = true := by simp [DM.inB]; omega
  by_cases hl : b.length = 64
  ·have hz : ((bst b).size : Int) = 64 := by rw [hbs, hl]; rfl
   repeat' (first | refine Go8 H ?_ | (refine Gs8 H ?_; clear H; (try clear w); intro w H) | (refine Gn H ?_; clear H; (try clear w); intro _ w H))
   (refine K.call rfl rfl rfl ?_; refine (step_r H h0 (by omega)).mono ?_; (try clear H); rintro _ w ⟨s', v', rfl, hs, hr, H⟩; refine ⟨_, rfl, ?_⟩)
   have hr0 := hr
   obtain ⟨hwp, ah', ch', aw', cw', sa', sc', lf', surv', rfl, g2, g3, g4, g5, g6⟩ := hr
   (refine Gq8 H ?_; clear H; (try clear w); intro w H)
   refine C.ite rfl (fun hb => ?_) (fun hb => ?_)
   ·(refine Gq8 H ?_; clear H; (try clear w); intro w H)
    have e : d.write n b = (d.powered.1, 9) := by simp at hb; simp [DM.write, hib, hl, hb]
    rw [e]
    exact ⟨_, resCT 0 H rfl rfl rfl rfl, s', _, rfl, hs, hr0, H.tail.tail⟩
   ·have e : d.write n b = ({ d.powered.1 with pend := d.powered.1.pend ++ [(n.toNat, b)] }, 0) := by simp at hb; simp [DM.write, hib, hl, hb]
    rw [e] at hww ⊢
    have hnn : ((n.toNat : Nat) : Int) = n := by omega
    generalize d.powered.1 = q at *
    (refine Gq8 H ?_; clear H; (try clear w); intro _ w H)
    refine K.app0 0 H rfl (.ro g3) (rwr_one _) (by unfold maxLen; omega) (by omega) rfl rfl rfl ?_; clear H; intro aa cc w H; (try simp only [List.set_cons_zero, List.set_cons_succ, List.eraseIdx_cons_zero, List.eraseIdx_cons_succ] at H)
    refine Gq8 H ?_
    refine K.build [(0, .int .i64 n), (1, .string (bst b))] (.agg #[.int .i64 n, .string (bst b)]) (build_wr _ _) rfl rfl rfl ?_
    refine K.one H rfl rfl (by conv => lhs; whnf) (by rfl) (by rfl) ?_; clear H; (try clear w); intro g1 w H
    refine K.app 1 H rfl (.own 0 _ rfl) (by simp [Value.oneCell']) (by unfold maxLen; omega) (by omega) rfl rfl rfl ?_; clear H; intro a2 c2 w H; (try simp only [List.set_cons_zero, List.set_cons_succ, List.eraseIdx_cons_zero, List.eraseIdx_cons_succ] at H)
    replace H := H.tail
    have hcells : q.pend.flatMap rwr ++ [.int .i64 n, .string (bst b)] = (q.pend ++ [(n.toNat, b)]).flatMap rwr := by simp [rwr, hnn]
    rw [hcells] at H
    obtain ⟨s2, hs2, H, hp2⟩ := H.fixRow
    (refine Gq8 H ?_; clear H; (try clear w); intro w H)
    exact ⟨_, resCT 0 H rfl rfl rfl rfl, s2, _, rfl, hs.trans hs2, ⟨hww, ah', ch', a2, c2, sa', sc', lf', surv', by simp, g2.mono hs2, by simpa using hp2, g4.mono hs2, g5, g6⟩, H.tail.tail⟩
  ·have e : d.write n b = (d, 1) := by simp [DM.write, hib, hl]
   rw [e]
   repeat' (first | refine Go8 H ?_ | (refine Gs8 H ?_; clear H; (try clear w); intro w H) | (refine Gn H ?_; clear H; (try clear w); intro _ w H))
   exact ⟨_, resCT 0 H rfl rfl rfl rfl, s, _, rfl, Ro.Le.refl _, h0, H.tail.tail⟩
 ·have hib : d.inB n = false := by simp [DM.inB]; omega
  have e : d.write n b = (d, 4) := by simp [DM.write, hib]
  rw [e]
  repeat' (first | refine Z H ?_ | (refine Zc ?_ ?_ <;> intro hc <;> first | (exfalso; omega) | skip) | (refine Y ?_; try change C _ _ _ _ _ _) | (refine Zs H ?_; clear H; (try clear w); intro w H) | (refine Zn H ?_; clear H; (try clear w); intro _ w H) | (refine Ze H ?_; clear H; (try clear w); intro gv w H))
  all_goals exact ⟨_, resCT 0 H rfl rfl rfl rfl, s, _, rfl, Ro.Le.refl _, h0, H.tail.tail⟩
theorem cur_curTo (d : DM) (n : Nat) : d.cur n = curTo d n d.pend.length := by unfold DM.cur curTo; rw [List.take_length]
theorem build_rd (n : Int) (w : World) : (Instr.build 74 [(3, .int .i64 n)].toArray).run Tryz.prog w = .ok (.agg #[.slice none 0 0, .slice none 0 0, .bool false, .int .i64 n, .slice none 0 0]) w := by kernel_rfl
theorem zs_bst (i : Nat) : zs i = bst (List.replicate i 0) := rfl
theorem New_r {s : Ro} {w : World} {R : List Asn} {n : Nat} (H : Holds s w R) (h1 : 1 ≤ n) (h2 : n ≤ 256) :
  Calls Tryz.prog 59 #[.int .i64 n] w fun e w' => ∃ s' v', e = .returned (.tuple #[v', .bool true]) ∧ s.Le s' ∧ RefS s' v' (DM.new n) ∧ Holds s' w' R := by
 refine enter Tryz.func59 rfl Tryz.ntmps59 rfl ?_
 repeat' (first | (refine K.build [(3, .int .i64 (-1))] (.agg #[.slice none 0 0, .slice none 0 0, .bool false, .int .i64 (-1), .slice none 0 0]) (build_rd _) rfl rfl rfl ?_) | refine Go8 H ?_ | (refine Gs8 H ?_; clear H; (try clear w); intro w H) | (refine Gn H ?_; clear H; (try clear w); (first | ((fail_if_success (have := bl1)); intro bl1 w H) | ((fail_if_success (have := bl2)); intro bl2 w H) | intro _ w H)))
 replace H := H.nilRow 9 1
 refine C.loopS [5, 14, 15, 16, 17, 18, 19, 20, 21, 22, 23, 24] [5] rfl (fun m vs w => ∃ i : Nat, ∃ aa cc, m = n - i ∧ i ≤ n ∧ vs = [.int .i64 (i : Int)] ∧
    Holds s w (row 9 1 (.slice aa i cc) i (strs (List.replicate i (List.replicate 64 0))) :: var bl2 74 [.slice aa i cc, .slice none 0 0, .bool false, .int .i64 (-1), .slice none 0 0] :: var bl1 74 [.slice none 0 0, .slice none 0 0, .bool false, .int .i64 0, .slice none 0 0] :: R)) n ?_ ?_
 ·exact ⟨0, none, 0, rfl, Nat.zero_le _, rfl, H⟩
 ·rintro m vs hv w ⟨i, aa, cc, rfl, hi, rfl, H⟩
  by_cases hlt : i < n
  ·refine Gq8 H ?_
   refine C.drawn2 [bl2] [0, 1, 2, 2, 3, 0, 3] [3, 1] [0, 1, 0, 4, 15, 31, 63] (by kernel_rfl) ?_
   replace H := H.drew
   refine sgB ?_
   refine Gq8 H ?_
   refine K.call rfl rfl rfl ?_
   refine (Noughts_at _).mono ?_
   rintro _ w' ⟨rfl, rfl⟩
   refine ⟨_, rfl, ?_⟩
   refine L.nil ?_
   refine ⟨rfl, rfl, (by intro q hq; first | exact hq | exact (List.not_mem_nil hq).elim), keep_same, ?_⟩
   refine K.one H rfl rfl (by conv => lhs; whnf) (by rfl) (by rfl) ?_
   intro g1 w1 H1
   refine L.nil ?_
   refine ⟨rfl, rfl, (by intro q hq; first | exact hq | exact (List.not_mem_nil hq).elim), keep_var H H1 (i := 1) (j := 2) rfl rfl, ?_⟩
   clear H
   refine K.app 1 H1 rfl (.own 0 _ rfl) (by simp [Value.oneCell']) (by unfold maxLen; omega) (by omega) rfl rfl rfl ?_; clear H1; intro a2 c2 w H; (try simp only [List.set_cons_zero, List.set_cons_succ, List.eraseIdx_cons_zero, List.eraseIdx_cons_succ] at H)
   replace H := H.tail
   (refine Gq8 H ?_; clear H; (try clear w); intro w H)
   refine ⟨rfl, rfl, (by intro q hq; first | exact hq | exact (List.not_mem_nil hq).elim), keep_same, ?_⟩
   refine Gq8 H ?_
   refine ⟨agr, n - (i + 1), by omega, i + 1, a2, c2, rfl, by omega, rfl, ?_⟩
   rw [List.replicate_succ']
   simpa [strs, zs_bst] using H
  ·have : i = n := by omega
   subst this
   obtain ⟨s2, hs2, H, hp2⟩ := H.fixRow
   (refine Gq8 H ?_; clear H; (try clear w); intro w H)
   exact ⟨_, resCT 1 H rfl rfl rfl rfl, s2, _, rfl, hs2, ⟨DM.Wf.new h1 h2, aa, cc, none, 0, none, 0, -1, [], by simp [DM.new], by simpa [DM.new] using hp2, SlS.nil _ _, SlS.nil _ _, fun h => by simp [DM.new] at h, fun _ => rfl⟩, H.tail.tail⟩
section
variable {s : Ro} {w : World} {R : List Asn} {b : Nat} {d : DM}
def ats (l : List (Nat × List UInt8)) : List Value := l.map fun p => .int .i64 (p.1 : Int)
end
theorem put2_at (n i : Nat) (x : Nat) (hx : x = n / 256 ^ i) : Value.int .u8 ((x % 256 % 2 ^ 8 : Nat) : Int) = u8 (byteAt n i) := by
 subst hx
 have : (byteAt n i).toNat = n / 2 ^ (8 * i) % 2 ^ 8 := by simp [byteAt, Nat.shiftRight_eq_div_pow]
 unfold u8
 rw [this, show (256 : Nat) = 2 ^ 8 by rfl, ← Nat.pow_mul, Nat.mod_mod]
section
variable {s : Ro} {w : World} {R : List Asn}
theorem Put2_s {n size : Nat} (H : Holds s w R) (hn : n < 2 ^ 64) (h8 : size ≤ 8) : Calls Tryz.prog 138 #[.int .u64 (n : Int), .int .i64 (size : Int)] w fun e w' => ∃ aa cc, e = .returned (.slice aa (putN n size).length cc) ∧ Holds s w' (row 5 1 (.slice aa (putN n size).length cc) (putN n size).length (u8s (putN n size)) :: R) := by
 refine enter Tryz.func138 rfl Tryz.ntmps138 rfl ?_
 replace H := H.nilRow 5 1
 refine Gq8 H ?_
 refine C.loopS [0, 5, 6, 9, 10, 11, 12, 13, 14, 15, 16, 17, 18, 19, 20, 21] [0, 5, 6] rfl (fun m vs w => ∃ i : Nat, ∃ aa cc, m = size - i ∧ i ≤ size ∧ vs = [.int .u64 ((n / 256 ^ i : Nat) : Int), .slice aa (putN n i).length cc, .int .i64 (i : Int)] ∧ Holds s w (row 5 1 (.slice aa (putN n i).length cc) (putN n i).length (u8s (putN n i)) :: R)) size ⟨0, none, 0, rfl, Nat.zero_le _, by simp only [Nat.pow_zero, Nat.div_one]; rfl, H⟩ ?_
 clear H
 rintro m vs hv w ⟨i, aa, cc, rfl, hi, rfl, H⟩
 have hpl := putN_len n i
 have hlt64 : n / 256 ^ i < 2 ^ 64 := Nat.lt_of_le_of_lt (Nat.div_le_self _ _) hn
 by_cases hlt : i < size
 ·have hst := put2_at n i _ rfl
  have hnx : n / 256 ^ i / 256 = n / 256 ^ (i + 1) := by rw [Nat.div_div_eq_div_mul, Nat.pow_succ]
  generalize n / 256 ^ i = x at *
  repeat' (first | (refine B.rem ?_) | (refine B.conv Tryz.underlying198 ?_; rw [hst]) | refine Go8 H ?_ | (refine Gs8 H ?_; clear H; (try clear w); intro w H) | (refine Gn H ?_; clear H; (try clear w); intro _ w H))
  refine K.one H rfl rfl (by conv => lhs; whnf) (by rfl) (by rfl) ?_; clear H; (try clear w); intro g1 w H
  have H' : Holds s w (row 5 1 (.slice (some ⟨g1, 0, none⟩) 1 1) 1 (u8s [byteAt n i]) :: row 5 1 (.slice aa (putN n i).length cc) (putN n i).length (u8s (putN n i)) :: R) := H
  clear H
  have H := H'
  clear H'
  repeat' (first | (refine X.app H ?_; clear H; intro a2 c2 w H) | (refine B.quo ?_) | refine Go8 H ?_ | (refine Gs8 H ?_; clear H; (try clear w); intro w H) | (refine Gn H ?_; clear H; (try clear w); intro _ w H))
  refine ⟨agr, size - (i + 1), by omega, i + 1, a2, c2, rfl, by omega, ?_, ?_⟩
  ·rw [← hnx, putN_succ, List.length_append]; rfl
  ·rw [putN_succ, List.length_append, u8s_app]; exact H.arr
 ·have hie : i = size := by omega
  subst hie
  refine Gq8 H ?_
  exact ⟨_, resT rfl, aa, cc, rfl, H⟩
theorem On3_s {l : List UInt8} {a : Option Addr} {c sum : Nat} (H : Holds s w R) (h : SlS s (.slice a l.length c) 1 l.length (u8s l)) (hl : l.length ≤ 1000000) (hs : sum < 2 ^ 32) : Calls Tryz.prog 154 #[.int .u32 (sum : Int), .slice a l.length c] w fun e w' => e = .returned (.int .u32 (crcOn sum l : Int)) ∧ Holds s w' R := by
 have hs0 := Nat.xor_lt_two_pow (x := 2 ^ 32 - 1) (by decide) hs
 have hs1 := not_sub hs
 unfold crcOn
 generalize (2 ^ 32 - 1) ^^^ sum = s0 at *
 refine enter Tryz.func154 rfl Tryz.ntmps154 rfl ?_
 refine Gq8 H ?_
 refine B.sub (a := 4294967295) ?_
 rw [← hs1]
 refine Gq8 H ?_
 refine C.loopH H [5, 6, 7, 8, 9, 12, 13, 14, 15, 16, 17, 18, 19, 20, 21, 22, 23, 24, 25, 26, 27, 28, 29, 30, 31, 32, 33, 34, 35, 36, 37, 38, 39, 40, 41] [5, 6] rfl (fun m vs => ∃ i : Nat, m = l.length - i ∧ i ≤ l.length ∧ vs = [.int .u32 ((l.take i).foldl crcByte s0 : Nat), .int .i64 (i : Int)]) l.length ⟨0, rfl, Nat.zero_le _, rfl⟩ ?_
 clear H
 rintro m vs hv w ⟨i, rfl, hi, rfl⟩ H
 have hb := fold_lt (l.take i) s0 hs0
 by_cases hlt : i < l.length
 ·obtain ⟨g, o, c', hv', _, _, hp⟩ := elemS1 h (by omega)
  cases hv'
  have pn : Pin s g (o + i * 1) (.int .u8 (l[i].toNat : Int)) := by rw [Nat.mul_one]; exact hp i hlt
  have hsu : (l.take (i + 1)).foldl crcByte s0 = crcByte ((l.take i).foldl crcByte s0) l[i] := by rw [List.take_succ_eq_append_getElem hlt, List.foldl_append]; rfl
  rw [← byte_bits] at hsu
  generalize (l.take i).foldl crcByte s0 = r at *
  generalize l[i] = x at *
  have hx8 : x.toNat < 2 ^ 8 := x.toNat_lt
  refine Gq8 H ?_
  refine C.loopH H [5, 7, 8, 9, 18, 19, 20, 21, 22, 23, 24, 25, 26, 27, 28, 29, 30, 31, 32, 33, 34, 35, 36, 37, 38, 39, 40, 41] [5, 7] rfl (fun m vs => ∃ k : Nat, m = 8 - k ∧ k ≤ 8 ∧ vs = [.int .u32 (bitsR r x.toNat k : Nat), .int .i64 (k : Int)]) 8 ⟨0, rfl, Nat.zero_le _, rfl⟩ ?_
  clear H
  rintro m vs hv w ⟨k, rfl, hk, rfl⟩ H
  have hq := bitsR_lt (x := x.toNat) hb k
  by_cases hk8 : k < 8
  ·have hst : bitsR r x.toNat (k + 1) = bitR (bitsR r x.toNat k) ((x.toNat >>> k) % 2) := rfl
   unfold bitR at hst
   have hsh : x.toNat >>> k < 2 ^ 8 := Nat.lt_of_le_of_lt (Nat.shiftRight_le _ _) hx8
   have hkw : k % 2 ^ 64 = k := Nat.mod_eq_of_lt (by omega)
   generalize hn2 : bitsR r x.toNat (k + 1) = p2 at *
   generalize bitsR r x.toNat k = p at *
   repeat' (first | (refine B.conv Tryz.underlying3 ?_; rw [hkw]) | refine Go8 H ?_ | (refine Gs8 H ?_; clear H; (try clear w); intro w H) | (refine Gn H ?_; clear H; (try clear w); intro _ w H))
   refine B.shr ?_
   generalize x.toNat >>> k = y at *
   have hyw : y % 2 ^ 32 = y := Nat.mod_eq_of_lt (by omega)
   refine B.conv Tryz.underlying5 ?_
   rw [hyw]
   refine B.rem (b := 2) ?_
   refine Gq8 H ?_
   refine B.rem (b := 2) ?_
   refine Gq8 H ?_
   refine B.add ?_
   refine B.rem (b := 2) ?_
   refine Gq8 H ?_
   refine B.quo (b := 2) ?_
   repeat' (first | refine Z H ?_ | (refine Zc ?_ ?_ <;> intro hc <;> first | (exfalso; omega) | skip) | (refine Y ?_; try change C _ _ _ _ _ _) | (refine Zs H ?_; clear H; (try clear w); intro w H) | (refine Zn H ?_; clear H; (try clear w); intro _ w H) | (refine Ze H ?_; clear H; (try clear w); intro gv w H))
   ·rw [if_pos (by omega)] at hst
    refine B.bit (b := 2197175160) ?_
    repeat' (first | refine Z H ?_ | (refine Zc ?_ ?_ <;> intro hc <;> first | (exfalso; omega) | skip) | (refine Y ?_; try change C _ _ _ _ _ _) | (refine Zs H ?_; clear H; (try clear w); intro w H) | (refine Zn H ?_; clear H; (try clear w); intro _ w H) | (refine Ze H ?_; clear H; (try clear w); intro gv w H))
    exact ⟨agr, 8 - (k + 1), by omega, ⟨k + 1, rfl, by omega, by rw [hn2, hst]; rfl⟩, H⟩
   ·rw [if_neg (by omega)] at hst
    exact ⟨agr, 8 - (k + 1), by omega, ⟨k + 1, rfl, by omega, by rw [hn2, hst]; rfl⟩, H⟩
  ·have hke : k = 8 := by omega
   subst hke
   refine Gq8 H ?_
   exact ⟨agr, l.length - (i + 1), by omega, ⟨i + 1, rfl, by omega, by rw [hsu]; rfl⟩, H⟩
 ·have hie : i = l.length := by omega
  subst hie
  rw [List.take_length] at hb ⊢
  have hf := not_sub hb
  refine Gq8 H ?_
  refine B.sub (a := 4294967295) ?_
  rw [← hf]
  refine Gq8 H ?_
  exact ⟨_, resT rfl, rfl, H⟩
theorem Of3_s {l : List UInt8} {v : Value} (H : Holds s w R) (h : Src s R v 1 l.length (u8s l)) (hl : l.length ≤ 1000000) : Calls Tryz.prog 149 #[v] w fun e w' => e = .returned (.int .u32 (crcOn 0 l : Int)) ∧ Only [] w w' ∧ Holds s w' R := by
 obtain ⟨a, c, rfl, _⟩ := h.form H
 have key : ∀ {s : Ro} {R : List Asn} (H : Holds s w R) (h : SlS s (.slice a l.length c) 1 l.length (u8s l)), Calls Tryz.prog 149 #[.slice a l.length c] w fun e w' => e = .returned (.int .u32 (crcOn 0 l : Int)) ∧ Holds s w' R := by
  clear H h
  intro s R H h
  refine enter Tryz.func149 rfl Tryz.ntmps149 rfl ?_
  refine Gq8 H ?_
  (refine X.call (On3_s (sum := 0) H h hl (by decide)) ?_; (try clear H); rintro _ w ⟨rfl, H⟩; refine ⟨_, rfl, ?_⟩)
  refine Gq8 H ?_
  exact ⟨_, resT rfl, rfl, H⟩
 exact (key H.full (h.full H)).mono fun e w' ⟨he, H'⟩ => ⟨he, H.pure0 H'⟩
theorem Seal3_s {l : List UInt8} {v : Value} (H : Holds s w R) (h : Src s R v 1 l.length (u8s l)) (hl : l.length ≤ 1000) : Calls Tryz.prog 139 #[v] w fun e w' => ∃ aa cc, e = .returned (.slice aa (sealL l).length cc) ∧ Holds s w' (row 5 1 (.slice aa (sealL l).length cc) (sealL l).length (u8s (sealL l)) :: R) := by
 obtain ⟨a, c, rfl, _⟩ := h.form H
 have hcl := on_lt (sum := 0) (by decide) l
 have hcv : crcOn 0 l % 2 ^ 64 = crcOn 0 l := Nat.mod_eq_of_lt (Nat.lt_trans hcl (by decide))
 have hsl : (sealL l).length = l.length + 4 := by simp [sealL, putN_len]
 have hpl := putN_len (crcOn 0 l) 4
 refine enter Tryz.func139 rfl Tryz.ntmps139 rfl ?_
 (refine Gq8 H ?_; clear H; (try clear w); intro _ w H)
 refine K.app0 0 H rfl h.skip (u8s_one _) (by unfold maxLen; omega) (by omega) rfl rfl rfl ?_
 clear H
 intro a1 c1 w H
 (try simp only [List.set_cons_zero, List.set_cons_succ, List.eraseIdx_cons_zero, List.eraseIdx_cons_succ] at H)
 refine Gq8 H ?_
 (refine X.call (Of3_s H h.skip (by omega)) ?_; (try clear H); rintro _ w ⟨rfl, _, H⟩; refine ⟨_, rfl, ?_⟩)
 repeat' (first | (refine B.conv Tryz.underlying160 ?_; rw [hcv]) | refine Go8 H ?_ | (refine Gs8 H ?_; clear H; (try clear w); intro w H) | (refine Gn H ?_; clear H; (try clear w); intro _ w H))
 (refine X.call (Put2_s (n := crcOn 0 l) (size := 4) H (by omega) (by decide)) ?_; (try clear H); rintro _ w ⟨a2, c2, rfl, H⟩; refine ⟨_, rfl, ?_⟩)
 refine Gq8 H ?_
 refine X.app H ?_
 clear H
 intro a3 c3 w H
 refine Gq8 H ?_
 have e1 : (sealL l).length = l.length + (putN (crcOn 0 l) 4).length := by simp [sealL]
 have e2 : u8s (sealL l) = u8s l ++ u8s (putN (crcOn 0 l) 4) := u8s_app _ _
 refine ⟨_, resT rfl, a3, c3, by rw [e1]; rfl, ?_⟩
 rw [e1, e2]
 exact H.arr
theorem Noughts16_s {n : Nat} (H : Holds s w R) (hn : n ≤ 1000) : Calls Tryz.prog 91 #[.int .i64 (n : Int)] w fun e w' => e = .returned (.string (bst (List.replicate n 0))) ∧ Only [] w w' ∧ Holds s w' R := by
 have key : ∀ {s : Ro} {R : List Asn} (H : Holds s w R), Calls Tryz.prog 91 #[.int .i64 (n : Int)] w fun e w' => e = .returned (.string (bst (List.replicate n 0))) ∧ Holds s w' R := by
  clear H
  intro s R H
  refine enter Tryz.func91 rfl Tryz.ntmps91 rfl ?_
  refine Gq8 H ?_
  refine C.loopH H [3, 4, 5, 6, 7, 8, 9, 10, 11] [3, 4] rfl (fun m vs => ∃ i : Nat, m = n - i ∧ i ≤ n ∧ vs = [.string (bst (List.replicate i 0)), .int .i64 (i : Int)]) n ⟨0, rfl, Nat.zero_le _, rfl⟩ ?_
  clear H
  rintro m vs hv w ⟨i, rfl, hi, rfl⟩ H
  by_cases hlt : i < n
  ·have hsz : (bst (List.replicate i 0)).size = i := by rw [bst_size, List.length_replicate]
   have hs1 : (⟨#[0]⟩ : ByteArray).size = 1 := rfl
   have hap : bst (List.replicate i 0) ++ (⟨#[0]⟩ : ByteArray) = bst (List.replicate (i + 1) 0) := by
    have : (⟨#[0]⟩ : ByteArray) = bst [0] := rfl
    rw [this, bst_app, List.replicate_succ']
   repeat' (first | (refine J.cat (b := ⟨#[0]⟩) ?_ (hl := by rw [hsz, hs1]; omega)) | refine Go8 H ?_ | (refine Gs8 H ?_; clear H; (try clear w); intro w H) | (refine Gn H ?_; clear H; (try clear w); intro _ w H))
   exact ⟨agr, n - (i + 1), by omega, ⟨i + 1, rfl, by omega, by rw [← hap]; rfl⟩, H⟩
  ·have hie : i = n := by omega
   subst hie
   refine Gq8 H ?_
   exact ⟨_, resT rfl, rfl, H⟩
 exact (key H.full).mono fun e w' ⟨he, H'⟩ => ⟨he, H.pure0 H'⟩
end
end Go.Proofs.YtgilmcpdpggikaaGreatDoor
/-
  DERIVED: THE SHELF's CONTRACTS AT THIS DUMP, IN PLAIN WORDS (tools/lay-plain.mjs out of 'YtgilmcpdpggikaaGreatDoorShelf0.lean', which tools/lay-shelf.mjs wrote): THE SAME DECLARATIONS UNDER THE SAME NAMES: 'import', 'namespace', 'open', 'def', 'theorem' AND NOTHING ELSE: no command of the shelf's: FOR A HAND-IN. Each laying: the table of numbers ('.._ren') and one theorem, a field a fact of the dump's own or the kernel's comparison; each contract: ONE APPLICATION.
-/
namespace Go.Shelf
end Go.Shelf
namespace Go.Proofs
open Go.Shelf
end Go.Proofs

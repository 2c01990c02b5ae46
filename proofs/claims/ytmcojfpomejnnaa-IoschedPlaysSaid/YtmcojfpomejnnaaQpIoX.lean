/- IoschedPlays, walked. -/
import Derived.Test.YtmcojfpomejnnaaQpIoW
import Derived.Test.YtmcojfpomejnnaaQpK8t
set_option linter.unusedSimpArgs false
set_option linter.unusedVariables false
namespace Go.Proofs.Ytmcojfpomejnnaa
open Go Go.RowKit Go.Own
/-- both schedules, the disk, and the pieces rs beside them -/
def Bo (s : Ro) (w : World) (b bS bW : Nat) (xs : List Ext) (rooms : List Int) (m : SM) (d : DM) (rs : List Asn) : Prop := ∃ va' cap sa sc ps a0 c0 a1 c1 lf a2 n2 c2 xa xc ra rc la lc ws wa wc va vc, SRep s b ps m ∧ SlS s (.slice sa m.slots.length sc) 1 m.slots.length (m.slots.map (Value.int .i64)) ∧ RFac s xs rooms m d (.agg [.slice a0 d.secs.length c0, .slice a1 d.pend.length c1, .bool d.off, .int .i64 lf, .slice a2 n2 c2].toArray) (.slice xa xs.length xc) (.slice ra rooms.length rc) (.slice la m.slots.length lc) ws ∧ Holds s w (var bS 136 [.slice va' ps.length cap, .slice sa m.slots.length sc, .int .i64 (m.next : Int)] :: row 143 70 (.slice va' ps.length cap) ps.length (ps.flatMap Pr.cells) :: var bW 77 [.slice a0 d.secs.length c0, .slice a1 d.pend.length c1, .bool d.off, .int .i64 lf, .slice a2 n2 c2, .slice xa xs.length xc, .slice ra rooms.length rc, .slice wa m.parts.length wc, .slice va m.parts.length vc, .slice la m.slots.length lc, .int .i64 (m.next : Int)] :: row 89 1 (.slice wa m.parts.length wc) m.parts.length ws :: row 41 1 (.slice va m.parts.length vc) m.parts.length (svd m.parts) :: dsk b d :: rs)
theorem Bd.crash {n : Nat} {m : SM} {d : DM} (h : Bd n m d) (sv : List Bool) : Bd n m (d.crash sv) := ⟨h.last, h.served, h.ep.crash sv⟩
theorem Bd.power {n : Nat} {m : SM} {d : DM} (h : Bd n m d) : Bd n m d.power := ⟨h.last, h.served, h.ep.power⟩
def arFS (b bl : Nat) (xv rv lv : Value) (nr ns : Nat) (rs ls : List Value) : List FS := [
/-  0 -/ FS.v 39 [] (.pointer (some ⟨b, 0, none⟩)),
/-  1 -/ FS.v 40 [] (.pointer (some ⟨bl, 0, none⟩)),
/-  2 -/ FS.v 41 [1] xv,
/-  3 -/ FS.row 42 [] [] 3 1 0 [],
/-  4 -/ FS.v 43 [] (.pointer (some ⟨bl, 1, none⟩)),
/-  5 -/ FS.v 44 [4] rv,
/-  6 -/ FS.row 45 [3, 5] [3] 3 1 nr rs,
/-  7 -/ FS.row 46 [] [] 3 1 0 [],
/-  8 -/ FS.v 47 [] (.pointer (some ⟨bl, 2, none⟩)),
/-  9 -/ FS.v 48 [8] lv,
/- 10 -/ FS.row 49 [7, 9] [7] 3 1 ns ls]
theorem ints_one (l : List Int) : ∀ u ∈ l.map (Value.int .i64), u.oneCell' = true := by
  intro u hu
  obtain ⟨x, _, rfl⟩ := List.mem_map.1 hu
  rfl
theorem Next_e {s : Ro} {w : World} {R : List Asn} {b bS : Nat} {m : SM} (H : Holds s w R) (h : SchR (Own.full s w) b bS m) : Calls Try.prog 34 #[.pointer (some ⟨bS, 0, none⟩)] w fun e w' => e = .returned (.int .i64 (m.next : Int)) ∧ Only [] w w' ∧ Holds s w' R := by
  have hN : Calls Try.prog 34 #[.pointer (some ⟨bS, 0, none⟩)] w fun e w' => e = .returned (.int .i64 (m.next : Int)) ∧ Holds (Own.full s w) w' [] := by
    obtain ⟨va, cap, ps, sv, hr, hp3, hsl⟩ := h
    have p2 : Pin (Own.full s w) bS (0 + 2) (.int .i64 (m.next : Int)) := hp3 2 _ rfl
    replace H := H.full
    refine enter Try.func34 rfl Try.ntmps34 rfl ?_
    repeat' (first | refine Z H ?_ | (refine Zc ?_ ?_ <;> intro hc <;> first | (exfalso; omega) | skip) | (refine Y ?_; try change C _ _ _ _ _ _) | (refine Zs H ?_; clear H; (try clear w); intro w H) | (refine Zn H ?_; clear H; (try clear w); intro _ w H) | (refine Ze H ?_; clear H; (try clear w); intro gv w H))
    exact ⟨_, resT rfl, rfl, H⟩
  exact hN.mono fun e w' ⟨he, H'⟩ => ⟨he, H.pure0 H'⟩
section
variable {s : Ro} {w : World} {R : List Asn} {b : Nat} {d : DM}
/-- a row, in the world in which all is only read -/
theorem row_pinned {el : TypeId} {sz n : Nat} {v : Value} {xs : List Value} {rs : List Asn} (H : Holds s w rs) {i : Nat} (hi : rs[i]? = some (row el sz v n xs)) : SlS (Own.full s w) v sz n xs := by
  obtain ⟨h3, h4⟩ := H.row hi
  rcases h4 with ⟨rfl, rfl⟩ | ⟨g, cap', cur, rfl, _, h5, h6, h7, h8, h9⟩
  · exact ⟨none, 0, rfl, h3, Nat.le_refl _, by simp [maxLen], .inl (List.eq_nil_of_length_eq_zero (by rw [h3, Nat.zero_mul]))⟩
  · refine ⟨_, _, rfl, h3, h6, h7, .inr ⟨g, 0, rfl, fun j x hx => ⟨_, _, _, h5, ?_⟩⟩⟩
    rw [← h9, List.getElem?_take] at hx
    split at hx
    · simpa using hx
    · cases hx
set_option maxRecDepth 100000 in
set_option maxHeartbeats 1000000 in
theorem Waiting_d (H : Holds s w (dsk b d :: R)) (hpl : d.pend.length ≤ 1000000) : Calls Try.prog 37 #[.pointer (some ⟨b, 0, none⟩)] w fun e w' => ∃ aa cc, e = .returned (.slice aa d.pend.length cc) ∧ Only [] w w' ∧ Holds s w' (row 3 1 (.slice aa d.pend.length cc) d.pend.length (ats d.pend) :: dsk b d :: R) := by
  have hw := Holds.wf H
  obtain ⟨bs, vp, vs, H1⟩ := dsk_open H
  have h1 := H1.var (i := 0) rfl
  have hP : SlS (Own.full s w) vp 65 d.pend.length (d.pend.flatMap wcell) := row_pinned H1 (i := 2) rfl
  have pb : ∀ j v, ([.slice (some ⟨bs, 0, none⟩) d.secs.length d.secs.length, vp, .bool d.off, .bool d.armed, .int .i64 d.left, vs] : List Value)[j]? = some v → Pin (Own.full s w) b (0 + j) v := fun j v hj => ⟨_, _, _, h1, by simpa using hj⟩
  have p1 : Pin (Own.full s w) b (0 + 1) vp := pb 1 _ rfl
  have HF := H.full
  clear H1 h1 pb
  obtain ⟨va, vc, rfl, _⟩ := formS hP
  have key : Calls Try.prog 37 #[.pointer (some ⟨b, 0, none⟩)] w fun e w' => ∃ aa cc, e = .returned (.slice aa d.pend.length cc) ∧ Holds (Own.full s w) w' [row 3 1 (.slice aa d.pend.length cc) d.pend.length (ats d.pend)] := by
    generalize Own.full s w = sF at *
    clear H
    have H := HF
    clear HF
    refine enter Try.func37 rfl Try.ntmps37 rfl ?_
    replace H := H.nilRow 3 1
    repeat' (first | refine Z H ?_ | (refine Zc ?_ ?_ <;> intro hc <;> first | (exfalso; omega) | skip) | (refine Y ?_; try change C _ _ _ _ _ _) | (refine Zs H ?_; clear H; (try clear w); intro w H) | (refine Zn H ?_; clear H; (try clear w); intro _ w H) | (refine Ze H ?_; clear H; (try clear w); intro gv w H))
    refine C.loopS [3, 5, 11, 12, 13, 14, 15, 16, 17, 18, 19, 20] [3, 11] rfl (fun m vs_ w => ∃ i : Nat, ∃ aa cc, m = d.pend.length - i ∧ i ≤ d.pend.length ∧ vs_ = [.slice aa i cc, .int .i64 (i : Int)] ∧ Holds sF w (row 3 1 (.slice aa i cc) i (ats (d.pend.take i)) :: [])) d.pend.length ⟨0, none, 0, rfl, Nat.zero_le _, rfl, H⟩ ?_
    clear H
    rintro m vs_ hv w ⟨i, aa, cc, rfl, hi, rfl, H⟩
    by_cases hlt : i < d.pend.length
    · obtain ⟨gp, op, cp, hv3, _, _, hpin⟩ := elemS hP (fun p hp => wcell_len (hw.pnd p hp).2) (by decide) (by omega)
      cases hv3
      have hl65 := wcell_len (hw.pnd _ (List.getElem_mem hlt)).2
      have hone := wcell_one d.pend[i]
      have hpi := hpin i hlt
      have hsn : ats (d.pend.take (i + 1)) = ats (d.pend.take i) ++ [.int .i64 (d.pend[i].1 : Int)] := by unfold ats; rw [take_snoc' _ hlt, List.map_append, List.map_singleton]
      have hwc : ∃ r, wcell d.pend[i] = .int .i64 (d.pend[i].1 : Int) :: r := ⟨_, rfl⟩
      obtain ⟨r, hwc⟩ := hwc
      rw [hwc] at hl65 hone hpi
      clear hpin
      generalize d.pend[i] = pi at *
      repeat' (first | (refine K.loadAllS H hpi rfl rfl rfl rfl hl65 ?_) | (refine K.storeAll 0 H rfl rfl rfl (xs := .int .i64 (pi.1 : Int) :: r) rfl (List.all_eq_true.2 hone) hl65 rfl ?_; clear H; (try clear w); intro w H; (try simp only [List.set_cons_zero, List.set_cons_succ, List.eraseIdx_cons_zero, List.eraseIdx_cons_succ] at H)) | refine Z H ?_ | (refine Zc ?_ ?_ <;> intro hc <;> first | (exfalso; omega) | skip) | (refine Y ?_; try change C _ _ _ _ _ _) | (refine Zs H ?_; clear H; (try clear w); intro w H) | (refine Zn H ?_; clear H; (try clear w); intro _ w H) | (refine Ze H ?_; clear H; (try clear w); intro gv w H))
      refine K.one H rfl rfl (by conv => lhs; whnf) (by rfl) (by rfl) ?_; clear H; (try clear w); intro g1 w H
      refine K.app 2 H rfl (.own 0 _ rfl) (by simp [Value.oneCell']) (by unfold maxLen; omega) (by omega) rfl rfl rfl ?_; clear H; intro a2 c2 w H; (try simp only [List.set_cons_zero, List.set_cons_succ, List.eraseIdx_cons_zero, List.eraseIdx_cons_succ] at H)
      replace H := H.tail.tail
      repeat' (first | refine Z H ?_ | (refine Zc ?_ ?_ <;> intro hc <;> first | (exfalso; omega) | skip) | (refine Y ?_; try change C _ _ _ _ _ _) | (refine Zs H ?_; clear H; (try clear w); intro w H) | (refine Zn H ?_; clear H; (try clear w); intro _ w H) | (refine Ze H ?_; clear H; (try clear w); intro gv w H))
      refine ⟨by (repeat (first | exact Agr.refl | exact Agr.hav | refine Agr.upd rfl ?_ | refine Agr.in rfl ?_)), d.pend.length - (i + 1), by omega, i + 1, a2, c2, rfl, by omega, rfl, ?_⟩
      rw [hsn]; exact H
    · have : i = d.pend.length := by omega
      subst this
      rw [List.take_length] at H
      repeat' (first | refine Z H ?_ | (refine Zc ?_ ?_ <;> intro hc <;> first | (exfalso; omega) | skip) | (refine Y ?_; try change C _ _ _ _ _ _) | (refine Zs H ?_; clear H; (try clear w); intro w H) | (refine Zn H ?_; clear H; (try clear w); intro _ w H) | (refine Ze H ?_; clear H; (try clear w); intro gv w H))
      exact ⟨_, resT rfl, _, _, rfl, H⟩
  exact key.mono fun e w' ⟨aa, cc, he, H'⟩ => ⟨aa, cc, he, H.pure1 H'⟩
end
set_option maxRecDepth 100000 in
set_option maxHeartbeats 1000000 in
theorem iplays_walk {s : Ro} {w : World} {x : Shp} {av : Value} {acts : List Act15} (H : Holds s w []) (hx : x.Ok s) (ha : SlS s av 8 acts.length (acts.flatMap Act15.cells)) (hok : ∀ a ∈ acts, a.Ok s) :
    Calls Try.prog 4 #[.agg x.cells.toArray, av] w fun e w' => e = .returned (.bool true) ∧ Fin s w' := by
  obtain ⟨aa, ac, rfl, _⟩ := formS ha
  have hf := hx.few
  obtain ⟨_, _, e1, h1, h1'⟩ := slS_shape hx.hx
  obtain ⟨_, _, e2, h2, h2'⟩ := slS_shape hx.hr
  obtain ⟨_, _, e3, h3, h3'⟩ := slS_shape hx.hl
  cases e1; cases e2; cases e3
  obtain ⟨xs0, rooms0, slots0, ya, yra, yla, yc, yrc, ylc⟩ := x
  dsimp only at h1 h2 h3 h1' h2' h3'
  have hbx : (xs0.take 10).length ≤ 10 := by rw [List.length_take]; omega
  have hbr : (rooms0.take 10).length ≤ 10 := by rw [List.length_take]; omega
  have hbl : (slots0.take 34).length ≤ 34 := by rw [List.length_take]; omega
  refine enter Try.func4 rfl Try.ntmps4 rfl ?_
  dsimp only [Shp.cells]
  repeat' (first | refine Z H ?_ | (refine Zc ?_ ?_ <;> intro hc <;> first | (exfalso; omega) | skip) | (refine Y ?_; try change C _ _ _ _ _ _) | (refine Zs H ?_; clear H; (try clear w); intro w H) | (refine Zn H ?_; clear H; (try clear w); (first | ((fail_if_success (have := bl1)); intro bl1 w H) | ((fail_if_success (have := bl2)); intro bl2 w H) | ((fail_if_success (have := bl3)); intro bl3 w H) | ((fail_if_success (have := bl4)); intro bl4 w H) | intro _ w H)) | (refine Ze H ?_; clear H; (try clear w); intro gv w H))
  (refine X.call (few_s H h1 h2 h3 h1' h2' h3') ?_; (try clear H); rintro _ w ⟨rfl, H⟩; refine ⟨_, rfl, ?_⟩)
  obtain ⟨hxs, hxo, hrs, hls⟩ := hf
  dsimp only [Shp.few] at hxs hxo hrs hls
  clear h1 h2 h3 h1' h2' h3' hx
  generalize xs0.take 10 = xs at *
  generalize rooms0.take 10 = rooms at *
  generalize slots0.take 34 = slots at *
  repeat' (first | refine Z H ?_ | (refine Zc ?_ ?_ <;> intro hc <;> first | (exfalso; omega) | skip) | (refine Y ?_; try change C _ _ _ _ _ _) | (refine Zs H ?_; clear H; (try clear w); intro w H) | (refine Zn H ?_; clear H; (try clear w); (first | ((fail_if_success (have := bl1)); intro bl1 w H) | ((fail_if_success (have := bl2)); intro bl2 w H) | ((fail_if_success (have := bl3)); intro bl3 w H) | ((fail_if_success (have := bl4)); intro bl4 w H) | intro _ w H)) | (refine Ze H ?_; clear H; (try clear w); intro gv w H))
  (refine X.call (New_s (n := 16) H (by decide) (by decide)) ?_; (try clear H); rintro _ w ⟨b, rfl, H⟩; refine ⟨_, rfl, ?_⟩)
  repeat' (first | refine Z H ?_ | (refine Zc ?_ ?_ <;> intro hc <;> first | (exfalso; omega) | skip) | (refine Y ?_; try change C _ _ _ _ _ _) | (refine Zs H ?_; clear H; (try clear w); intro w H) | (refine Zn H ?_; clear H; (try clear w); (first | ((fail_if_success (have := bl1)); intro bl1 w H) | ((fail_if_success (have := bl2)); intro bl2 w H) | ((fail_if_success (have := bl3)); intro bl3 w H) | ((fail_if_success (have := bl4)); intro bl4 w H) | intro _ w H)) | (refine Ze H ?_; clear H; (try clear w); intro gv w H))
  (refine X.call (New_r (n := 16) H (by decide) (by decide)) ?_; (try clear H); rintro _ w ⟨s1, v1, rfl, hs1, hR, H⟩; refine ⟨_, rfl, ?_⟩)
  obtain ⟨a0, c0, a1, c1, lf, a2, n2, c2, rfl⟩ := hR.cells'
  repeat' (first | refine Z H ?_ | (refine Zc ?_ ?_ <;> intro hc <;> first | (exfalso; omega) | skip) | (refine Y ?_; try change C _ _ _ _ _ _) | (refine Zs H ?_; clear H; (try clear w); intro w H) | (refine Zn H ?_; clear H; (try clear w); (first | ((fail_if_success (have := bl1)); intro bl1 w H) | ((fail_if_success (have := bl2)); intro bl2 w H) | ((fail_if_success (have := bl3)); intro bl3 w H) | ((fail_if_success (have := bl4)); intro bl4 w H) | intro _ w H)) | (refine Ze H ?_; clear H; (try clear w); intro gv w H))
  generalize hd0 : DM.new 16 = d at *
  have e16 : (d.secs.length : Int) = 16 := by rw [← hd0]; rfl
  have hs0 := hs1
  clear hs1
  refine C.flow2 (arFS b bl1 (.slice ya xs.length yc) (.slice yra rooms.length yrc) (.slice yla slots.length ylc) rooms.length slots.length (rooms.map (Value.int .i64)) (slots.map (Value.int .i64))) [0, 2, 6, 10] [0, 1, 2, 4, 5, 6, 8, 9, 10] H (by kernel_rfl) rfl rfl ?_ ?_
  · repeat' (first | exact StepsF.nil | refine StepsF.cons ?_ ?_)
    · intro s1 h w E hs1; (conv => whnf); intro H; replace H : Holds s1 w (var bl2 63 [.slice a0 d.secs.length c0, .slice a1 d.pend.length c1, .bool d.off, .int .i64 lf, .slice a2 n2 c2] :: dsk b d :: var bl1 58 [.slice ya xs.length yc, .slice yra rooms.length yrc, .slice yla slots.length ylc] :: E) := H
      repeat' (first | refine Z H ?_ | (refine Zc ?_ ?_ <;> intro hc <;> first | (exfalso; omega) | skip) | (refine Y ?_; try change C _ _ _ _ _ _) | (refine Zs H ?_; clear H; (try clear w); intro w H) | (refine Zn H ?_; clear H; (try clear w); (first | ((fail_if_success (have := bl1)); intro bl1 w H) | ((fail_if_success (have := bl2)); intro bl2 w H) | ((fail_if_success (have := bl3)); intro bl3 w H) | ((fail_if_success (have := bl4)); intro bl4 w H) | intro _ w H)) | (refine Ze H ?_; clear H; (try clear w); intro gv w H))
      exact ⟨rfl, by (repeat (first | exact Agr.refl | exact Agr.hav | refine Agr.upd rfl ?_ | refine Agr.in rfl ?_)), s1, Ro.Le.refl _, rfl, H⟩
    · intro s1 h w E hs1; (conv => whnf); intro H; replace H : Holds s1 w (var bl2 63 [.slice a0 d.secs.length c0, .slice a1 d.pend.length c1, .bool d.off, .int .i64 lf, .slice a2 n2 c2] :: dsk b d :: var bl1 58 [.slice ya xs.length yc, .slice yra rooms.length yrc, .slice yla slots.length ylc] :: E) := H
      repeat' (first | refine Z H ?_ | (refine Zc ?_ ?_ <;> intro hc <;> first | (exfalso; omega) | skip) | (refine Y ?_; try change C _ _ _ _ _ _) | (refine Zs H ?_; clear H; (try clear w); intro w H) | (refine Zn H ?_; clear H; (try clear w); (first | ((fail_if_success (have := bl1)); intro bl1 w H) | ((fail_if_success (have := bl2)); intro bl2 w H) | ((fail_if_success (have := bl3)); intro bl3 w H) | ((fail_if_success (have := bl4)); intro bl4 w H) | intro _ w H)) | (refine Ze H ?_; clear H; (try clear w); intro gv w H))
      exact ⟨rfl, by (repeat (first | exact Agr.refl | exact Agr.hav | refine Agr.upd rfl ?_ | refine Agr.in rfl ?_)), s1, Ro.Le.refl _, rfl, H⟩
    · intro s1 h w E hs1; (conv => whnf); rintro _ rfl; (conv => whnf); intro H; replace H : Holds s1 w (var bl2 63 [.slice a0 d.secs.length c0, .slice a1 d.pend.length c1, .bool d.off, .int .i64 lf, .slice a2 n2 c2] :: dsk b d :: var bl1 58 [.slice ya xs.length yc, .slice yra rooms.length yrc, .slice yla slots.length ylc] :: E) := H
      repeat' (first | refine Z H ?_ | (refine Zc ?_ ?_ <;> intro hc <;> first | (exfalso; omega) | skip) | (refine Y ?_; try change C _ _ _ _ _ _) | (refine Zs H ?_; clear H; (try clear w); intro w H) | (refine Zn H ?_; clear H; (try clear w); (first | ((fail_if_success (have := bl1)); intro bl1 w H) | ((fail_if_success (have := bl2)); intro bl2 w H) | ((fail_if_success (have := bl3)); intro bl3 w H) | ((fail_if_success (have := bl4)); intro bl4 w H) | intro _ w H)) | (refine Ze H ?_; clear H; (try clear w); intro gv w H))
      exact ⟨rfl, by (repeat (first | exact Agr.refl | exact Agr.hav | refine Agr.upd rfl ?_ | refine Agr.in rfl ?_)), s1, Ro.Le.refl _, rfl, H⟩
    · intro s1 h w E hs1; (conv => whnf); intro H; replace H : Holds s1 w (var bl2 63 [.slice a0 d.secs.length c0, .slice a1 d.pend.length c1, .bool d.off, .int .i64 lf, .slice a2 n2 c2] :: dsk b d :: var bl1 58 [.slice ya xs.length yc, .slice yra rooms.length yrc, .slice yla slots.length ylc] :: E) := H
      repeat' (first | refine Z H ?_ | (refine Zc ?_ ?_ <;> intro hc <;> first | (exfalso; omega) | skip) | (refine Y ?_; try change C _ _ _ _ _ _) | (refine Zs H ?_; clear H; (try clear w); intro w H) | (refine Zn H ?_; clear H; (try clear w); (first | ((fail_if_success (have := bl1)); intro bl1 w H) | ((fail_if_success (have := bl2)); intro bl2 w H) | ((fail_if_success (have := bl3)); intro bl3 w H) | ((fail_if_success (have := bl4)); intro bl4 w H) | intro _ w H)) | (refine Ze H ?_; clear H; (try clear w); intro gv w H))
      exact ⟨rfl, by (repeat (first | exact Agr.refl | exact Agr.hav | refine Agr.upd rfl ?_ | refine Agr.in rfl ?_)), s1, Ro.Le.refl _, ⟨_, _, rfl⟩, H⟩
    · intro s1 h w E hs1; (conv => whnf); intro H; replace H : Holds s1 w (var bl2 63 [.slice a0 d.secs.length c0, .slice a1 d.pend.length c1, .bool d.off, .int .i64 lf, .slice a2 n2 c2] :: dsk b d :: var bl1 58 [.slice ya xs.length yc, .slice yra rooms.length yrc, .slice yla slots.length ylc] :: E) := H
      repeat' (first | refine Z H ?_ | (refine Zc ?_ ?_ <;> intro hc <;> first | (exfalso; omega) | skip) | (refine Y ?_; try change C _ _ _ _ _ _) | (refine Zs H ?_; clear H; (try clear w); intro w H) | (refine Zn H ?_; clear H; (try clear w); (first | ((fail_if_success (have := bl1)); intro bl1 w H) | ((fail_if_success (have := bl2)); intro bl2 w H) | ((fail_if_success (have := bl3)); intro bl3 w H) | ((fail_if_success (have := bl4)); intro bl4 w H) | intro _ w H)) | (refine Ze H ?_; clear H; (try clear w); intro gv w H))
      exact ⟨rfl, by (repeat (first | exact Agr.refl | exact Agr.hav | refine Agr.upd rfl ?_ | refine Agr.in rfl ?_)), s1, Ro.Le.refl _, rfl, H⟩
    · intro s1 h w E hs1; (conv => whnf); rintro _ rfl; (conv => whnf); intro H; replace H : Holds s1 w (var bl2 63 [.slice a0 d.secs.length c0, .slice a1 d.pend.length c1, .bool d.off, .int .i64 lf, .slice a2 n2 c2] :: dsk b d :: var bl1 58 [.slice ya xs.length yc, .slice yra rooms.length yrc, .slice yla slots.length ylc] :: E) := H
      repeat' (first | refine Z H ?_ | (refine Zc ?_ ?_ <;> intro hc <;> first | (exfalso; omega) | skip) | (refine Y ?_; try change C _ _ _ _ _ _) | (refine Zs H ?_; clear H; (try clear w); intro w H) | (refine Zn H ?_; clear H; (try clear w); (first | ((fail_if_success (have := bl1)); intro bl1 w H) | ((fail_if_success (have := bl2)); intro bl2 w H) | ((fail_if_success (have := bl3)); intro bl3 w H) | ((fail_if_success (have := bl4)); intro bl4 w H) | intro _ w H)) | (refine Ze H ?_; clear H; (try clear w); intro gv w H))
      exact ⟨rfl, by (repeat (first | exact Agr.refl | exact Agr.hav | refine Agr.upd rfl ?_ | refine Agr.in rfl ?_)), s1, Ro.Le.refl _, rfl, H⟩
    · intro s1 h w E hs1; (conv => whnf); rintro _ ⟨q1, q2, rfl⟩; (conv => whnf); rintro _ rfl; (conv => whnf); intro H; replace H : Holds s1 w (row 3 1 (.slice q1 0 q2) 0 [] :: var bl2 63 [.slice a0 d.secs.length c0, .slice a1 d.pend.length c1, .bool d.off, .int .i64 lf, .slice a2 n2 c2] :: dsk b d :: var bl1 58 [.slice ya xs.length yc, .slice yra rooms.length yrc, .slice yla slots.length ylc] :: E) := H
      refine K.app0 0 H rfl (.ro (hrs.mono (hs0.trans hs1))) (ints_one _) (by unfold maxLen; omega) (by omega) rfl rfl rfl ?_
      clear H
      intro q3 q4 w H
      (try simp only [List.set_cons_zero, List.set_cons_succ, List.eraseIdx_cons_zero, List.eraseIdx_cons_succ] at H)
      repeat' (first | refine Z H ?_ | (refine Zc ?_ ?_ <;> intro hc <;> first | (exfalso; omega) | skip) | (refine Y ?_; try change C _ _ _ _ _ _) | (refine Zs H ?_; clear H; (try clear w); intro w H) | (refine Zn H ?_; clear H; (try clear w); (first | ((fail_if_success (have := bl1)); intro bl1 w H) | ((fail_if_success (have := bl2)); intro bl2 w H) | ((fail_if_success (have := bl3)); intro bl3 w H) | ((fail_if_success (have := bl4)); intro bl4 w H) | intro _ w H)) | (refine Ze H ?_; clear H; (try clear w); intro gv w H))
      exact ⟨rfl, by (repeat (first | exact Agr.refl | exact Agr.hav | refine Agr.upd rfl ?_ | refine Agr.in rfl ?_)), s1, Ro.Le.refl _, ⟨_, _, rfl⟩, H⟩
    · intro s1 h w E hs1; (conv => whnf); intro H; replace H : Holds s1 w (var bl2 63 [.slice a0 d.secs.length c0, .slice a1 d.pend.length c1, .bool d.off, .int .i64 lf, .slice a2 n2 c2] :: dsk b d :: var bl1 58 [.slice ya xs.length yc, .slice yra rooms.length yrc, .slice yla slots.length ylc] :: E) := H
      repeat' (first | refine Z H ?_ | (refine Zc ?_ ?_ <;> intro hc <;> first | (exfalso; omega) | skip) | (refine Y ?_; try change C _ _ _ _ _ _) | (refine Zs H ?_; clear H; (try clear w); intro w H) | (refine Zn H ?_; clear H; (try clear w); (first | ((fail_if_success (have := bl1)); intro bl1 w H) | ((fail_if_success (have := bl2)); intro bl2 w H) | ((fail_if_success (have := bl3)); intro bl3 w H) | ((fail_if_success (have := bl4)); intro bl4 w H) | intro _ w H)) | (refine Ze H ?_; clear H; (try clear w); intro gv w H))
      exact ⟨rfl, by (repeat (first | exact Agr.refl | exact Agr.hav | refine Agr.upd rfl ?_ | refine Agr.in rfl ?_)), s1, Ro.Le.refl _, ⟨_, _, rfl⟩, H⟩
    · intro s1 h w E hs1; (conv => whnf); intro H; replace H : Holds s1 w (var bl2 63 [.slice a0 d.secs.length c0, .slice a1 d.pend.length c1, .bool d.off, .int .i64 lf, .slice a2 n2 c2] :: dsk b d :: var bl1 58 [.slice ya xs.length yc, .slice yra rooms.length yrc, .slice yla slots.length ylc] :: E) := H
      repeat' (first | refine Z H ?_ | (refine Zc ?_ ?_ <;> intro hc <;> first | (exfalso; omega) | skip) | (refine Y ?_; try change C _ _ _ _ _ _) | (refine Zs H ?_; clear H; (try clear w); intro w H) | (refine Zn H ?_; clear H; (try clear w); (first | ((fail_if_success (have := bl1)); intro bl1 w H) | ((fail_if_success (have := bl2)); intro bl2 w H) | ((fail_if_success (have := bl3)); intro bl3 w H) | ((fail_if_success (have := bl4)); intro bl4 w H) | intro _ w H)) | (refine Ze H ?_; clear H; (try clear w); intro gv w H))
      exact ⟨rfl, by (repeat (first | exact Agr.refl | exact Agr.hav | refine Agr.upd rfl ?_ | refine Agr.in rfl ?_)), s1, Ro.Le.refl _, rfl, H⟩
    · intro s1 h w E hs1; (conv => whnf); rintro _ rfl; (conv => whnf); intro H; replace H : Holds s1 w (var bl2 63 [.slice a0 d.secs.length c0, .slice a1 d.pend.length c1, .bool d.off, .int .i64 lf, .slice a2 n2 c2] :: dsk b d :: var bl1 58 [.slice ya xs.length yc, .slice yra rooms.length yrc, .slice yla slots.length ylc] :: E) := H
      repeat' (first | refine Z H ?_ | (refine Zc ?_ ?_ <;> intro hc <;> first | (exfalso; omega) | skip) | (refine Y ?_; try change C _ _ _ _ _ _) | (refine Zs H ?_; clear H; (try clear w); intro w H) | (refine Zn H ?_; clear H; (try clear w); (first | ((fail_if_success (have := bl1)); intro bl1 w H) | ((fail_if_success (have := bl2)); intro bl2 w H) | ((fail_if_success (have := bl3)); intro bl3 w H) | ((fail_if_success (have := bl4)); intro bl4 w H) | intro _ w H)) | (refine Ze H ?_; clear H; (try clear w); intro gv w H))
      exact ⟨rfl, by (repeat (first | exact Agr.refl | exact Agr.hav | refine Agr.upd rfl ?_ | refine Agr.in rfl ?_)), s1, Ro.Le.refl _, rfl, H⟩
    · intro s1 h w E hs1; (conv => whnf); rintro _ ⟨q1, q2, rfl⟩; (conv => whnf); rintro _ rfl; (conv => whnf); intro H; replace H : Holds s1 w (row 3 1 (.slice q1 0 q2) 0 [] :: var bl2 63 [.slice a0 d.secs.length c0, .slice a1 d.pend.length c1, .bool d.off, .int .i64 lf, .slice a2 n2 c2] :: dsk b d :: var bl1 58 [.slice ya xs.length yc, .slice yra rooms.length yrc, .slice yla slots.length ylc] :: E) := H
      refine K.app0 0 H rfl (.ro (hls.mono (hs0.trans hs1))) (ints_one _) (by unfold maxLen; omega) (by omega) rfl rfl rfl ?_
      clear H
      intro q3 q4 w H
      (try simp only [List.set_cons_zero, List.set_cons_succ, List.eraseIdx_cons_zero, List.eraseIdx_cons_succ] at H)
      repeat' (first | refine Z H ?_ | (refine Zc ?_ ?_ <;> intro hc <;> first | (exfalso; omega) | skip) | (refine Y ?_; try change C _ _ _ _ _ _) | (refine Zs H ?_; clear H; (try clear w); intro w H) | (refine Zn H ?_; clear H; (try clear w); (first | ((fail_if_success (have := bl1)); intro bl1 w H) | ((fail_if_success (have := bl2)); intro bl2 w H) | ((fail_if_success (have := bl3)); intro bl3 w H) | ((fail_if_success (have := bl4)); intro bl4 w H) | intro _ w H)) | (refine Ze H ?_; clear H; (try clear w); intro gv w H))
      exact ⟨rfl, by (repeat (first | exact Agr.refl | exact Agr.hav | refine Agr.upd rfl ?_ | refine Agr.in rfl ?_)), s1, Ro.Le.refl _, ⟨_, _, rfl⟩, H⟩
  intro s1 h w hs1; (conv => whnf); rintro _ rfl; (conv => whnf); rintro _ rfl; (conv => whnf); rintro _ ⟨q1, q2, rfl⟩; (conv => whnf); rintro _ ⟨q3, q4, rfl⟩; (conv => whnf); intro H; replace H : Holds s1 w (row 3 1 (.slice q1 rooms.length q2) rooms.length (rooms.map (Value.int .i64)) :: row 3 1 (.slice q3 slots.length q4) slots.length (slots.map (Value.int .i64)) :: var bl2 63 [.slice a0 d.secs.length c0, .slice a1 d.pend.length c1, .bool d.off, .int .i64 lf, .slice a2 n2 c2] :: dsk b d :: var bl1 58 [.slice ya xs.length yc, .slice yra rooms.length yrc, .slice yla slots.length ylc] :: []) := H
  change L _ _ _ _ [_, _, _, _, _, _] _ _
  obtain ⟨s2, hs2, H, hr2⟩ := H.fixRow
  obtain ⟨s3, hs3, H, hl3⟩ := H.fixRow
  have hle := hs0.trans (hs1.trans (hs2.trans hs3))
  replace hR := hR.mono (hs1.trans (hs2.trans hs3))
  clear hs0 hs1
  replace hr2 := hr2.mono hs3
  replace hxs := hxs.mono hle
  replace hrs := hrs.mono hle
  replace hls := hls.mono hle
  first | (have hT : Holds _ _ (dsk b _ :: _) := H; clear hT) | (replace H := H.up 1 rfl; (try simp only [List.set_cons_zero, List.set_cons_succ, List.eraseIdx_cons_zero, List.eraseIdx_cons_succ] at H); have hT : Holds _ _ (dsk b _ :: _) := H; clear hT) | (replace H := H.up 2 rfl; (try simp only [List.set_cons_zero, List.set_cons_succ, List.eraseIdx_cons_zero, List.eraseIdx_cons_succ] at H); have hT : Holds _ _ (dsk b _ :: _) := H; clear hT) | (replace H := H.up 3 rfl; (try simp only [List.set_cons_zero, List.set_cons_succ, List.eraseIdx_cons_zero, List.eraseIdx_cons_succ] at H); have hT : Holds _ _ (dsk b _ :: _) := H; clear hT) | (replace H := H.up 4 rfl; (try simp only [List.set_cons_zero, List.set_cons_succ, List.eraseIdx_cons_zero, List.eraseIdx_cons_succ] at H); have hT : Holds _ _ (dsk b _ :: _) := H; clear hT) | (replace H := H.up 5 rfl; (try simp only [List.set_cons_zero, List.set_cons_succ, List.eraseIdx_cons_zero, List.eraseIdx_cons_succ] at H); have hT : Holds _ _ (dsk b _ :: _) := H; clear hT) | (replace H := H.up 6 rfl; (try simp only [List.set_cons_zero, List.set_cons_succ, List.eraseIdx_cons_zero, List.eraseIdx_cons_succ] at H); have hT : Holds _ _ (dsk b _ :: _) := H; clear hT)
  have hN := New_q H hxs hxo hr2 hl3 (by omega) (by omega) (by omega)
  rw [e16] at hN
  have hM := fun (s : Ro) (w : World) (R : List Asn) (H : Holds s w R) (aa : Option Addr) (cc : Nat) h1 h2 h3 => May_r (n := 16) (xs := xs) (rooms := rooms) (slots := slots) (xa := aa) (xc := cc) (ra := yra) (rc := yrc) (la := yla) (lc := ylc) H (by decide) h1 hxo h2 h3 (by omega) (by omega) (by omega)
  by_cases hmay : mayM 16 xs rooms slots = 0
  rotate_left
  · have hN' := hN.mono (R' := fun e w' => e = .returned (.tuple #[.pointer none, .int .i64 (mayM 16 xs rooms slots)]) ∧ Holds s3 w' (dsk b d :: var bl2 63 [.slice a0 d.secs.length c0, .slice a1 d.pend.length c1, .bool d.off, .int .i64 lf, .slice a2 n2 c2] :: var bl1 58 [.slice ya xs.length yc, .slice yra rooms.length yrc, .slice yla slots.length ylc] :: [])) (fun e w' h => by
      rcases h with ⟨_, h1, h2⟩ | ⟨h, _⟩
      · exact ⟨h1, h2⟩
      · exact absurd h hmay)
    clear hN
    (refine X.call (hN') ?_; (try clear H); rintro _ w ⟨rfl, H⟩; refine ⟨_, rfl, ?_⟩)
    clear hN'
    repeat' (first | refine Z H ?_ | (refine Zc ?_ ?_ <;> intro hc <;> first | (exfalso; omega) | skip) | (refine Y ?_; try change C _ _ _ _ _ _) | (refine Zs H ?_; clear H; (try clear w); intro w H) | (refine Zn H ?_; clear H; (try clear w); (first | ((fail_if_success (have := bl1)); intro bl1 w H) | ((fail_if_success (have := bl2)); intro bl2 w H) | ((fail_if_success (have := bl3)); intro bl3 w H) | ((fail_if_success (have := bl4)); intro bl4 w H) | intro _ w H)) | (refine Ze H ?_; clear H; (try clear w); intro gv w H))
    refine ⟨rfl, ?_⟩
    repeat' (first | refine Z H ?_ | (refine Zc ?_ ?_ <;> intro hc <;> first | (exfalso; omega) | skip) | (refine Y ?_; try change C _ _ _ _ _ _) | (refine Zs H ?_; clear H; (try clear w); intro w H) | (refine Zn H ?_; clear H; (try clear w); (first | ((fail_if_success (have := bl1)); intro bl1 w H) | ((fail_if_success (have := bl2)); intro bl2 w H) | ((fail_if_success (have := bl3)); intro bl3 w H) | ((fail_if_success (have := bl4)); intro bl4 w H) | intro _ w H)) | (refine Ze H ?_; clear H; (try clear w); intro gv w H))
    refine C.drawn5 [0, 1, 3, 4, 5, 6, 2, 7, 8] [0, 4, 0, 1, 0, 1, 2, 3, 0] [7, 1] [0, 1, 3, 0, 8, 0, 32, 127, 255] (by kernel_rfl) ?_; replace H := H.drew; simp only [Reg.pick, List.filterMap_cons, List.filterMap_nil, List.getElem?_toArray, List.getElem?_cons_zero, List.getElem?_cons_succ, segN, List.take_succ_cons, List.take_zero, List.drop_succ_cons, List.drop_zero]
    repeat' (first | refine Z H ?_ | (refine Zc ?_ ?_ <;> intro hc <;> first | (exfalso; omega) | skip) | (refine Y ?_; try change C _ _ _ _ _ _) | (refine Zs H ?_; clear H; (try clear w); intro w H) | (refine Zn H ?_; clear H; (try clear w); (first | ((fail_if_success (have := bl1)); intro bl1 w H) | ((fail_if_success (have := bl2)); intro bl2 w H) | ((fail_if_success (have := bl3)); intro bl3 w H) | ((fail_if_success (have := bl4)); intro bl4 w H) | intro _ w H)) | (refine Ze H ?_; clear H; (try clear w); intro gv w H))
    (refine X.call (pairs_e (xs := xs) H hxs (by omega)) ?_; (try clear H); rintro _ w ⟨p1, p2, rfl, ho, H⟩; refine ⟨_, rfl, ?_⟩); refine L.nil ?_; refine ⟨rfl, rfl, (by first | exact fun h => Bool.noConfusion (show false = true from h) | exact fun _ => ext_same | exact fun _ => ext_only (by assumption)), ?_⟩
    clear ho
    obtain ⟨s4, hs4, H, hp1⟩ := H.fixRow
    have hM' := hM _ _ _ H p1 p2 hp1 (hrs.mono hs4) (hls.mono hs4)
    rw [show ((16 : Nat) : Int) = 16 from rfl] at hM'
    (refine X.call (hM') ?_; (try clear H); rintro _ w ⟨rfl, H⟩; refine ⟨_, rfl, ?_⟩); refine L.nil ?_; refine ⟨rfl, rfl, (by first | exact fun h => Bool.noConfusion (show false = true from h) | exact fun _ => ext_same | exact fun _ => ext_only (by assumption)), ?_⟩
    clear hM hM'
    generalize mayM 16 xs rooms slots = mm at *
    repeat' (first | refine Z H ?_ | (refine Zc ?_ ?_ <;> intro hc <;> first | (exfalso; omega) | skip) | (refine Y ?_; try change C _ _ _ _ _ _) | (refine Zs H ?_; clear H; (try clear w); intro w H) | (refine Zn H ?_; clear H; (try clear w); (first | ((fail_if_success (have := bl1)); intro bl1 w H) | ((fail_if_success (have := bl2)); intro bl2 w H) | ((fail_if_success (have := bl3)); intro bl3 w H) | ((fail_if_success (have := bl4)); intro bl4 w H) | intro _ w H)) | (refine Ze H ?_; clear H; (try clear w); intro gv w H))
    (refine X.call (awake15 H) ?_; (try clear H); rintro _ w ⟨rfl, H⟩; refine ⟨_, rfl, ?_⟩)
    repeat' (first | refine Z H ?_ | (refine Zc ?_ ?_ <;> intro hc <;> first | (exfalso; omega) | skip) | (refine Y ?_; try change C _ _ _ _ _ _) | (refine Zs H ?_; clear H; (try clear w); intro w H) | (refine Zn H ?_; clear H; (try clear w); (first | ((fail_if_success (have := bl1)); intro bl1 w H) | ((fail_if_success (have := bl2)); intro bl2 w H) | ((fail_if_success (have := bl3)); intro bl3 w H) | ((fail_if_success (have := bl4)); intro bl4 w H) | intro _ w H)) | (refine Ze H ?_; clear H; (try clear w); intro gv w H))
    exact ⟨_, resT rfl, rfl, H.done (hle.trans hs4)⟩
  have hN' := hN.mono (R' := fun e w' => ∃ s' bS, e = .returned (.tuple #[.pointer (some ⟨bS, 0, none⟩), .int .i64 0]) ∧ s3.Le s' ∧ Sch s' w' b bS (SM.new xs rooms slots) (dsk b d :: var bl2 63 [.slice a0 d.secs.length c0, .slice a1 d.pend.length c1, .bool d.off, .int .i64 lf, .slice a2 n2 c2] :: var bl1 58 [.slice ya xs.length yc, .slice yra rooms.length yrc, .slice yla slots.length ylc] :: [])) (fun e w' h => by
    rcases h with ⟨h, _⟩ | ⟨_, h⟩
    · exact absurd hmay h
    · exact h)
  clear hN
  (refine X.call (hN') ?_; (try clear H); rintro _ w ⟨s4, bS, rfl, hs4, hS⟩; refine ⟨_, rfl, ?_⟩)
  clear hN'
  have hPl := Pl.new hmay hxo
  have hBd : Bd 0 (SM.new xs rooms slots) d := by rw [← hd0]; exact Bd.new xs rooms slots
  generalize hm0 : SM.new xs rooms slots = m at *
  obtain ⟨va', cap, sa, sc, ps, hr, hsl, H⟩ := hS
  repeat' (first | refine Z H ?_ | (refine Zc ?_ ?_ <;> intro hc <;> first | (exfalso; omega) | skip) | (refine Y ?_; try change C _ _ _ _ _ _) | (refine Zs H ?_; clear H; (try clear w); intro w H) | (refine Zn H ?_; clear H; (try clear w); (first | ((fail_if_success (have := bl1)); intro bl1 w H) | ((fail_if_success (have := bl2)); intro bl2 w H) | ((fail_if_success (have := bl3)); intro bl3 w H) | ((fail_if_success (have := bl4)); intro bl4 w H) | intro _ w H)) | (refine Ze H ?_; clear H; (try clear w); intro gv w H))
  refine ⟨rfl, ?_⟩
  repeat' (first | refine Z H ?_ | (refine Zc ?_ ?_ <;> intro hc <;> first | (exfalso; omega) | skip) | (refine Y ?_; try change C _ _ _ _ _ _) | (refine Zs H ?_; clear H; (try clear w); intro w H) | (refine Zn H ?_; clear H; (try clear w); (first | ((fail_if_success (have := bl1)); intro bl1 w H) | ((fail_if_success (have := bl2)); intro bl2 w H) | ((fail_if_success (have := bl3)); intro bl3 w H) | ((fail_if_success (have := bl4)); intro bl4 w H) | intro _ w H)) | (refine Ze H ?_; clear H; (try clear w); intro gv w H))
  replace hxs := hxs.mono hs4
  replace hrs := hrs.mono hs4
  replace hls := hls.mono hs4
  replace hR := hR.mono hs4
  refine C.drawn5 [0, 1, 3, 4, 5, 6, 2, 7, 8] [0, 4, 0, 1, 0, 1, 2, 3, 0] [7, 1] [0, 1, 3, 0, 8, 0, 32, 127, 255] (by kernel_rfl) ?_; replace H := H.drew; simp only [Reg.pick, List.filterMap_cons, List.filterMap_nil, List.getElem?_toArray, List.getElem?_cons_zero, List.getElem?_cons_succ, segN, List.take_succ_cons, List.take_zero, List.drop_succ_cons, List.drop_zero]
  repeat' (first | refine Z H ?_ | (refine Zc ?_ ?_ <;> intro hc <;> first | (exfalso; omega) | skip) | (refine Y ?_; try change C _ _ _ _ _ _) | (refine Zs H ?_; clear H; (try clear w); intro w H) | (refine Zn H ?_; clear H; (try clear w); (first | ((fail_if_success (have := bl1)); intro bl1 w H) | ((fail_if_success (have := bl2)); intro bl2 w H) | ((fail_if_success (have := bl3)); intro bl3 w H) | ((fail_if_success (have := bl4)); intro bl4 w H) | intro _ w H)) | (refine Ze H ?_; clear H; (try clear w); intro gv w H))
  (refine X.call (pairs_e (xs := xs) H hxs (by omega)) ?_; (try clear H); rintro _ w ⟨p1, p2, rfl, ho, H⟩; refine ⟨_, rfl, ?_⟩); refine L.nil ?_; refine ⟨rfl, rfl, (by first | exact fun h => Bool.noConfusion (show false = true from h) | exact fun _ => ext_same | exact fun _ => ext_only (by assumption)), ?_⟩
  clear ho
  obtain ⟨s5, hs5, H, hp1⟩ := H.fixRow
  have hM' := hM _ _ _ H p1 p2 hp1 (hrs.mono hs5) (hls.mono hs5)
  rw [show ((16 : Nat) : Int) = 16 from rfl, hmay] at hM'
  (refine X.call (hM') ?_; (try clear H); rintro _ w ⟨rfl, H⟩; refine ⟨_, rfl, ?_⟩); refine L.nil ?_; refine ⟨rfl, rfl, (by first | exact fun h => Bool.noConfusion (show false = true from h) | exact fun _ => ext_same | exact fun _ => ext_only (by assumption)), ?_⟩
  clear hM hM' hp1
  repeat' (first | refine Z H ?_ | (refine Zc ?_ ?_ <;> intro hc <;> first | (exfalso; omega) | skip) | (refine Y ?_; try change C _ _ _ _ _ _) | (refine Zs H ?_; clear H; (try clear w); intro w H) | (refine Zn H ?_; clear H; (try clear w); (first | ((fail_if_success (have := bl1)); intro bl1 w H) | ((fail_if_success (have := bl2)); intro bl2 w H) | ((fail_if_success (have := bl3)); intro bl3 w H) | ((fail_if_success (have := bl4)); intro bl4 w H) | intro _ w H)) | (refine Ze H ?_; clear H; (try clear w); intro gv w H))
  refine C.drawn5 [0, 1, 2, 4, 5, 6, 7, 3, 8, 9] [1, 0, 4, 0, 1, 0, 1, 2, 3, 0] [8, 1] [0, 0, 2, 6, 0, 16, 0, 64, 255, 511] (by kernel_rfl) ?_; replace H := H.drew; simp only [Reg.pick, List.filterMap_cons, List.filterMap_nil, List.getElem?_toArray, List.getElem?_cons_zero, List.getElem?_cons_succ, segN, List.take_succ_cons, List.take_zero, List.drop_succ_cons, List.drop_zero]
  repeat' (first | refine Z H ?_ | (refine Zc ?_ ?_ <;> intro hc <;> first | (exfalso; omega) | skip) | (refine Y ?_; try change C _ _ _ _ _ _) | (refine Zs H ?_; clear H; (try clear w); intro w H) | (refine Zn H ?_; clear H; (try clear w); (first | ((fail_if_success (have := bl1)); intro bl1 w H) | ((fail_if_success (have := bl2)); intro bl2 w H) | ((fail_if_success (have := bl3)); intro bl3 w H) | ((fail_if_success (have := bl4)); intro bl4 w H) | intro _ w H)) | (refine Ze H ?_; clear H; (try clear w); intro gv w H))
  (refine X.call (pairs_e (xs := xs) H (hxs.mono hs5) (by omega)) ?_; (try clear H); rintro _ w ⟨p3, p4, rfl, ho, H⟩; refine ⟨_, rfl, ?_⟩); refine L.nil ?_; refine ⟨rfl, rfl, (by first | exact fun h => Bool.noConfusion (show false = true from h) | exact fun _ => ext_same | exact fun _ => ext_only (by assumption)), ?_⟩
  clear ho
  obtain ⟨s6, hs6, H, hp1⟩ := H.fixRow
  have hle6 := hs5.trans hs6
  have hNr := RNew_s H (hR.mono hle6) hp1 (hrs.mono hle6) (hls.mono hle6) hPl.rl hPl.few
  rw [hm0] at hNr
  (refine X.call (hNr) ?_; (try clear H); rintro _ w ⟨s7, bW, rfl, hs7, hRS⟩; refine ⟨_, rfl, ?_⟩); refine L.nil ?_; refine ⟨rfl, rfl, (by first | exact fun h => Bool.noConfusion (show false = true from h) | exact fun _ => ext_same | exact fun _ => ext_only (by assumption)), ?_⟩
  clear hNr
  obtain ⟨a0, c0, a1, c1, lf, a2, n2, c2, xa, xc, ra, rc, la, lc, ws, wa, wc, va, vc, hf, H⟩ := hRS
  have hle7 := hle6.trans hs7
  replace hr := hr.mono hle7
  replace hsl := hsl.mono hle7
  replace hle := hle.trans (hs4.trans hle7)
  clear hxs hrs hls hR hs4 hs5 hs6 hs7 hle6 hle7 hp1 hr2 hl3
  repeat' (first | ((fail_if_success (with_reducible show C _ _ _ (Code.seq (Code.seq (Code.region 13 _ _) _) _) _ _)); refine Z H ?_) | (refine Zc ?_ ?_ <;> intro hc <;> first | (exfalso; omega) | skip) | (refine Y ?_; try change C _ _ _ _ _ _) | (refine Zs H ?_; clear H; (try clear w); intro w H) | (refine Zn H ?_; clear H; (try clear w); (first | ((fail_if_success (have := bl1)); intro bl1 w H) | ((fail_if_success (have := bl2)); intro bl2 w H) | ((fail_if_success (have := bl3)); intro bl3 w H) | ((fail_if_success (have := bl4)); intro bl4 w H) | intro _ w H)) | (refine Ze H ?_; clear H; (try clear w); intro gv w H))
  refine C.cut [4, 13, 14, 15, 16, 17, 18, 19, 20, 21, 22, 23, 24, 25, 84, 85, 86, 87, 88, 89, 90, 91, 92, 93, 94, 95, 96, 97, 98, 99, 100, 101, 102, 103, 104, 105, 106, 107, 108, 109, 110, 111, 112, 113, 114, 115, 116, 117, 118, 119, 120, 121, 122, 123, 124, 125, 126, 127, 128, 129, 130, 131, 132, 133, 134, 135, 136, 137, 138, 139, 140, 141, 142, 143, 144, 145, 146, 147, 148, 149, 150, 151, 152, 153, 154, 155, 156, 157, 158, 159, 160, 161, 162, 163, 164, 165, 166, 167, 168, 169, 170, 171, 172, 173, 174, 175, 176, 177, 178, 179, 180, 181, 182, 183, 184, 185, 186, 187, 188, 189, 190, 191, 192, 193, 194, 195, 196, 197, 198, 199, 200, 201, 202, 203, 204, 205, 206, 207, 208, 209, 210, 211, 212, 213, 214, 215, 216, 217, 218, 219, 220, 221, 222, 223, 224, 225, 226, 227, 228, 229, 230, 231, 232, 233, 234, 235, 236, 237, 238, 239, 240, 241, 242, 243, 244, 245, 246, 247, 248, 249, 250, 251, 252] [] rfl (fun vs w => ∃ s' m d, s7.Le s' ∧ Pl xs rooms m ∧ Bo s' w b bS bW xs rooms m d (var bl1 58 [.slice ya xs.length yc, .slice yra rooms.length yrc, .slice yla slots.length ylc] :: [])) ?_ ?_
  rotate_left
  · clear H hr hsl hf hPl hBd hm0 hmay hd0 e16
    rintro vs hv w ⟨s8, m, d, hs8, hPl, va', cap, sa, sc, ps, a0, c0, a1, c1, lf, a2, n2, c2, xa, xc, ra, rc, la, lc, ws, wa, wc, va, vc, hr, hsl, hf, H⟩
    have hw0 : m.waiting (-1) = 0 := rfl
    have hv0 : m.servedN (xs.length : Int) = 0 := by
      unfold SM.servedN
      rw [if_pos (by omega), Int.toNat_natCast, List.getElem?_eq_none (by rw [hPl.len]; exact Nat.le_refl _)]
      rfl
    repeat' (first | refine Z H ?_ | (refine Zc ?_ ?_ <;> intro hc <;> first | (exfalso; omega) | skip) | (refine Y ?_; try change C _ _ _ _ _ _) | (refine Zs H ?_; clear H; (try clear w); intro w H) | (refine Zn H ?_; clear H; (try clear w); (first | ((fail_if_success (have := bl1)); intro bl1 w H) | ((fail_if_success (have := bl2)); intro bl2 w H) | ((fail_if_success (have := bl3)); intro bl3 w H) | ((fail_if_success (have := bl4)); intro bl4 w H) | intro _ w H)) | (refine Ze H ?_; clear H; (try clear w); intro gv w H))
    have hS := Sch.close (b := b) (bS := bS) (va := va') (sa := sa) (cap := cap) (sc := sc) (d := d) hr hsl H
    have hW := Waiting_e (i := -1) H hS.pinned
    rw [hw0] at hW
    (refine X.call (hW) ?_; (try clear H); rintro _ w ⟨rfl, ho, H⟩; refine ⟨_, rfl, ?_⟩)
    clear ho hW hS
    repeat' (first | refine Z H ?_ | (refine Zc ?_ ?_ <;> intro hc <;> first | (exfalso; omega) | skip) | (refine Y ?_; try change C _ _ _ _ _ _) | (refine Zs H ?_; clear H; (try clear w); intro w H) | (refine Zn H ?_; clear H; (try clear w); (first | ((fail_if_success (have := bl1)); intro bl1 w H) | ((fail_if_success (have := bl2)); intro bl2 w H) | ((fail_if_success (have := bl3)); intro bl3 w H) | ((fail_if_success (have := bl4)); intro bl4 w H) | intro _ w H)) | (refine Ze H ?_; clear H; (try clear w); intro gv w H))
    have hS := Sch.close (b := b) (bS := bS) (va := va') (sa := sa) (cap := cap) (sc := sc) (d := d) hr hsl H
    have hV := Served_e (i := (xs.length : Int)) H hS.pinned
    rw [hv0] at hV
    (refine X.call (hV) ?_; (try clear H); rintro _ w ⟨rfl, ho, H⟩; refine ⟨_, rfl, ?_⟩)
    clear ho hV hS
    repeat' (first | refine Z H ?_ | (refine Zc ?_ ?_ <;> intro hc <;> first | (exfalso; omega) | skip) | (refine Y ?_; try change C _ _ _ _ _ _) | (refine Zs H ?_; clear H; (try clear w); intro w H) | (refine Zn H ?_; clear H; (try clear w); (first | ((fail_if_success (have := bl1)); intro bl1 w H) | ((fail_if_success (have := bl2)); intro bl2 w H) | ((fail_if_success (have := bl3)); intro bl3 w H) | ((fail_if_success (have := bl4)); intro bl4 w H) | intro _ w H)) | (refine Ze H ?_; clear H; (try clear w); intro gv w H))
    (refine X.call (awake15 H) ?_; (try clear H); rintro _ w ⟨rfl, H⟩; refine ⟨_, rfl, ?_⟩)
    repeat' (first | refine Z H ?_ | (refine Zc ?_ ?_ <;> intro hc <;> first | (exfalso; omega) | skip) | (refine Y ?_; try change C _ _ _ _ _ _) | (refine Zs H ?_; clear H; (try clear w); intro w H) | (refine Zn H ?_; clear H; (try clear w); (first | ((fail_if_success (have := bl1)); intro bl1 w H) | ((fail_if_success (have := bl2)); intro bl2 w H) | ((fail_if_success (have := bl3)); intro bl3 w H) | ((fail_if_success (have := bl4)); intro bl4 w H) | intro _ w H)) | (refine Ze H ?_; clear H; (try clear w); intro gv w H))
    exact ⟨_, resT rfl, rfl, H.done (hle.trans hs8)⟩
  repeat' (first | refine Z H ?_ | (refine Zc ?_ ?_ <;> intro hc <;> first | (exfalso; omega) | skip) | (refine Y ?_; try change C _ _ _ _ _ _) | (refine Zs H ?_; clear H; (try clear w); intro w H) | (refine Zn H ?_; clear H; (try clear w); (first | ((fail_if_success (have := bl1)); intro bl1 w H) | ((fail_if_success (have := bl2)); intro bl2 w H) | ((fail_if_success (have := bl3)); intro bl3 w H) | ((fail_if_success (have := bl4)); intro bl4 w H) | intro _ w H)) | (refine Ze H ?_; clear H; (try clear w); intro gv w H))
  refine C.loopS [4, 13, 14, 15, 16, 17, 18, 19, 20, 21, 22, 23, 24, 25, 84, 85, 86, 87, 88, 89, 90, 91, 92, 93, 94, 95, 96, 97, 98, 99, 100, 101, 102, 103, 104, 105, 106, 107, 108, 109, 110, 111, 112, 113, 114, 115, 116, 117, 118, 119, 120, 121, 122, 123, 124, 125, 126, 127, 128, 129, 130, 131, 132, 133, 134, 135, 136, 137, 138, 139, 140, 141, 142, 143, 144, 145, 146, 147, 148, 149, 150, 151, 152, 153, 154, 155, 156, 157, 158, 159, 160, 161, 162, 163, 164, 165, 166, 167, 168, 169, 170, 171, 172, 173, 174, 175, 176, 177, 178, 179, 180, 181, 182, 183, 184, 185, 186, 187, 188, 189, 190, 191, 192, 193, 194, 195, 196, 197, 198, 199, 200, 201, 202, 203, 204, 205, 206, 207, 208, 209, 210, 211, 212, 213, 214, 215, 216, 217, 218, 219, 220, 221, 222, 223, 224, 225, 226, 227, 228, 229, 230, 231, 232, 233, 234, 235, 236, 237, 238, 239, 240, 241, 242, 243, 244, 245, 246, 247, 248, 249, 250, 251, 252] [13] rfl (fun k vs w => ∃ (i : Nat) (s' : Ro) (m : SM) (d : DM), k = 60 - i ∧ i ≤ 60 ∧ vs = [.int .i64 (i : Int)] ∧ s7.Le s' ∧ Pl xs rooms m ∧ Bd i m d ∧ Bo s' w b bS bW xs rooms m d (var bl1 58 [.slice ya xs.length yc, .slice yra rooms.length yrc, .slice yla slots.length ylc] :: [])) 60 ⟨0, s7, m, d, rfl, by omega, rfl, Ro.Le.refl _, hPl, hBd, va', cap, sa, sc, ps, a0, c0, a1, c1, lf, a2, n2, c2, xa, xc, ra, rc, la, lc, ws, wa, wc, va, vc, hr, hsl, hf, H.arr⟩ ?_
  clear H hr hsl hf hPl hBd hm0 hmay hd0 e16
  rintro k vs hv w ⟨i, s8, m, d, rfl, hi, rfl, hs8, hPl, hBd, va', cap, sa, sc, ps, a0, c0, a1, c1, lf, a2, n2, c2, xa, xc, ra, rc, la, lc, ws, wa, wc, va, vc, hr, hsl, hf, H⟩
  by_cases hlt : i < acts.length ∧ i < 60
  rotate_left
  · repeat' (first | refine Z H ?_ | (refine Zc ?_ ?_ <;> intro hc <;> first | (exfalso; omega) | skip) | (refine Y ?_; try change C _ _ _ _ _ _) | (refine Zs H ?_; clear H; (try clear w); intro w H) | (refine Zn H ?_; clear H; (try clear w); (first | ((fail_if_success (have := bl1)); intro bl1 w H) | ((fail_if_success (have := bl2)); intro bl2 w H) | ((fail_if_success (have := bl3)); intro bl3 w H) | ((fail_if_success (have := bl4)); intro bl4 w H) | intro _ w H)) | (refine Ze H ?_; clear H; (try clear w); intro gv w H))
    all_goals exact ⟨by (repeat (first | exact Agr.refl | exact Agr.hav | refine Agr.upd rfl ?_ | refine Agr.in rfl ?_)), s8, m, d, hs8, hPl, va', cap, sa, sc, ps, a0, c0, a1, c1, lf, a2, n2, c2, xa, xc, ra, rc, la, lc, ws, wa, wc, va, vc, hr, hsl, hf, H.arr⟩
  obtain ⟨hlt, hi6⟩ := hlt
  replace ha := ha.mono (hle.trans hs8)
  have hak := (hok acts[i] (List.getElem_mem _)).mono (hle.trans hs8)
  obtain ⟨ga, oa, ca, hv2, _, _, hpin⟩ := elemS ha (fun _ _ => rfl) (by decide) (by omega)
  cases hv2
  have pa0 : ∀ j v, (acts[i].cells)[j]? = some v → Pin s8 ga (oa + i * 8 + j) v := hpin i hlt
  clear hpin
  generalize acts[i] = a at *
  obtain ⟨ado, ap, akind, aat, adata, afill, aoff, akv, akeep⟩ := a
  obtain ⟨ka, kc, hkv, _, _⟩ := slS_shape hak.keep
  simp only at hkv
  subst hkv
  have pa : ∀ j v, ([.int .i64 ado, .int .i64 ap, .int .i64 akind, .int .i64 aat, .bool adata, u8 afill, .int .i64 aoff, .slice ka akeep.length kc] : List Value)[j]? = some v → Pin s8 ga (oa + i * 8 + j) v := pa0
  clear pa0
  have hkeep : SlS s8 (.slice ka akeep.length kc) 1 akeep.length (akeep.map Value.bool) := hak.keep
  have hpl := hBd.ep.pl
  repeat' (first | ((fail_if_success (with_reducible show C _ _ _ (Code.seq (Code.seq (Code.region 17 _ _) _) _) _ _)); refine Z H ?_) | (refine Zc ?_ ?_ <;> intro hc <;> first | (exfalso; omega) | skip) | (refine Y ?_; try change C _ _ _ _ _ _) | (refine Zs H ?_; clear H; (try clear w); intro w H) | (refine Zn H ?_; clear H; (try clear w); (first | ((fail_if_success (have := bl1)); intro bl1 w H) | ((fail_if_success (have := bl2)); intro bl2 w H) | ((fail_if_success (have := bl3)); intro bl3 w H) | ((fail_if_success (have := bl4)); intro bl4 w H) | intro _ w H)) | (refine Ze H ?_; clear H; (try clear w); intro gv w H))
  refine C.cut [4, 15, 16, 17, 18, 19, 20, 21, 22, 23, 24, 98, 99, 100, 101, 102, 103, 104, 105, 106, 107, 108, 109, 110, 111, 112, 113, 114, 115, 116, 117, 118, 119, 120, 121, 122, 123, 124, 125, 126, 127, 128, 129, 130, 131, 132, 133, 134, 135, 136, 137, 138, 139, 140, 141, 142, 143, 144, 145, 146, 147, 148, 149, 150, 151, 152, 153, 154, 155, 156, 157, 158, 159, 160, 161, 162, 163, 164, 165, 166, 167, 168, 169, 170, 171, 172, 173, 174, 175, 176, 177, 178, 179, 180, 181, 182, 183, 184, 185, 186, 187, 188, 189, 190] [] rfl (fun vs w => ∃ s' m' d', s8.Le s' ∧ Pl xs rooms m' ∧ Bd (i + 1) m' d' ∧ Bo s' w b bS bW xs rooms m' d' (var bl1 58 [.slice ya xs.length yc, .slice yra rooms.length yrc, .slice yla slots.length ylc] :: [])) ?_ ?_
  rotate_left
  · clear H hr hsl hf hPl hBd hpl
    rintro vs hv1 w ⟨s9, m, d, hs9, hPl, hBd, va', cap, sa, sc, ps, a0, c0, a1, c1, lf, a2, n2, c2, xa, xc, ra, rc, la, lc, ws, wa, wc, va, vc, hr, hsl, hf, H⟩
    have hpl := hBd.ep.pl
    repeat' (first | refine Z H ?_ | (refine Zc ?_ ?_ <;> intro hc <;> first | (exfalso; omega) | skip) | (refine Y ?_; try change C _ _ _ _ _ _) | (refine Zs H ?_; clear H; (try clear w); intro w H) | (refine Zn H ?_; clear H; (try clear w); (first | ((fail_if_success (have := bl1)); intro bl1 w H) | ((fail_if_success (have := bl2)); intro bl2 w H) | ((fail_if_success (have := bl3)); intro bl3 w H) | ((fail_if_success (have := bl4)); intro bl4 w H) | intro _ w H)) | (refine Ze H ?_; clear H; (try clear w); intro gv w H))
    refine C.drawn5 [0, 2, 3, 4, 5, 1, 6, 7, 8, 11, 12, 13, 14, 9, 10, 15, 16, 17, 18, 19, 22, 23, 24, 25, 26, 27, 20, 21, 28, 29] [0, 0, 0, 0, 1, 2, 0, 0, 0, 0, 0, 0, 1, 2, 1, 2, 0, 0, 0, 0, 0, 0, 0, 0, 1, 0, 2, 0, 0, 0] [6, 8, 2, 11] [0, 1, 0, 4, 12, 28, 63, 127, 255, 511, 1023, 255, 2303, 6399, 14591, 31743, 65535, 131071, 262143, 524287, 1048575, 2097151, 524287, 4718591, 13107199, 29884415, 63438847, 130547711, 268435455, 536870911] (by kernel_rfl) ?_; replace H := H.drew; simp only [Reg.pick, List.filterMap_cons, List.filterMap_nil, List.getElem?_toArray, List.getElem?_cons_zero, List.getElem?_cons_succ, segN, List.take_succ_cons, List.take_zero, List.drop_succ_cons, List.drop_zero]
    repeat' (first | (refine X.ldp [.slice a0 d.secs.length c0, .slice a1 d.pend.length c1, .bool d.off, .int .i64 lf, .slice a2 n2 c2] H ?_) | refine Z H ?_ | (refine Zc ?_ ?_ <;> intro hc <;> first | (exfalso; omega) | skip) | (refine Y ?_; try change C _ _ _ _ _ _) | (refine Zs H ?_; clear H; (try clear w); intro w H) | (refine Zn H ?_; clear H; (try clear w); (first | ((fail_if_success (have := bl1)); intro bl1 w H) | ((fail_if_success (have := bl2)); intro bl2 w H) | ((fail_if_success (have := bl3)); intro bl3 w H) | ((fail_if_success (have := bl4)); intro bl4 w H) | intro _ w H)) | (refine Ze H ?_; clear H; (try clear w); intro gv w H))
    have hS := Sch.close (b := b) (bS := bS) (va := va') (sa := sa) (cap := cap) (sc := sc) (d := d) hr hsl H
    (refine X.call (Next_e H hS.pinned) ?_; (try clear H); rintro _ w ⟨rfl, ho, H⟩; refine ⟨_, rfl, ?_⟩); refine L.nil ?_; refine ⟨rfl, rfl, (by first | exact fun h => Bool.noConfusion (show false = true from h) | exact fun _ => ext_same | exact fun _ => ext_only (by assumption)), ?_⟩
    clear ho hS
    repeat' (first | (refine X.ldp [.slice a0 d.secs.length c0, .slice a1 d.pend.length c1, .bool d.off, .int .i64 lf, .slice a2 n2 c2] H ?_) | refine Z H ?_ | (refine Zc ?_ ?_ <;> intro hc <;> first | (exfalso; omega) | skip) | (refine Y ?_; try change C _ _ _ _ _ _) | (refine Zs H ?_; clear H; (try clear w); intro w H) | (refine Zn H ?_; clear H; (try clear w); (first | ((fail_if_success (have := bl1)); intro bl1 w H) | ((fail_if_success (have := bl2)); intro bl2 w H) | ((fail_if_success (have := bl3)); intro bl3 w H) | ((fail_if_success (have := bl4)); intro bl4 w H) | intro _ w H)) | (refine Ze H ?_; clear H; (try clear w); intro gv w H))
    first | (have hT : Holds _ _ (dsk b _ :: _) := H; clear hT) | (replace H := H.up 1 rfl; (try simp only [List.set_cons_zero, List.set_cons_succ, List.eraseIdx_cons_zero, List.eraseIdx_cons_succ] at H); have hT : Holds _ _ (dsk b _ :: _) := H; clear hT) | (replace H := H.up 2 rfl; (try simp only [List.set_cons_zero, List.set_cons_succ, List.eraseIdx_cons_zero, List.eraseIdx_cons_succ] at H); have hT : Holds _ _ (dsk b _ :: _) := H; clear hT) | (replace H := H.up 3 rfl; (try simp only [List.set_cons_zero, List.set_cons_succ, List.eraseIdx_cons_zero, List.eraseIdx_cons_succ] at H); have hT : Holds _ _ (dsk b _ :: _) := H; clear hT) | (replace H := H.up 4 rfl; (try simp only [List.set_cons_zero, List.set_cons_succ, List.eraseIdx_cons_zero, List.eraseIdx_cons_succ] at H); have hT : Holds _ _ (dsk b _ :: _) := H; clear hT) | (replace H := H.up 5 rfl; (try simp only [List.set_cons_zero, List.set_cons_succ, List.eraseIdx_cons_zero, List.eraseIdx_cons_succ] at H); have hT : Holds _ _ (dsk b _ :: _) := H; clear hT) | (replace H := H.up 6 rfl; (try simp only [List.set_cons_zero, List.set_cons_succ, List.eraseIdx_cons_zero, List.eraseIdx_cons_succ] at H); have hT : Holds _ _ (dsk b _ :: _) := H; clear hT)
    (refine X.call (Image_d H) ?_; (try clear H); rintro _ w ⟨t1, p1, p2, rfl, ho, H⟩; refine ⟨_, rfl, ?_⟩); refine L.nil ?_; refine ⟨rfl, rfl, (by first | exact fun h => Bool.noConfusion (show false = true from h) | exact fun _ => ext_same | exact fun _ => ext_only (by assumption)), ?_⟩
    clear ho
    repeat' (first | (refine X.ldp [.slice a0 d.secs.length c0, .slice a1 d.pend.length c1, .bool d.off, .int .i64 lf, .slice a2 n2 c2] H ?_) | refine Z H ?_ | (refine Zc ?_ ?_ <;> intro hc <;> first | (exfalso; omega) | skip) | (refine Y ?_; try change C _ _ _ _ _ _) | (refine Zs H ?_; clear H; (try clear w); intro w H) | (refine Zn H ?_; clear H; (try clear w); (first | ((fail_if_success (have := bl1)); intro bl1 w H) | ((fail_if_success (have := bl2)); intro bl2 w H) | ((fail_if_success (have := bl3)); intro bl3 w H) | ((fail_if_success (have := bl4)); intro bl4 w H) | intro _ w H)) | (refine Ze H ?_; clear H; (try clear w); intro gv w H))
    (refine X.call (Image_e H hf.dk) ?_; (try clear H); rintro _ w ⟨rfl, ho, H⟩; refine ⟨_, rfl, ?_⟩); refine L.nil ?_; refine ⟨rfl, rfl, (by first | exact fun h => Bool.noConfusion (show false = true from h) | exact fun _ => ext_same | exact fun _ => ext_only (by assumption)), ?_⟩
    clear ho
    repeat' (first | (refine X.ldp [.slice a0 d.secs.length c0, .slice a1 d.pend.length c1, .bool d.off, .int .i64 lf, .slice a2 n2 c2] H ?_) | refine Z H ?_ | (refine Zc ?_ ?_ <;> intro hc <;> first | (exfalso; omega) | skip) | (refine Y ?_; try change C _ _ _ _ _ _) | (refine Zs H ?_; clear H; (try clear w); intro w H) | (refine Zn H ?_; clear H; (try clear w); (first | ((fail_if_success (have := bl1)); intro bl1 w H) | ((fail_if_success (have := bl2)); intro bl2 w H) | ((fail_if_success (have := bl3)); intro bl3 w H) | ((fail_if_success (have := bl4)); intro bl4 w H) | intro _ w H)) | (refine Ze H ?_; clear H; (try clear w); intro gv w H))
    first | (have hT : Holds _ _ (dsk b _ :: _) := H; clear hT) | (replace H := H.up 1 rfl; (try simp only [List.set_cons_zero, List.set_cons_succ, List.eraseIdx_cons_zero, List.eraseIdx_cons_succ] at H); have hT : Holds _ _ (dsk b _ :: _) := H; clear hT) | (replace H := H.up 2 rfl; (try simp only [List.set_cons_zero, List.set_cons_succ, List.eraseIdx_cons_zero, List.eraseIdx_cons_succ] at H); have hT : Holds _ _ (dsk b _ :: _) := H; clear hT) | (replace H := H.up 3 rfl; (try simp only [List.set_cons_zero, List.set_cons_succ, List.eraseIdx_cons_zero, List.eraseIdx_cons_succ] at H); have hT : Holds _ _ (dsk b _ :: _) := H; clear hT) | (replace H := H.up 4 rfl; (try simp only [List.set_cons_zero, List.set_cons_succ, List.eraseIdx_cons_zero, List.eraseIdx_cons_succ] at H); have hT : Holds _ _ (dsk b _ :: _) := H; clear hT) | (replace H := H.up 5 rfl; (try simp only [List.set_cons_zero, List.set_cons_succ, List.eraseIdx_cons_zero, List.eraseIdx_cons_succ] at H); have hT : Holds _ _ (dsk b _ :: _) := H; clear hT) | (replace H := H.up 6 rfl; (try simp only [List.set_cons_zero, List.set_cons_succ, List.eraseIdx_cons_zero, List.eraseIdx_cons_succ] at H); have hT : Holds _ _ (dsk b _ :: _) := H; clear hT)
    (refine X.call (Waiting_d H (by omega)) ?_; (try clear H); rintro _ w ⟨p3, p4, rfl, ho, H⟩; refine ⟨_, rfl, ?_⟩); refine L.nil ?_; refine ⟨rfl, rfl, (by first | exact fun h => Bool.noConfusion (show false = true from h) | exact fun _ => ext_same | exact fun _ => ext_only (by assumption)), ?_⟩
    clear ho
    repeat' (first | refine Z H ?_ | (refine Zc ?_ ?_ <;> intro hc <;> first | (exfalso; omega) | skip) | (refine Y ?_; try change C _ _ _ _ _ _) | (refine Zs H ?_; clear H; (try clear w); intro w H) | (refine Zn H ?_; clear H; (try clear w); (first | ((fail_if_success (have := bl1)); intro bl1 w H) | ((fail_if_success (have := bl2)); intro bl2 w H) | ((fail_if_success (have := bl3)); intro bl3 w H) | ((fail_if_success (have := bl4)); intro bl4 w H) | intro _ w H)) | (refine Ze H ?_; clear H; (try clear w); intro gv w H))
    refine C.loopS [4, 25, 221, 222, 223, 224, 225, 226, 227, 228, 229, 230, 231, 232, 233, 234, 235, 236, 237, 238, 239, 240, 241, 242, 243, 244, 245, 246, 247, 248, 249, 250, 251, 252] [25] rfl (fun k vs w => ∃ j : Nat, k = xs.length - j ∧ j ≤ xs.length ∧ vs = [.int .i64 (j : Int)] ∧ Holds s9 w (var bS 136 [.slice va' ps.length cap, .slice sa m.slots.length sc, .int .i64 (m.next : Int)] :: row 143 70 (.slice va' ps.length cap) ps.length (ps.flatMap Pr.cells) :: var bW 77 [.slice a0 d.secs.length c0, .slice a1 d.pend.length c1, .bool d.off, .int .i64 lf, .slice a2 n2 c2, .slice xa xs.length xc, .slice ra rooms.length rc, .slice wa m.parts.length wc, .slice va m.parts.length vc, .slice la m.slots.length lc, .int .i64 (m.next : Int)] :: row 89 1 (.slice wa m.parts.length wc) m.parts.length ws :: row 41 1 (.slice va m.parts.length vc) m.parts.length (svd m.parts) :: dsk b d :: var bl1 58 [.slice ya xs.length yc, .slice yra rooms.length yrc, .slice yla slots.length ylc] :: [])) xs.length ⟨0, rfl, Nat.zero_le _, rfl, H.arr⟩ ?_
    clear H
    rintro k vs hv2 w ⟨j, rfl, hj, rfl, H⟩
    by_cases hjl : j < xs.length
    · have hjm : j < m.parts.length := by rw [hPl.len]; exact hjl
      obtain ⟨gw, rfl, _⟩ := H.form (i := 3) rfl (by omega)
      obtain ⟨gsv, rfl, _⟩ := H.form (i := 4) rfl (by omega)
      have hwn := hf.wn
      have hjw : j < ws.length := by omega
      obtain ⟨qa, qc, hqv, _⟩ := (hf.wl j hjw hjm).form
      have hws : ws[0 + j * 1]? = some (.slice qa m.parts[j].q.length qc) := by
        rw [Nat.zero_add, Nat.mul_one, List.getElem?_eq_getElem hjw, hqv]
      have hsg : (svd m.parts)[0 + j * 1]? = some (.int .u64 (m.parts[j].served : Int)) := by
        rw [Nat.zero_add, Nat.mul_one]
        simp [svd, List.getElem?_eq_getElem hjm]
      have hwt : m.waiting (j : Int) = m.parts[j].q.length := by
        unfold SM.waiting
        rw [if_pos (by omega), Int.toNat_natCast, List.getElem?_eq_getElem hjm]
        rfl
      have hsv : m.servedN (j : Int) = m.parts[j].served := by
        unfold SM.servedN
        rw [if_pos (by omega), Int.toNat_natCast, List.getElem?_eq_getElem hjm]
        rfl
      repeat' (first | refine Z H ?_ | (refine Zc ?_ ?_ <;> intro hc <;> first | (exfalso; omega) | skip) | (refine Y ?_; try change C _ _ _ _ _ _) | (refine Zs H ?_; clear H; (try clear w); intro w H) | (refine Zn H ?_; clear H; (try clear w); (first | ((fail_if_success (have := bl1)); intro bl1 w H) | ((fail_if_success (have := bl2)); intro bl2 w H) | ((fail_if_success (have := bl3)); intro bl3 w H) | ((fail_if_success (have := bl4)); intro bl4 w H) | intro _ w H)) | (refine Ze H ?_; clear H; (try clear w); intro gv w H))
      refine C.drawn5 [0, 1, 3, 4, 5, 6, 7, 8, 9, 10, 2, 11, 12, 13, 14, 16, 17, 18, 19, 20, 21, 22, 15, 23, 24] [0, 0, 0, 0, 0, 1, 0, 0, 1, 0, 2, 0, 0, 0, 0, 0, 0, 0, 1, 0, 0, 1, 2, 0, 0] [11, 12] [0, 0, 3, 0, 8, 24, 56, 0, 248, 504, 1016, 2047, 4095, 8191, 8191, 32767, 8191, 73727, 204799, 466943, 8191, 2039807, 4136959, 8388607, 16777215] (by kernel_rfl) ?_; replace H := H.drew; simp only [Reg.pick, List.filterMap_cons, List.filterMap_nil, List.getElem?_toArray, List.getElem?_cons_zero, List.getElem?_cons_succ, segN, List.take_succ_cons, List.take_zero, List.drop_succ_cons, List.drop_zero]
      repeat' (first | refine Z H ?_ | (refine Zc ?_ ?_ <;> intro hc <;> first | (exfalso; omega) | skip) | (refine Y ?_; try change C _ _ _ _ _ _) | (refine Zs H ?_; clear H; (try clear w); intro w H) | (refine Zn H ?_; clear H; (try clear w); (first | ((fail_if_success (have := bl1)); intro bl1 w H) | ((fail_if_success (have := bl2)); intro bl2 w H) | ((fail_if_success (have := bl3)); intro bl3 w H) | ((fail_if_success (have := bl4)); intro bl4 w H) | intro _ w H)) | (refine Ze H ?_; clear H; (try clear w); intro gv w H))
      have hS := Sch.close (b := b) (bS := bS) (va := va') (sa := sa) (cap := cap) (sc := sc) (d := d) hr hsl H
      have hW := Waiting_e (i := (j : Int)) H hS.pinned
      rw [hwt] at hW
      (refine X.call (hW) ?_; (try clear H); rintro _ w ⟨rfl, ho, H⟩; refine ⟨_, rfl, ?_⟩); refine L.nil ?_; refine ⟨rfl, rfl, (by first | exact fun h => Bool.noConfusion (show false = true from h) | exact fun _ => ext_same | exact fun _ => ext_only (by assumption)), ?_⟩
      clear ho hW hS
      repeat' (first | refine Z H ?_ | (refine Zc ?_ ?_ <;> intro hc <;> first | (exfalso; omega) | skip) | (refine Y ?_; try change C _ _ _ _ _ _) | (refine Zs H ?_; clear H; (try clear w); intro w H) | (refine Zn H ?_; clear H; (try clear w); (first | ((fail_if_success (have := bl1)); intro bl1 w H) | ((fail_if_success (have := bl2)); intro bl2 w H) | ((fail_if_success (have := bl3)); intro bl3 w H) | ((fail_if_success (have := bl4)); intro bl4 w H) | intro _ w H)) | (refine Ze H ?_; clear H; (try clear w); intro gv w H))
      have hS := Sch.close (b := b) (bS := bS) (va := va') (sa := sa) (cap := cap) (sc := sc) (d := d) hr hsl H
      have hV := Served_e (i := (j : Int)) H hS.pinned
      rw [hsv] at hV
      (refine X.call (hV) ?_; (try clear H); rintro _ w ⟨rfl, ho, H⟩; refine ⟨_, rfl, ?_⟩); refine L.nil ?_; refine ⟨rfl, rfl, (by first | exact fun h => Bool.noConfusion (show false = true from h) | exact fun _ => ext_same | exact fun _ => ext_only (by assumption)), ?_⟩
      clear ho hV hS
      repeat' (first | refine Z H ?_ | (refine Zc ?_ ?_ <;> intro hc <;> first | (exfalso; omega) | skip) | (refine Y ?_; try change C _ _ _ _ _ _) | (refine Zs H ?_; clear H; (try clear w); intro w H) | (refine Zn H ?_; clear H; (try clear w); (first | ((fail_if_success (have := bl1)); intro bl1 w H) | ((fail_if_success (have := bl2)); intro bl2 w H) | ((fail_if_success (have := bl3)); intro bl3 w H) | ((fail_if_success (have := bl4)); intro bl4 w H) | intro _ w H)) | (refine Ze H ?_; clear H; (try clear w); intro gv w H))
      exact ⟨by (repeat (first | exact Agr.refl | exact Agr.hav | refine Agr.upd rfl ?_ | refine Agr.in rfl ?_)), xs.length - (j + 1), by omega, j + 1, rfl, by omega, rfl, H.arr⟩
    · repeat' (first | refine Z H ?_ | (refine Zc ?_ ?_ <;> intro hc <;> first | (exfalso; omega) | skip) | (refine Y ?_; try change C _ _ _ _ _ _) | (refine Zs H ?_; clear H; (try clear w); intro w H) | (refine Zn H ?_; clear H; (try clear w); (first | ((fail_if_success (have := bl1)); intro bl1 w H) | ((fail_if_success (have := bl2)); intro bl2 w H) | ((fail_if_success (have := bl3)); intro bl3 w H) | ((fail_if_success (have := bl4)); intro bl4 w H) | intro _ w H)) | (refine Ze H ?_; clear H; (try clear w); intro gv w H))
      exact ⟨by (repeat (first | exact Agr.refl | exact Agr.hav | refine Agr.upd rfl ?_ | refine Agr.in rfl ?_)), 60 - (i + 1), by omega, i + 1, s9, m, d, rfl, by omega, rfl, hs8.trans hs9, hPl, hBd, va', cap, sa, sc, ps, a0, c0, a1, c1, lf, a2, n2, c2, xa, xc, ra, rc, la, lc, ws, wa, wc, va, vc, hr, hsl, hf, H.arr⟩
  by_cases hdo : 0 ≤ ado ∧ ado ≤ 5
  · repeat' (first | ((fail_if_success (with_reducible show C _ _ _ (Code.seq (Code.seq (Code.region 22 _ _) _) _) _ _)); refine Z H ?_) | (refine Zc ?_ ?_ <;> intro hc <;> first | (exfalso; omega) | skip) | (refine Y ?_; try change C _ _ _ _ _ _) | (refine Zs H ?_; clear H; (try clear w); intro w H) | (refine Zn H ?_; clear H; (try clear w); (first | ((fail_if_success (have := bl1)); intro bl1 w H) | ((fail_if_success (have := bl2)); intro bl2 w H) | ((fail_if_success (have := bl3)); intro bl3 w H) | ((fail_if_success (have := bl4)); intro bl4 w H) | intro _ w H)) | (refine Ze H ?_; clear H; (try clear w); intro gv w H))
    refine C.cut [119, 120, 121, 122, 123, 124, 125] [119] rfl (fun vs w => vs = [.bool true] ∧ Holds s8 w (var bl3 40 [.int .i64 ado, .int .i64 ap, .int .i64 akind, .int .i64 aat, .bool adata, u8 afill, .int .i64 aoff, .slice ka akeep.length kc] :: var bS 136 [.slice va' ps.length cap, .slice sa m.slots.length sc, .int .i64 (m.next : Int)] :: row 143 70 (.slice va' ps.length cap) ps.length (ps.flatMap Pr.cells) :: var bW 77 [.slice a0 d.secs.length c0, .slice a1 d.pend.length c1, .bool d.off, .int .i64 lf, .slice a2 n2 c2, .slice xa xs.length xc, .slice ra rooms.length rc, .slice wa m.parts.length wc, .slice va m.parts.length vc, .slice la m.slots.length lc, .int .i64 (m.next : Int)] :: row 89 1 (.slice wa m.parts.length wc) m.parts.length ws :: row 41 1 (.slice va m.parts.length vc) m.parts.length (svd m.parts) :: dsk b d :: var bl1 58 [.slice ya xs.length yc, .slice yra rooms.length yrc, .slice yla slots.length ylc] :: [])) ?_ ?_
    · repeat' (first | refine Z H ?_ | (refine Zc ?_ ?_ <;> intro hc <;> first | (exfalso; omega) | skip) | (refine Y ?_; try change C _ _ _ _ _ _) | (refine Zs H ?_; clear H; (try clear w); intro w H) | (refine Zn H ?_; clear H; (try clear w); (first | ((fail_if_success (have := bl1)); intro bl1 w H) | ((fail_if_success (have := bl2)); intro bl2 w H) | ((fail_if_success (have := bl3)); intro bl3 w H) | ((fail_if_success (have := bl4)); intro bl4 w H) | intro _ w H)) | (refine Ze H ?_; clear H; (try clear w); intro gv w H))
      all_goals first
        | exact ⟨by (repeat (first | exact Agr.refl | exact Agr.hav | refine Agr.upd rfl ?_ | refine Agr.in rfl ?_)), rfl, H.arr⟩
        | (exfalso; omega)
    clear H
    rintro vs hv1 w ⟨rfl, H⟩
    repeat' (first | refine Z H ?_ | (refine Zc ?_ ?_ <;> intro hc <;> first | (exfalso; omega) | skip) | (refine Y ?_; try change C _ _ _ _ _ _) | (refine Zs H ?_; clear H; (try clear w); intro w H) | (refine Zn H ?_; clear H; (try clear w); (first | ((fail_if_success (have := bl1)); intro bl1 w H) | ((fail_if_success (have := bl2)); intro bl2 w H) | ((fail_if_success (have := bl3)); intro bl3 w H) | ((fail_if_success (have := bl4)); intro bl4 w H) | intro _ w H)) | (refine Ze H ?_; clear H; (try clear w); intro gv w H))
    (refine X.call (Request_s (a := ⟨ado, ap, akind, aat, adata, afill, aoff, .slice ka akeep.length kc, akeep⟩) H rfl) ?_; (try clear H); rintro _ w ⟨t1, qa, qc, rfl, H⟩; refine ⟨_, rfl, ?_⟩)
    have hrl := req_len ⟨ado, ap, akind, aat, adata, afill, aoff, .slice ka akeep.length kc, akeep⟩
    generalize Act15.req ⟨ado, ap, akind, aat, adata, afill, aoff, .slice ka akeep.length kc, akeep⟩ = l at *
    dsimp only
    repeat' (first | refine Z H ?_ | (refine Zc ?_ ?_ <;> intro hc <;> first | (exfalso; omega) | skip) | (refine Y ?_; try change C _ _ _ _ _ _) | (refine Zs H ?_; clear H; (try clear w); intro w H) | (refine Zn H ?_; clear H; (try clear w); (first | ((fail_if_success (have := bl1)); intro bl1 w H) | ((fail_if_success (have := bl2)); intro bl2 w H) | ((fail_if_success (have := bl3)); intro bl3 w H) | ((fail_if_success (have := bl4)); intro bl4 w H) | intro _ w H)) | (refine Ze H ?_; clear H; (try clear w); intro gv w H))
    have hRS := RSch.close (bW := bW) (wa := wa) (wc := wc) (va := va) (vc := vc) hf H
    have hA := RAsk_s (i := ap) (k := akind) (a := aat) (l := l) (da := qa) (dc := qc) hRS hPl .row hak.hp hak.ha (by omega) (fun p hp => by have := hBd.served p hp; omega)
    have hPl2 := hPl.ask ap akind aat l
    have hBd2 := hBd.ask ap akind aat l
    clear hRS
    generalize hask : m.ask ap akind aat l = r at *
    obtain ⟨m2, an, ac2⟩ := r
    dsimp only at hA hPl2 hBd2
    (refine X.call (hA) ?_; (try clear H); rintro _ w ⟨s9, rfl, hs9, hRS⟩; refine ⟨_, rfl, ?_⟩)
    clear hA hf
    obtain ⟨a0, c0, a1, c1, lf, a2, n2, c2, xa, xc, ra, rc, la, lc, ws, wa, wc, va, vc, hf, H⟩ := hRS
    replace hr := hr.mono hs9
    replace hsl := hsl.mono hs9
    repeat' (first | refine Z H ?_ | (refine Zc ?_ ?_ <;> intro hc <;> first | (exfalso; omega) | skip) | (refine Y ?_; try change C _ _ _ _ _ _) | (refine Zs H ?_; clear H; (try clear w); intro w H) | (refine Zn H ?_; clear H; (try clear w); (first | ((fail_if_success (have := bl1)); intro bl1 w H) | ((fail_if_success (have := bl2)); intro bl2 w H) | ((fail_if_success (have := bl3)); intro bl3 w H) | ((fail_if_success (have := bl4)); intro bl4 w H) | intro _ w H)) | (refine Ze H ?_; clear H; (try clear w); intro gv w H))
    have hS := Sch.close (b := b) (bS := bS) (va := va') (sa := sa) (cap := cap) (sc := sc) (d := d) hr hsl H
    have hA := Ask_s (i := ap) (k := akind) (a := aat) (l := l) (da := qa) (dc := qc) hS .row hak.hp hak.ha (by omega) (fun p hp => by have := hBd.last p hp; omega)
    rw [hask] at hA
    dsimp only at hA
    clear hS
    (refine X.call (hA) ?_; (try clear H); rintro _ w ⟨s10, rfl, hs10, hS⟩; refine ⟨_, rfl, ?_⟩)
    clear hA hr hsl
    obtain ⟨va', cap, sa, sc, ps, hr, hsl, H⟩ := hS
    replace hf := hf.mono hs10
    repeat' (first | refine Z H ?_ | (refine Zc ?_ ?_ <;> intro hc <;> first | (exfalso; omega) | skip) | (refine Y ?_; try change C _ _ _ _ _ _) | (refine Zs H ?_; clear H; (try clear w); intro w H) | (refine Zn H ?_; clear H; (try clear w); (first | ((fail_if_success (have := bl1)); intro bl1 w H) | ((fail_if_success (have := bl2)); intro bl2 w H) | ((fail_if_success (have := bl3)); intro bl3 w H) | ((fail_if_success (have := bl4)); intro bl4 w H) | intro _ w H)) | (refine Ze H ?_; clear H; (try clear w); intro gv w H))
    refine C.loopS [20, 144, 145, 146, 147, 148, 149, 150, 151, 152, 153, 154] [20] rfl (fun k vs w => ∃ (j : Nat) (cs : List Value), k = l.length - j ∧ j ≤ l.length ∧ vs = [.int .i64 (j : Int)] ∧ cs.length = l.length ∧ Holds s10 w (row t1 1 (.slice qa l.length qc) l.length cs :: var bl4 45 [.int .i64 akind, .int .i64 aat, .slice qa l.length qc] :: var bS 136 [.slice va' ps.length cap, .slice sa m2.slots.length sc, .int .i64 (m2.next : Int)] :: row 143 70 (.slice va' ps.length cap) ps.length (ps.flatMap Pr.cells) :: var bW 77 [.slice a0 d.secs.length c0, .slice a1 d.pend.length c1, .bool d.off, .int .i64 lf, .slice a2 n2 c2, .slice xa xs.length xc, .slice ra rooms.length rc, .slice wa m2.parts.length wc, .slice va m2.parts.length vc, .slice la m2.slots.length lc, .int .i64 (m2.next : Int)] :: row 89 1 (.slice wa m2.parts.length wc) m2.parts.length ws :: row 41 1 (.slice va m2.parts.length vc) m2.parts.length (svd m2.parts) :: dsk b d :: var bl1 58 [.slice ya xs.length yc, .slice yra rooms.length yrc, .slice yla slots.length ylc] :: [])) l.length ⟨0, u8s l, rfl, Nat.zero_le _, rfl, u8s_len l, H.arr⟩ ?_
    clear H
    rintro k vs hv2 w ⟨j, cs, rfl, hj, rfl, hcs, H⟩
    by_cases hjl : j < l.length
    · obtain ⟨gq, rfl, _⟩ := H.form (i := 0) rfl (by omega)
      repeat' (first | refine Z H ?_ | (refine Zc ?_ ?_ <;> intro hc <;> first | (exfalso; omega) | skip) | (refine Y ?_; try change C _ _ _ _ _ _) | (refine Zs H ?_; clear H; (try clear w); intro w H) | (refine Zn H ?_; clear H; (try clear w); (first | ((fail_if_success (have := bl1)); intro bl1 w H) | ((fail_if_success (have := bl2)); intro bl2 w H) | ((fail_if_success (have := bl3)); intro bl3 w H) | ((fail_if_success (have := bl4)); intro bl4 w H) | intro _ w H)) | (refine Ze H ?_; clear H; (try clear w); intro gv w H))
      exact ⟨by (repeat (first | exact Agr.refl | exact Agr.hav | refine Agr.upd rfl ?_ | refine Agr.in rfl ?_)), l.length - (j + 1), by omega, j + 1, cs.set (0 + j * 1) (.int .u8 99), rfl, by omega, rfl, by simpa using hcs, H.arr⟩
    · repeat' (first | refine Z H ?_ | (refine Zc ?_ ?_ <;> intro hc <;> first | (exfalso; omega) | skip) | (refine Y ?_; try change C _ _ _ _ _ _) | (refine Zs H ?_; clear H; (try clear w); intro w H) | (refine Zn H ?_; clear H; (try clear w); (first | ((fail_if_success (have := bl1)); intro bl1 w H) | ((fail_if_success (have := bl2)); intro bl2 w H) | ((fail_if_success (have := bl3)); intro bl3 w H) | ((fail_if_success (have := bl4)); intro bl4 w H) | intro _ w H)) | (refine Ze H ?_; clear H; (try clear w); intro gv w H))
      exact ⟨by (repeat (first | exact Agr.refl | exact Agr.hav | refine Agr.upd rfl ?_ | refine Agr.in rfl ?_)), s10, m2, d, hs9.trans hs10, hPl2, hBd2, va', cap, sa, sc, ps, a0, c0, a1, c1, lf, a2, n2, c2, xa, xc, ra, rc, la, lc, ws, wa, wc, va, vc, hr, hsl, hf, H.arr⟩
  by_cases d6 : ado = 6
  · subst d6
    repeat' (first | refine Z H ?_ | (refine Zc ?_ ?_ <;> intro hc <;> first | (exfalso; omega) | skip) | (refine Y ?_; try change C _ _ _ _ _ _) | (refine Zs H ?_; clear H; (try clear w); intro w H) | (refine Zn H ?_; clear H; (try clear w); (first | ((fail_if_success (have := bl1)); intro bl1 w H) | ((fail_if_success (have := bl2)); intro bl2 w H) | ((fail_if_success (have := bl3)); intro bl3 w H) | ((fail_if_success (have := bl4)); intro bl4 w H) | intro _ w H)) | (refine Ze H ?_; clear H; (try clear w); intro gv w H))
    first | (have hT : Holds _ _ (dsk b _ :: _) := H; clear hT) | (replace H := H.up 1 rfl; (try simp only [List.set_cons_zero, List.set_cons_succ, List.eraseIdx_cons_zero, List.eraseIdx_cons_succ] at H); have hT : Holds _ _ (dsk b _ :: _) := H; clear hT) | (replace H := H.up 2 rfl; (try simp only [List.set_cons_zero, List.set_cons_succ, List.eraseIdx_cons_zero, List.eraseIdx_cons_succ] at H); have hT : Holds _ _ (dsk b _ :: _) := H; clear hT) | (replace H := H.up 3 rfl; (try simp only [List.set_cons_zero, List.set_cons_succ, List.eraseIdx_cons_zero, List.eraseIdx_cons_succ] at H); have hT : Holds _ _ (dsk b _ :: _) := H; clear hT) | (replace H := H.up 4 rfl; (try simp only [List.set_cons_zero, List.set_cons_succ, List.eraseIdx_cons_zero, List.eraseIdx_cons_succ] at H); have hT : Holds _ _ (dsk b _ :: _) := H; clear hT) | (replace H := H.up 5 rfl; (try simp only [List.set_cons_zero, List.set_cons_succ, List.eraseIdx_cons_zero, List.eraseIdx_cons_succ] at H); have hT : Holds _ _ (dsk b _ :: _) := H; clear hT) | (replace H := H.up 6 rfl; (try simp only [List.set_cons_zero, List.set_cons_succ, List.eraseIdx_cons_zero, List.eraseIdx_cons_succ] at H); have hT : Holds _ _ (dsk b _ :: _) := H; clear hT)
    (refine X.call (Crash_s H (.ro hkeep)) ?_; (try clear H); rintro _ w ⟨rfl, H⟩; refine ⟨_, rfl, ?_⟩)
    repeat' (first | refine Z H ?_ | (refine Zc ?_ ?_ <;> intro hc <;> first | (exfalso; omega) | skip) | (refine Y ?_; try change C _ _ _ _ _ _) | (refine Zs H ?_; clear H; (try clear w); intro w H) | (refine Zn H ?_; clear H; (try clear w); (first | ((fail_if_success (have := bl1)); intro bl1 w H) | ((fail_if_success (have := bl2)); intro bl2 w H) | ((fail_if_success (have := bl3)); intro bl3 w H) | ((fail_if_success (have := bl4)); intro bl4 w H) | intro _ w H)) | (refine Ze H ?_; clear H; (try clear w); intro gv w H))
    refine C.drawn1 [0, 0, 0, 0, 1, 0, 1, 3, 0, 0, 3] [0, 0, 2, 6, 14, 0, 32, 126, 255, 511, 1023] (by kernel_rfl) ?_; replace H := H.drew
    repeat' (first | (refine X.ldp [.slice a0 d.secs.length c0, .slice a1 d.pend.length c1, .bool d.off, .int .i64 lf, .slice a2 n2 c2] H ?_) | refine Z H ?_ | (refine Zc ?_ ?_ <;> intro hc <;> first | (exfalso; omega) | skip) | (refine Y ?_; try change C _ _ _ _ _ _) | (refine Zs H ?_; clear H; (try clear w); intro w H) | (refine Zn H ?_; clear H; (try clear w); (first | ((fail_if_success (have := bl1)); intro bl1 w H) | ((fail_if_success (have := bl2)); intro bl2 w H) | ((fail_if_success (have := bl3)); intro bl3 w H) | ((fail_if_success (have := bl4)); intro bl4 w H) | intro _ w H)) | (refine Ze H ?_; clear H; (try clear w); intro gv w H))
    (refine X.call (Crash_r H hf.dk hkeep (by omega)) ?_; (try clear H); rintro _ w ⟨s9, v4, rfl, hs9, hR4, H⟩; refine ⟨_, rfl, ?_⟩)
    have hBd2 := (hBd.crash akeep).le (show i ≤ i + 1 by omega)
    generalize d.crash akeep = d2 at *
    obtain ⟨b0, k0, b1, k1, lf1, b2, m2, k2, rfl⟩ := hR4.cells'
    repeat' (first | (refine X.stp [.slice b0 d2.secs.length k0, .slice b1 d2.pend.length k1, .bool d2.off, .int .i64 lf1, .slice b2 m2 k2, .slice xa xs.length xc, .slice ra rooms.length rc, .slice wa m.parts.length wc, .slice va m.parts.length vc, .slice la m.slots.length lc, .int .i64 (m.next : Int)] H ?_; clear H; intro w H) | refine Z H ?_ | (refine Zc ?_ ?_ <;> intro hc <;> first | (exfalso; omega) | skip) | (refine Y ?_; try change C _ _ _ _ _ _) | (refine Zs H ?_; clear H; (try clear w); intro w H) | (refine Zn H ?_; clear H; (try clear w); (first | ((fail_if_success (have := bl1)); intro bl1 w H) | ((fail_if_success (have := bl2)); intro bl2 w H) | ((fail_if_success (have := bl3)); intro bl3 w H) | ((fail_if_success (have := bl4)); intro bl4 w H) | intro _ w H)) | (refine Ze H ?_; clear H; (try clear w); intro gv w H))
    exact ⟨by (repeat (first | exact Agr.refl | exact Agr.hav | refine Agr.upd rfl ?_ | refine Agr.in rfl ?_)), s9, m, d2, hs9, hPl, hBd2, va', cap, sa, sc, ps, b0, k0, b1, k1, lf1, b2, m2, k2, xa, xc, ra, rc, la, lc, ws, wa, wc, va, vc, hr.mono hs9, hsl.mono hs9, (hf.mono hs9).disk hR4, H.arr⟩
  by_cases d7 : ado = 7
  · subst d7
    repeat' (first | refine Z H ?_ | (refine Zc ?_ ?_ <;> intro hc <;> first | (exfalso; omega) | skip) | (refine Y ?_; try change C _ _ _ _ _ _) | (refine Zs H ?_; clear H; (try clear w); intro w H) | (refine Zn H ?_; clear H; (try clear w); (first | ((fail_if_success (have := bl1)); intro bl1 w H) | ((fail_if_success (have := bl2)); intro bl2 w H) | ((fail_if_success (have := bl3)); intro bl3 w H) | ((fail_if_success (have := bl4)); intro bl4 w H) | intro _ w H)) | (refine Ze H ?_; clear H; (try clear w); intro gv w H))
    first | (have hT : Holds _ _ (dsk b _ :: _) := H; clear hT) | (replace H := H.up 1 rfl; (try simp only [List.set_cons_zero, List.set_cons_succ, List.eraseIdx_cons_zero, List.eraseIdx_cons_succ] at H); have hT : Holds _ _ (dsk b _ :: _) := H; clear hT) | (replace H := H.up 2 rfl; (try simp only [List.set_cons_zero, List.set_cons_succ, List.eraseIdx_cons_zero, List.eraseIdx_cons_succ] at H); have hT : Holds _ _ (dsk b _ :: _) := H; clear hT) | (replace H := H.up 3 rfl; (try simp only [List.set_cons_zero, List.set_cons_succ, List.eraseIdx_cons_zero, List.eraseIdx_cons_succ] at H); have hT : Holds _ _ (dsk b _ :: _) := H; clear hT) | (replace H := H.up 4 rfl; (try simp only [List.set_cons_zero, List.set_cons_succ, List.eraseIdx_cons_zero, List.eraseIdx_cons_succ] at H); have hT : Holds _ _ (dsk b _ :: _) := H; clear hT) | (replace H := H.up 5 rfl; (try simp only [List.set_cons_zero, List.set_cons_succ, List.eraseIdx_cons_zero, List.eraseIdx_cons_succ] at H); have hT : Holds _ _ (dsk b _ :: _) := H; clear hT) | (replace H := H.up 6 rfl; (try simp only [List.set_cons_zero, List.set_cons_succ, List.eraseIdx_cons_zero, List.eraseIdx_cons_succ] at H); have hT : Holds _ _ (dsk b _ :: _) := H; clear hT)
    (refine X.call (Power_s H) ?_; (try clear H); rintro _ w ⟨rfl, H⟩; refine ⟨_, rfl, ?_⟩)
    repeat' (first | (refine X.ldp [.slice a0 d.secs.length c0, .slice a1 d.pend.length c1, .bool d.off, .int .i64 lf, .slice a2 n2 c2] H ?_) | refine Z H ?_ | (refine Zc ?_ ?_ <;> intro hc <;> first | (exfalso; omega) | skip) | (refine Y ?_; try change C _ _ _ _ _ _) | (refine Zs H ?_; clear H; (try clear w); intro w H) | (refine Zn H ?_; clear H; (try clear w); (first | ((fail_if_success (have := bl1)); intro bl1 w H) | ((fail_if_success (have := bl2)); intro bl2 w H) | ((fail_if_success (have := bl3)); intro bl3 w H) | ((fail_if_success (have := bl4)); intro bl4 w H) | intro _ w H)) | (refine Ze H ?_; clear H; (try clear w); intro gv w H))
    (refine X.call (Power_r H hf.dk) ?_; (try clear H); rintro _ w ⟨v4, rfl, hR4, H⟩; refine ⟨_, rfl, ?_⟩)
    have hBd2 := hBd.power.le (show i ≤ i + 1 by omega)
    generalize d.power = d2 at *
    obtain ⟨b0, k0, b1, k1, lf1, b2, m2, k2, rfl⟩ := hR4.cells'
    repeat' (first | (refine X.stp [.slice b0 d2.secs.length k0, .slice b1 d2.pend.length k1, .bool d2.off, .int .i64 lf1, .slice b2 m2 k2, .slice xa xs.length xc, .slice ra rooms.length rc, .slice wa m.parts.length wc, .slice va m.parts.length vc, .slice la m.slots.length lc, .int .i64 (m.next : Int)] H ?_; clear H; intro w H) | refine Z H ?_ | (refine Zc ?_ ?_ <;> intro hc <;> first | (exfalso; omega) | skip) | (refine Y ?_; try change C _ _ _ _ _ _) | (refine Zs H ?_; clear H; (try clear w); intro w H) | (refine Zn H ?_; clear H; (try clear w); (first | ((fail_if_success (have := bl1)); intro bl1 w H) | ((fail_if_success (have := bl2)); intro bl2 w H) | ((fail_if_success (have := bl3)); intro bl3 w H) | ((fail_if_success (have := bl4)); intro bl4 w H) | intro _ w H)) | (refine Ze H ?_; clear H; (try clear w); intro gv w H))
    exact ⟨by (repeat (first | exact Agr.refl | exact Agr.hav | refine Agr.upd rfl ?_ | refine Agr.in rfl ?_)), s8, m, d2, Ro.Le.refl _, hPl, hBd2, va', cap, sa, sc, ps, b0, k0, b1, k1, lf1, b2, m2, k2, xa, xc, ra, rc, la, lc, ws, wa, wc, va, vc, hr, hsl, hf.disk hR4, H.arr⟩
  repeat' (first | refine Z H ?_ | (refine Zc ?_ ?_ <;> intro hc <;> first | (exfalso; omega) | skip) | (refine Y ?_; try change C _ _ _ _ _ _) | (refine Zs H ?_; clear H; (try clear w); intro w H) | (refine Zn H ?_; clear H; (try clear w); (first | ((fail_if_success (have := bl1)); intro bl1 w H) | ((fail_if_success (have := bl2)); intro bl2 w H) | ((fail_if_success (have := bl3)); intro bl3 w H) | ((fail_if_success (have := bl4)); intro bl4 w H) | intro _ w H)) | (refine Ze H ?_; clear H; (try clear w); intro gv w H))
  have hS := Sch.close (b := b) (bS := bS) (va := va') (sa := sa) (cap := cap) (sc := sc) (d := d) hr hsl H
  have hT := Slot_s hS (by omega) (fun p hp => by have := hBd.served p hp; omega)
  have hPl2 := hPl.slot d
  have hBd2 := hBd.slot
  clear hS
  generalize hslot : m.slot d = r at *
  obtain ⟨m2, d2, od⟩ := r
  dsimp only at hT hPl2 hBd2
  (refine X.call (hT) ?_; (try clear H); rintro _ w ⟨t1, qa, qc, rfl, hS⟩; refine ⟨_, rfl, ?_⟩)
  clear hT hr hsl
  obtain ⟨va', cap, sa, sc, ps, hr, hsl, H⟩ := hS
  repeat' (first | refine Z H ?_ | (refine Zc ?_ ?_ <;> intro hc <;> first | (exfalso; omega) | skip) | (refine Y ?_; try change C _ _ _ _ _ _) | (refine Zs H ?_; clear H; (try clear w); intro w H) | (refine Zn H ?_; clear H; (try clear w); (first | ((fail_if_success (have := bl1)); intro bl1 w H) | ((fail_if_success (have := bl2)); intro bl2 w H) | ((fail_if_success (have := bl3)); intro bl3 w H) | ((fail_if_success (have := bl4)); intro bl4 w H) | intro _ w H)) | (refine Ze H ?_; clear H; (try clear w); intro gv w H))
  have hRS := RSch.close (bW := bW) (wa := wa) (wc := wc) (va := va) (vc := vc) hf H
  have hT := RSlot_s hRS hPl (by omega) (fun p hp => by have := hBd.served p hp; omega)
  rw [hslot] at hT
  dsimp only at hT
  clear hRS
  generalize od.getD Dn.zero = dn at *
  generalize od.isSome = tb at *
  obtain ⟨npt, nn, nl, nc⟩ := dn
  dsimp only at hT H ⊢
  (refine X.call (hT) ?_; (try clear H); rintro _ w ⟨s9, rfl, hs9, hRS⟩; refine ⟨_, rfl, ?_⟩)
  clear hT hf
  obtain ⟨a0, c0, a1, c1, lf, a2, n2, c2, xa, xc, ra, rc, la, lc, ws, wa, wc, va, vc, hf, H⟩ := hRS
  replace hr := hr.mono hs9
  replace hsl := hsl.mono hs9
  cases tb
  all_goals
    repeat' (first | (refine K.cmpB rfl rfl rfl rfl rfl ?_) | refine Z H ?_ | (refine Zc ?_ ?_ <;> intro hc <;> first | (exfalso; omega) | skip) | (refine Y ?_; try change C _ _ _ _ _ _) | (refine Zs H ?_; clear H; (try clear w); intro w H) | (refine Zn H ?_; clear H; (try clear w); (first | ((fail_if_success (have := bl1)); intro bl1 w H) | ((fail_if_success (have := bl2)); intro bl2 w H) | ((fail_if_success (have := bl3)); intro bl3 w H) | ((fail_if_success (have := bl4)); intro bl4 w H) | intro _ w H)) | (refine Ze H ?_; clear H; (try clear w); intro gv w H))
    (refine X.call (same_s (l := nl) (da := qa) (dc := qc) H .row) ?_; (try clear H); rintro _ w ⟨rfl, H⟩; refine ⟨_, rfl, ?_⟩)
    repeat' (first | refine Z H ?_ | (refine Zc ?_ ?_ <;> intro hc <;> first | (exfalso; omega) | skip) | (refine Y ?_; try change C _ _ _ _ _ _) | (refine Zs H ?_; clear H; (try clear w); intro w H) | (refine Zn H ?_; clear H; (try clear w); (first | ((fail_if_success (have := bl1)); intro bl1 w H) | ((fail_if_success (have := bl2)); intro bl2 w H) | ((fail_if_success (have := bl3)); intro bl3 w H) | ((fail_if_success (have := bl4)); intro bl4 w H) | intro _ w H)) | (refine Ze H ?_; clear H; (try clear w); intro gv w H))
    exact ⟨by (repeat (first | exact Agr.refl | exact Agr.hav | refine Agr.upd rfl ?_ | refine Agr.in rfl ?_)), s9, m2, d2, hs9, hPl2, hBd2, va', cap, sa, sc, ps, a0, c0, a1, c1, lf, a2, n2, c2, xa, xc, ra, rc, la, lc, ws, wa, wc, va, vc, hr, hsl, hf, H.arr⟩
theorem iplays_rdg {w : World} {cs : List Value} {v : Value} (hl : cs.length = Try.prog.cellsOf 58) (h : Rdg Try.prog w 58 cs) (g : Rdg Try.prog w 23 [v]) : Calls Try.prog 4 #[.agg cs.toArray, v] w fun e w' => e = .returned (.bool true) ∧ Only [] w w' := by
  obtain ⟨x, rfl, hx⟩ := shp_of cs hl h
  obtain ⟨l, h1, h2⟩ := acts15_of g
  exact (iplays_walk (Holds.start w) hx h1 h2).mono fun e w' h => ⟨h.1, h.2.only⟩
end Go.Proofs.Ytmcojfpomejnnaa

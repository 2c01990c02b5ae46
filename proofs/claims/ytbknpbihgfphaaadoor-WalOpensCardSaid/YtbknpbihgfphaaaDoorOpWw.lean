/- law16: what a formatted part is, plain; where a part begins; WalTwice, walked. More rules of the walk: bytes that a string gave, written. Over any program. ref16: May, walked; WalCrashes, walked. -/
import Derived.Test.YtbknpbihgfphaaaDoorOpXa
import Derived.Test.YtbknpbihgfphaaaDoorOpK9
set_option linter.unusedSimpArgs false
set_option linter.unusedVariables false
namespace Go.Proofs.YtbknpbihgfphaaaDoor
open Go Go.RowKit Go.Own
def fmtQ : List (Nat × List UInt8) := (List.range' 0 18).map (fun i => (34 + i, z64)) ++ hW 1 0 z640 16 0
theorem formatSteps_eq : formatSteps = wS fmtQ ++ .f :: (wS [(1, headB 1 0)] ++ .f :: []) := by
  have h1 : formatSteps = wS ((List.range' 0 18).map (fun i => (34 + i, z64))) ++ homeSteps 1 0 z640 := rfl
  rw [h1, homeSteps, homeFrom_eq, ← List.append_assoc]
  have h2 : ∀ a b, wS (a ++ b) = wS a ++ wS b := fun a b => List.map_append
  rw [fmtQ, h2]
theorem fmtQ_mem {p : Nat × List UInt8} (hp : p ∈ fmtQ) : (∃ i, i < 18 ∧ p = (34 + i, z64)) ∨ ∃ i, i < 16 ∧ p = (2 + i, pageB 1 i z640) := by
  rcases List.mem_append.1 hp with h | h
  · obtain ⟨i, hi, rfl⟩ := List.mem_map.1 h
    have := List.mem_range'_1.1 hi
    exact .inl ⟨i, by omega, rfl⟩
  · obtain ⟨i, _, hi, rfl⟩ := hW_mem h
    exact .inr ⟨i, by omega, by simp⟩
theorem rec_z64 (e k : Nat) : recStep z64 e k = none := by
  have h1 : decW 82 42 z64 = none := by decide +kernel
  have h2 : decW 67 1 z64 = none := by decide +kernel
  unfold recStep
  rw [h1, h2]
theorem cand_z64 : candW z64 0 = none := by decide +kernel
/-- a formatted part is a log -/
theorem fmt_inv {f : Nat} (hf : f ≤ 8) : WInv 60 f (fmtD f) awM := by
  have hfree := (fmt_free (f := f) (by omega)).1
  have hD : fmtD f = (run ((f : Int), 52) formatSteps (DM.new 60)).1 := rfl
  rw [formatSteps_eq] at hfree hD
  have hnl : (DM.new 60).secs.length = 60 := by simp [DM.new]
  have hok : ∀ p ∈ fmtQ, p.1 < 52 ∧ p.2.length = 64 := fun p hp => by
    rcases fmtQ_mem hp with ⟨i, hi, rfl⟩ | ⟨i, hi, rfl⟩
    · exact ⟨by dsimp only; omega, rfl⟩
    · exact ⟨by dsimp only; omega, secW_len (by rw [List.length_append, getP_len (ps := z640) List.length_replicate (by omega)]; simp)⟩
  have hok2 : ∀ p ∈ [(1, headB 1 0)], p.1 < 52 ∧ p.2.length = 64 := fun p hp => by
    rw [List.mem_singleton] at hp
    subst hp
    exact ⟨by decide, secW_len (by simp)⟩
  rcases run_phase (N := 60) (f := f) (by omega) (by decide) (wS [(1, headB 1 0)] ++ .f :: []) fmtQ (DM.new 60) rfl hnl hok with ⟨d1, a1, a2, a3, a4⟩ | ⟨d1, _, a4⟩
  rotate_left
  · rw [a4] at hfree; exact absurd hfree (by dsimp only; decide)
  rw [a4] at hfree hD
  have a3' : d1.secs = layAll (DM.new 60).secs ([] ++ wP f fmtQ) := a3
  have hl1 : d1.secs.length = 60 := by rw [a3', layAll_len]; exact hnl
  rcases run_phase (N := 60) (f := f) (by omega) (by decide) [] [(1, headB 1 0)] d1 a1 hl1 hok2 with ⟨d2, b1, b2, b3, b4⟩ | ⟨d2, _, b4⟩
  rotate_left
  · rw [b4] at hfree; exact absurd hfree (by dsimp only; decide)
  rw [b4] at hD
  rw [a2] at b3
  have hl2 : d2.secs.length = 60 := by rw [b3, layAll_len]; exact hl1
  have hD2 : fmtD f = d2 := hD
  rw [hD2]
  have h34 : ∀ j, j < 18 → secF f d2 (34 + j) = z64 := fun j hj => by
    refine lay_in b3 hl1 (by omega) (fun p hp e => ?_) (.inr ?_)
    · rw [List.mem_singleton] at hp; subst hp; dsimp only at e; omega
    refine lay_in a3' hnl (by omega) (fun p hp e => ?_) (.inl ⟨(34 + j, z64), List.mem_append_left _ (List.mem_map.2 ⟨j, List.mem_range'_1.2 ⟨Nat.zero_le _, by omega⟩, rfl⟩), rfl⟩)
    rcases fmtQ_mem hp with ⟨i, hi, rfl⟩ | ⟨i, hi, rfl⟩
    · rfl
    · dsimp only at e; omega
  have hpg : ∀ i, i < 16 → secF f d2 (2 + i) = pageB 1 i z640 := fun i hi => by
    refine lay_in b3 hl1 (by omega) (fun p hp e => ?_) (.inr ?_)
    · rw [List.mem_singleton] at hp; subst hp; dsimp only at e; omega
    refine lay_in a3' hnl (by omega) (fun p hp e => ?_) (.inl ⟨(2 + 16 * 0 + i, pageB 1 i z640), List.mem_append_right _ (hW_has (Nat.zero_le _) (by omega)), by simp⟩)
    rcases fmtQ_mem hp with ⟨j, hj, rfl⟩ | ⟨j, hj, rfl⟩
    · dsimp only at e; omega
    · dsimp only at e
      have : j = i := by omega
      subst this; rfl
  have h0 : secF f d2 0 = z64 := by
    refine lay_in b3 hl1 (by omega) (fun p hp e => ?_) (.inr ?_)
    · rw [List.mem_singleton] at hp; subst hp; dsimp only at e; omega
    refine lay_in a3' hnl (by omega) (fun p hp e => ?_) (.inr ?_)
    · rcases fmtQ_mem hp with ⟨j, hj, rfl⟩ | ⟨j, hj, rfl⟩ <;> (dsimp only at e; omega)
    · unfold secF DM.new
      simp only [List.getElem?_replicate]
      rw [if_pos (by omega)]; rfl
  refine ⟨b1, b2, hl2, ⟨by decide, by decide, by decide, List.length_replicate, rfl, ?_, fun e' h' hc => ?_, ⟨z640, List.length_replicate, fun i hi => ?_, ?_⟩, fun k e' hk _ => ?_, fun k _ hk => ?_⟩⟩
  · exact lay_in b3 hl1 (by show f + 1 < 60; omega) (fun p hp e => by rw [List.mem_singleton] at hp; subst hp; rfl) (.inl ⟨_, List.mem_singleton.2 rfl, rfl⟩)
  · have hc' : candW (secF f d2 0) 0 = some (e', h') := hc
    rw [h0, cand_z64] at hc'
    cases hc'
  · exact hpg i hi
  · exact recsC_end 18 0 z640 0 [] (fun j _ hj => by rw [h34 j (by omega), rec_z64]; simp)
  · rw [h34 k hk, rec_z64]; simp
  · rw [h34 k hk, rec_z64]; simp
theorem goodf {f : Nat} (hf : f + 52 ≤ 60) : GoodW f (fmtD f) awM := by
  obtain ⟨_, h2, h3⟩ := run_free hf formatSteps Fr0.new fmt_ok
  exact ⟨h2, fun k hk ho => by unfold fmtD; rw [h3 k hk, effS_out f ho _ _ fmt_ok]; exact new_cur hk, by decide, by decide, by decide, List.length_replicate, rfl⟩
theorem arm_off {d : DM} (n : Int) (sv : List Bool) : (d.arm n sv).off = d.off ∧ (d.arm n sv).secs = d.secs ∧ (d.arm n sv).pend = d.pend := by
  unfold DM.arm DM.disarm
  split
  · exact ⟨rfl, rfl, rfl⟩
  · split <;> exact ⟨rfl, rfl, rfl⟩
theorem secF_congr {f : Nat} {d d' : DM} (h : d'.secs = d.secs) : secF f d' = secF f d := by funext k; unfold secF; rw [h]
theorem WInv.arm {N f : Nat} {d : DM} {m : WL} (h : WInv N f d m) (n : Int) (sv : List Bool) : WInv N f (d.arm n sv) m := by
  obtain ⟨h1, h2, h3⟩ := arm_off (d := d) n sv
  exact ⟨h1.trans h.off, h3.trans h.pend, by rw [h2]; exact h.len, by rw [secF_congr h2]; exact h.log⟩
theorem WInv.powered {N f : Nat} {d : DM} {m : WL} (h : LgC (secF f d) m) (hl : d.secs.length = N) : WInv N f d.power m := ⟨rfl, rfl, hl, h⟩
section
variable {s : Ro} {w : World} {R : List Asn}
end
end Go.Proofs.YtbknpbihgfphaaaDoor
set_option linter.unusedSimpArgs false
set_option linter.unusedVariables false
namespace Go.Own
open Go Go.RowKit
section
variable {P : Program} {n : Nat} {ops : Array Oper} {Q : Post} {rest : List Oper} {e : Env} {w w' : World} {s : Ro} {rs : List Asn} {tt : Nat} {pp : String} {af : Array Edge} {g : Option (Nat × Bool)} {d : Nat}
end
end Go.Own
set_option linter.unusedSimpArgs false
set_option linter.unusedVariables false
namespace Go.Proofs.YtbknpbihgfphaaaDoor
open Go Go.RowKit Go.Own
section
variable {s : Ro} {w : World} {R : List Asn}
set_option maxRecDepth 100000 in
set_option maxHeartbeats 1000000 in
theorem May16_s {v : Value} {cs : List Value} {l : List Ch} (H : Holds s w R) (hcS : SlS s v 2 l.length cs) (hch : ChS s cs l) (hn : l.length ≤ 1000) : Calls Tryd.prog 49 #[v] w fun y w' => y = .returned (.bool (validM l)) ∧ Holds s w' R := by
  have hc' := hcS
  obtain ⟨va, vc, rfl, _⟩ := hc'
  refine enter Tryd.func49 rfl Tryd.ntmps49 rfl ?_
  repeat' (first | refine Z H ?_ | (refine Zc ?_ ?_ <;> intro hc <;> first | (exfalso; omega) | skip) | (refine Y ?_; try change C _ _ _ _ _ _) | (refine Zs H ?_; clear H; (try clear w); intro w H) | (refine Zn H ?_; clear H; (try clear w); intro _ w H) | (refine Ze H ?_; clear H; (try clear w); intro gv w H))
  refine C.loopH H [2, 3, 4, 5, 6, 7, 8, 9, 10, 11, 12, 13, 14, 15, 16, 17, 18, 19, 20, 21, 22, 23, 24, 25, 26, 27, 28, 29, 30, 31, 32] [3] rfl (fun k vs => ∃ i : Nat, k = l.length - i ∧ i ≤ l.length ∧ vs = [.int .i64 (i : Int)] ∧ (l.take i).all (fun c => decide (0 ≤ c.page ∧ c.page < 16 ∧ c.data.length = 40)) = true) l.length ⟨0, rfl, Nat.zero_le _, rfl, rfl⟩ ?_
  clear H
  rintro k vs hv' w ⟨i, rfl, hi, rfl, hall⟩ H
  by_cases hlt : i < l.length
  · obtain ⟨g, o, c', hsv, _, _, hpin⟩ := posS hcS (by omega) (by decide)
    cases hsv
    obtain ⟨h0, dv, h1, hdS⟩ := hch.at' i hlt
    have hsu : (l.take (i + 1)).all (fun c => decide (0 ≤ c.page ∧ c.page < 16 ∧ c.data.length = 40)) = decide (0 ≤ l[i].page ∧ l[i].page < 16 ∧ l[i].data.length = 40) := by rw [List.take_succ_eq_append_getElem hlt, List.all_append, hall]; simp
    have hbad : decide (0 ≤ l[i].page ∧ l[i].page < 16 ∧ l[i].data.length = 40) = false → validM l = false := fun hb => by
      unfold validM
      have : l.all (fun c => decide (0 ≤ c.page ∧ c.page < 16 ∧ c.data.length = 40)) = false := by
        cases hq : l.all (fun c => decide (0 ≤ c.page ∧ c.page < 16 ∧ c.data.length = 40)) with
        | false => rfl
        | true => rw [List.all_eq_true] at hq; have := hq l[i] (List.getElem_mem hlt); rw [hb] at this; cases this
      rw [this, Bool.and_false]
    generalize l[i] = ch at *
    obtain ⟨pg, dat⟩ := ch
    dsimp only at h0 hdS hsu hbad
    have hdS' := hdS
    obtain ⟨da, dc, rfl, _⟩ := hdS'
    have p0 : Pin s g (o + i * 2 + 0) (.int .i64 pg) := hpin _ _ h0
    have p1 : Pin s g (o + i * 2 + 1) (.slice da dat.length dc) := hpin _ _ h1
    by_cases hb : 0 ≤ pg ∧ pg < 16 ∧ dat.length = 40
    · rw [decide_eq_true hb] at hsu
      obtain ⟨hb1, hb2, hb3⟩ := hb
      repeat' (first | refine Z H ?_ | (refine Zc ?_ ?_ <;> intro hc <;> first | (exfalso; omega) | skip) | (refine Y ?_; try change C _ _ _ _ _ _) | (refine Zs H ?_; clear H; (try clear w); intro w H) | (refine Zn H ?_; clear H; (try clear w); intro _ w H) | (refine Ze H ?_; clear H; (try clear w); intro gv w H))
      exact ⟨by (repeat (first | exact Agr.refl | exact Agr.hav | refine Agr.upd rfl ?_ | refine Agr.in rfl ?_)), l.length - (i + 1), by omega, ⟨i + 1, rfl, by omega, rfl, hsu⟩, H⟩
    · have hbad := hbad (decide_eq_false hb)
      repeat' (first | refine Z H ?_ | (refine Zc ?_ ?_ <;> intro hc <;> first | (exfalso; omega) | skip) | (refine Y ?_; try change C _ _ _ _ _ _) | (refine Zs H ?_; clear H; (try clear w); intro w H) | (refine Zn H ?_; clear H; (try clear w); intro _ w H) | (refine Ze H ?_; clear H; (try clear w); intro gv w H))
      all_goals exact ⟨_, resT rfl, by rw [hbad]; rfl, H⟩
  · have hie : i = l.length := by omega
    subst hie
    rw [List.take_length] at hall
    have hv : validM l = decide (l.length ≤ 16) := by unfold validM; rw [hall, Bool.and_true]
    repeat' (first | refine Z H ?_ | (refine Zc ?_ ?_ <;> intro hc <;> first | (exfalso; omega) | skip) | (refine Y ?_; try change C _ _ _ _ _ _) | (refine Zs H ?_; clear H; (try clear w); intro w H) | (refine Zn H ?_; clear H; (try clear w); intro _ w H) | (refine Ze H ?_; clear H; (try clear w); intro gv w H))
    · exact ⟨_, resT rfl, by rw [hv, decide_eq_true (by omega)]; rfl, H⟩
    · exact ⟨_, resT rfl, by rw [hv, decide_eq_false (by omega)]; rfl, H⟩
theorem applyL_take {ps : List UInt8} {l : List Ch} {i : Nat} (hlt : i < l.length) : applyL ps (l.take (i + 1)) = setP (applyL ps (l.take i)) l[i].page.toNat l[i].data := by
  rw [List.take_succ_eq_append_getElem hlt]; unfold applyL; rw [List.foldl_append]; rfl
end
end Go.Proofs.YtbknpbihgfphaaaDoor

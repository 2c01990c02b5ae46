/- ref16: May, walked; WalCrashes, walked. -/
import Derived.Test.YtbknpbihgfphaaaDoorFvXa
set_option linter.unusedSimpArgs false
set_option linter.unusedVariables false
namespace Go.Proofs.YtbknpbihgfphaaaDoor
open Go Go.RowKit Go.Own
section
variable {s : Ro} {w : World} {R : List Asn}
set_option maxRecDepth 100000 in
set_option maxHeartbeats 1000000 in
theorem May16_s {v : Value} {cs : List Value} {l : List Ch} (H : Holds s w R) (hcS : SlS s v 2 l.length cs) (hch : ChS s cs l) (hn : l.length ≤ 1000) : Calls Tryd.prog 49 #[v] w fun y w' => y = .returned (.bool (validM l)) ∧ Holds s w' R := by
  have hc' := hcS
  obtain ⟨va, vc, rfl, _⟩ := hc'
  refine enter Tryd.func49 rfl Tryd.ntmps49 rfl ?_
  repeat' (first | refine Z H ?_ | (refine Zc ?_ ?_ <;> intro hc <;> first | (exfalso; omega) | skip) | (refine Y ?_; try change C _ _ _ _ _ _) | (refine Zs H ?_; clear H; (try clear w); intro w H) | (refine Zn H ?_; clear H; (try clear w); intro _ w H) | (refine Ze H ?_; clear H; (try clear w); intro gv w H))
  refine C.loopH H [2, 3, 4, 5, 6, 7, 8, 9, 10, 11, 12, 13, 14, 15, 16, 17, 18, 19, 20, 21, 22, 23, 24, 25, 26, 27, 28, 29, 30, 31, 32] [3] rfl (fun k vs => ∃ i : Nat, k = l.length - i ∧ i ≤ l.length ∧ vs = [.int .i64 (i : Int)] ∧ (l.take i).all (fun c => decide (0 ≤ c.page ∧ c.page < 16 ∧ c.data.length = 40)) = true) l.length ⟨0, rfl, Nat.zero_le _, rfl, rfl⟩ ?_
  clear H
  rintro k vs hv' w ⟨i, rfl, hi, rfl, hall⟩ H
  by_cases hlt : i < l.length
  · obtain ⟨g, o, c', hsv, _, _, hpin⟩ := posS hcS (by omega) (by decide)
    cases hsv
    obtain ⟨h0, dv, h1, hdS⟩ := hch.at' i hlt
    have hsu : (l.take (i + 1)).all (fun c => decide (0 ≤ c.page ∧ c.page < 16 ∧ c.data.length = 40)) = decide (0 ≤ l[i].page ∧ l[i].page < 16 ∧ l[i].data.length = 40) := by rw [List.take_succ_eq_append_getElem hlt, List.all_append, hall]; simp
    have hbad : decide (0 ≤ l[i].page ∧ l[i].page < 16 ∧ l[i].data.length = 40) = false → validM l = false := fun hb => by
      unfold validM
      have : l.all (fun c => decide (0 ≤ c.page ∧ c.page < 16 ∧ c.data.length = 40)) = false := by
        cases hq : l.all (fun c => decide (0 ≤ c.page ∧ c.page < 16 ∧ c.data.length = 40)) with
        | false => rfl
        | true => rw [List.all_eq_true] at hq; have := hq l[i] (List.getElem_mem hlt); rw [hb] at this; cases this
      rw [this, Bool.and_false]
    generalize l[i] = ch at *
    obtain ⟨pg, dat⟩ := ch
    dsimp only at h0 hdS hsu hbad
    have hdS' := hdS
    obtain ⟨da, dc, rfl, _⟩ := hdS'
    have p0 : Pin s g (o + i * 2 + 0) (.int .i64 pg) := hpin _ _ h0
    have p1 : Pin s g (o + i * 2 + 1) (.slice da dat.length dc) := hpin _ _ h1
    by_cases hb : 0 ≤ pg ∧ pg < 16 ∧ dat.length = 40
    · rw [decide_eq_true hb] at hsu
      obtain ⟨hb1, hb2, hb3⟩ := hb
      repeat' (first | refine Z H ?_ | (refine Zc ?_ ?_ <;> intro hc <;> first | (exfalso; omega) | skip) | (refine Y ?_; try change C _ _ _ _ _ _) | (refine Zs H ?_; clear H; (try clear w); intro w H) | (refine Zn H ?_; clear H; (try clear w); intro _ w H) | (refine Ze H ?_; clear H; (try clear w); intro gv w H))
      exact ⟨by (repeat (first | exact Agr.refl | exact Agr.hav | refine Agr.upd rfl ?_ | refine Agr.in rfl ?_)), l.length - (i + 1), by omega, ⟨i + 1, rfl, by omega, rfl, hsu⟩, H⟩
    · have hbad := hbad (decide_eq_false hb)
      repeat' (first | refine Z H ?_ | (refine Zc ?_ ?_ <;> intro hc <;> first | (exfalso; omega) | skip) | (refine Y ?_; try change C _ _ _ _ _ _) | (refine Zs H ?_; clear H; (try clear w); intro w H) | (refine Zn H ?_; clear H; (try clear w); intro _ w H) | (refine Ze H ?_; clear H; (try clear w); intro gv w H))
      all_goals exact ⟨_, resT rfl, by rw [hbad]; rfl, H⟩
  · have hie : i = l.length := by omega
    subst hie
    rw [List.take_length] at hall
    have hv : validM l = decide (l.length ≤ 16) := by unfold validM; rw [hall, Bool.and_true]
    repeat' (first | refine Z H ?_ | (refine Zc ?_ ?_ <;> intro hc <;> first | (exfalso; omega) | skip) | (refine Y ?_; try change C _ _ _ _ _ _) | (refine Zs H ?_; clear H; (try clear w); intro w H) | (refine Zn H ?_; clear H; (try clear w); intro _ w H) | (refine Ze H ?_; clear H; (try clear w); intro gv w H))
    · exact ⟨_, resT rfl, by rw [hv, decide_eq_true (by omega)]; rfl, H⟩
    · exact ⟨_, resT rfl, by rw [hv, decide_eq_false (by omega)]; rfl, H⟩
theorem applyL_take {ps : List UInt8} {l : List Ch} {i : Nat} (hlt : i < l.length) : applyL ps (l.take (i + 1)) = setP (applyL ps (l.take i)) l[i].page.toNat l[i].data := by
  rw [List.take_succ_eq_append_getElem hlt]; unfold applyL; rw [List.foldl_append]; rfl
end
end Go.Proofs.YtbknpbihgfphaaaDoor

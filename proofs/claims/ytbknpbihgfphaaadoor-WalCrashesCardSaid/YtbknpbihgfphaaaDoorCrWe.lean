/- wal: records read, a log opened. -/
import Derived.Test.YtbknpbihgfphaaaDoorCrWd
set_option linter.unusedSimpArgs false
set_option linter.unusedVariables false
namespace Go.Proofs.YtbknpbihgfphaaaDoor
open Go Go.RowKit Go.Own
/-- pages and how far, behind the records from the k-th on -/
def recsM (d : DM) (x : Ext) (e : Nat) : Nat → Nat → List UInt8 → Nat → List Ch → List UInt8 × Nat
  | 0, _, ps, u, _ => (ps, u)
  | n + 1, k, ps, u, pend => match decW 82 42 (sec d x (34 + k)) with
    | some (e', b :: b2 :: r) => if e' = e ∧ b.toNat = k ∧ b2.toNat < 16 then recsM d x e n (k + 1) ps u (pend ++ [⟨(b2.toNat : Int), r⟩]) else (ps, u)
    | _ => match decW 67 1 (sec d x (34 + k)) with
      | some (e', [b]) => if e' = e ∧ b.toNat = k then recsM d x e n (k + 1) (applyL ps pend) (k + 1) [] else (ps, u)
      | _ => (ps, u)
theorem build_change (p : Int) (a : Option Addr) (n c : Nat) (w : World) : (Instr.build 98 [(0, .int .i64 p), (1, .slice a n c)].toArray).run Tryd.prog w = .ok (.agg #[.int .i64 p, .slice a n c]) w := by kernel_rfl
section
variable {s : Ro} {w : World} {R : List Asn} {b bp : Nat} {d : DM} {x : Ext}
set_option maxRecDepth 100000 in
set_option maxHeartbeats 1000000 in
theorem readRecords_l {bL e h : Nat} {ps : List UInt8} (hN : Nib s) (H : Holds s w (logW bL bp e h 0 ps false :: dsk b d :: R)) (hp : PartS s bp b x) (hon : ∀ k : Nat, k < 52 → (pread d x (k : Int)).2 = 0) (hl : ps.length = 640) : Calls Tryd.prog 76 #[.pointer (some ⟨bL, 0, none⟩)] w fun y w' => ∃ s', s.Le s' ∧ Holds s' w' (logW bL bp e h (recsM d x e 18 0 ps 0 []).2 (recsM d x e 18 0 ps 0 []).1 false :: dsk b d :: R) ∧ y = .returned (.int .i64 0) := by
  have hwf : d.Wf := Holds.wf H.tail
  unfold logW at H
  refine enter Tryd.func76 rfl Tryd.ntmps76 rfl ?_
  repeat' (first | refine Z H ?_ | (refine Zc ?_ ?_ <;> intro hc <;> first | (exfalso; omega) | skip) | (refine Y ?_; try change C _ _ _ _ _ _) | (refine Zs H ?_; clear H; (try clear w); intro w H) | (refine Zn H ?_; clear H; (try clear w); intro _ w H) | (refine Ze H ?_; clear H; (try clear w); intro gv w H))
  replace H := H.nilRow 98 2
  refine C.loopS [2, 3, 4, 5, 6, 7, 8, 9, 10, 11, 12, 13, 14, 15, 16, 17, 18, 19, 20, 21, 22, 23, 24, 25, 26, 27, 28, 29, 30, 31, 32, 33, 34, 35, 36, 37, 38, 39, 40, 41, 42, 43, 44, 45, 46, 47, 48, 49, 50, 51, 52, 53, 54, 55, 56, 57, 58, 59, 60, 61, 62, 63, 64, 65, 66, 67, 68, 69, 70, 71, 72, 73, 74, 75, 76, 77, 78, 79, 80, 81, 82, 83, 84, 85, 86, 87, 88, 89, 90] [3, 15] rfl (fun k vs w => ∃ i : Nat, ∃ s' psi ui pend aa cc cs, k = 18 - i ∧ i ≤ 18 ∧ vs = [.slice aa pend.length cc, .int .i64 (i : Int)] ∧ s.Le s' ∧ ChS s' cs pend ∧ (∀ c ∈ pend, c.Ok) ∧ psi.length = 640 ∧ pend.length ≤ i ∧ recsM d x e 18 0 ps 0 [] = recsM d x e (18 - i) i psi ui pend ∧ Holds s' w (row 98 2 (.slice aa pend.length cc) pend.length cs :: logW bL bp e h ui psi false :: dsk b d :: R)) 18 ⟨0, s, ps, 0, [], none, 0, [], rfl, Nat.zero_le _, rfl, Ro.Le.refl _, ChS.nil _, by simp, hl, Nat.le_refl _, rfl, H⟩ ?_
  clear H
  rintro k vs hv w ⟨i, s1, psi, ui, pend, aa, cc, cs, rfl, hi, rfl, hs1, hch, hok, hpl, hpn, hrec, H⟩
  unfold logW at H
  generalize recsM d x e 18 0 ps 0 [] = res at *
  by_cases hlt : i < 18
  · rw [show 18 - i = (18 - (i + 1)) + 1 by omega] at hrec
    rw [recsM] at hrec
    repeat' (first | refine Z H ?_ | (refine Zc ?_ ?_ <;> intro hc <;> first | (exfalso; omega) | skip) | (refine Y ?_; try change C _ _ _ _ _ _) | (refine Zs H ?_; clear H; (try clear w); intro w H) | (refine Zn H ?_; clear H; (try clear w); intro _ w H) | (refine Ze H ?_; clear H; (try clear w); intro gv w H))
    first | (have hT : Holds _ _ (dsk b _ :: _) := H; clear hT) | (replace H := H.up 1 rfl; (try simp only [List.set_cons_zero, List.set_cons_succ, List.eraseIdx_cons_zero, List.eraseIdx_cons_succ] at H); have hT : Holds _ _ (dsk b _ :: _) := H; clear hT) | (replace H := H.up 2 rfl; (try simp only [List.set_cons_zero, List.set_cons_succ, List.eraseIdx_cons_zero, List.eraseIdx_cons_succ] at H); have hT : Holds _ _ (dsk b _ :: _) := H; clear hT) | (replace H := H.up 3 rfl; (try simp only [List.set_cons_zero, List.set_cons_succ, List.eraseIdx_cons_zero, List.eraseIdx_cons_succ] at H); have hT : Holds _ _ (dsk b _ :: _) := H; clear hT) | (replace H := H.up 4 rfl; (try simp only [List.set_cons_zero, List.set_cons_succ, List.eraseIdx_cons_zero, List.eraseIdx_cons_succ] at H); have hT : Holds _ _ (dsk b _ :: _) := H; clear hT) | (replace H := H.up 5 rfl; (try simp only [List.set_cons_zero, List.set_cons_succ, List.eraseIdx_cons_zero, List.eraseIdx_cons_succ] at H); have hT : Holds _ _ (dsk b _ :: _) := H; clear hT) | (replace H := H.up 6 rfl; (try simp only [List.set_cons_zero, List.set_cons_succ, List.eraseIdx_cons_zero, List.eraseIdx_cons_succ] at H); have hT : Holds _ _ (dsk b _ :: _) := H; clear hT)
    rw [show (34 : Int) + (i : Int) = ((34 + i : Nat) : Int) by omega]
    have hR := Read_p (a := ((34 + i : Nat) : Int)) H (hp.mono hs1) (by unfold I64; omega)
    have h64 := pread_64 (d := d) (x := x) (a := ((34 + i : Nat) : Int)) hwf (hon (34 + i) (by omega))
    unfold sec at hrec
    rw [hon (34 + i) (by omega)] at hR
    generalize (pread d x ((34 + i : Nat) : Int)).1 = l at *
    (refine X.call (hR) ?_; (try clear H); rintro _ w ⟨t1, a1, c1, rfl, H⟩; refine ⟨_, rfl, ?_⟩)
    clear hR
    repeat' (first | refine Z H ?_ | (refine Zc ?_ ?_ <;> intro hc <;> first | (exfalso; omega) | skip) | (refine Y ?_; try change C _ _ _ _ _ _) | (refine Zs H ?_; clear H; (try clear w); intro w H) | (refine Zn H ?_; clear H; (try clear w); intro _ w H) | (refine Ze H ?_; clear H; (try clear w); intro gv w H))
    refine X.call (readRecord_w (l := l) (hN.mono hs1) H (.own 0 _ rfl) (by omega)) ?_
    clear H
    rintro _ w ⟨s2, hs2, H, (⟨hd, rfl⟩ | ⟨e', q, q2, r, v, hd, rfl, hS⟩)⟩
    · refine ⟨_, rfl, ?_⟩
      rw [hd] at hrec
      dsimp only at hrec
      repeat' (first | refine Z H ?_ | (refine Zc ?_ ?_ <;> intro hc <;> first | (exfalso; omega) | skip) | (refine Y ?_; try change C _ _ _ _ _ _) | (refine Zs H ?_; clear H; (try clear w); intro w H) | (refine Zn H ?_; clear H; (try clear w); intro _ w H) | (refine Ze H ?_; clear H; (try clear w); intro gv w H))
      refine X.call (readMark_w (l := l) ((hN.mono hs1).mono hs2) H (.own 0 _ rfl) (by omega)) ?_
      clear H
      rintro _ w ⟨s3, hs3, H, (⟨hd2, rfl⟩ | ⟨e', q, hd2, rfl⟩)⟩
      · refine ⟨_, rfl, ?_⟩
        rw [hd2] at hrec
        dsimp only at hrec
        repeat' (first | refine Z H ?_ | (refine Zc ?_ ?_ <;> intro hc <;> first | (exfalso; omega) | skip) | (refine Y ?_; try change C _ _ _ _ _ _) | (refine Zs H ?_; clear H; (try clear w); intro w H) | (refine Zn H ?_; clear H; (try clear w); intro _ w H) | (refine Ze H ?_; clear H; (try clear w); intro gv w H))
        rw [hrec]
        exact ⟨_, resT rfl, s3, (hs1.trans hs2).trans hs3, H.arr, rfl⟩
      · refine ⟨_, rfl, ?_⟩
        rw [hd2] at hrec
        dsimp only at hrec
        by_cases hc : e' = e ∧ q.toNat = i
        · rw [if_pos hc] at hrec
          obtain ⟨rfl, hq⟩ := hc
          have Hq := H.arr (rs' := row 98 2 (.slice aa pend.length cc) pend.length cs :: logW bL bp e' h ui psi false :: dsk b d :: R)
          obtain ⟨s4, hs4, H1, hSl⟩ := Hq.fixRow
          clear H Hq
          have H := H1
          clear H1
          have hch4 := hch.mono ((hs2.trans hs3).trans hs4)
          repeat' (first | refine Z H ?_ | (refine Zc ?_ ?_ <;> intro hc <;> first | (exfalso; omega) | skip) | (refine Y ?_; try change C _ _ _ _ _ _) | (refine Zs H ?_; clear H; (try clear w); intro w H) | (refine Zn H ?_; clear H; (try clear w); intro _ w H) | (refine Ze H ?_; clear H; (try clear w); intro gv w H))
          (refine X.call (apply_l H hSl hch4 hok hpl (by omega)) ?_; (try clear H); rintro _ w ⟨rfl, H⟩; refine ⟨_, rfl, ?_⟩)
          unfold logW at H
          repeat' (first | refine Z H ?_ | (refine Zc ?_ ?_ <;> intro hc <;> first | (exfalso; omega) | skip) | (refine Y ?_; try change C _ _ _ _ _ _) | (refine Zs H ?_; clear H; (try clear w); intro w H) | (refine Zn H ?_; clear H; (try clear w); intro _ w H) | (refine Ze H ?_; clear H; (try clear w); intro gv w H))
          replace H := H.nilRow 98 2
          exact ⟨by (repeat (first | exact Agr.refl | exact Agr.hav | refine Agr.upd rfl ?_ | refine Agr.in rfl ?_)), 18 - (i + 1), by omega, i + 1, s4, applyL psi pend, i + 1, [], none, 0, [], rfl, by omega, rfl, ((hs1.trans hs2).trans hs3).trans hs4, ChS.nil _, by simp, applyL_len hok hpl, Nat.zero_le _, hrec, H⟩
        · rw [if_neg hc] at hrec
          by_cases hee : e' = e
          · have hqi : q.toNat ≠ i := fun h => hc ⟨hee, h⟩
            repeat' (first | refine Z H ?_ | (refine Zc ?_ ?_ <;> intro hc <;> first | (exfalso; omega) | skip) | (refine Y ?_; try change C _ _ _ _ _ _) | (refine Zs H ?_; clear H; (try clear w); intro w H) | (refine Zn H ?_; clear H; (try clear w); intro _ w H) | (refine Ze H ?_; clear H; (try clear w); intro gv w H))
            rw [hrec]
            exact ⟨_, resT rfl, s3, (hs1.trans hs2).trans hs3, H.arr, rfl⟩
          · repeat' (first | refine Z H ?_ | (refine Zc ?_ ?_ <;> intro hc <;> first | (exfalso; omega) | skip) | (refine Y ?_; try change C _ _ _ _ _ _) | (refine Zs H ?_; clear H; (try clear w); intro w H) | (refine Zn H ?_; clear H; (try clear w); intro _ w H) | (refine Ze H ?_; clear H; (try clear w); intro gv w H))
            rw [hrec]
            exact ⟨_, resT rfl, s3, (hs1.trans hs2).trans hs3, H.arr, rfl⟩
    · refine ⟨_, rfl, ?_⟩
      rw [hd] at hrec
      dsimp only at hrec
      by_cases hc : e' = e ∧ q.toNat = i ∧ q2.toNat < 16
      · rw [if_pos hc] at hrec
        obtain ⟨rfl, hq, hq2⟩ := hc
        have hr := decW_len hd (by decide)
        have hr40 : r.length = 40 := by simpa using hr
        have hS' : SlS s2 v 1 r.length (u8s r) := by rw [hr40]; exact hS
        have hS'' := hS'
        obtain ⟨va, vc, rfl, _⟩ := hS''
        repeat' (first | (refine K.build [(0, .int .i64 (q2.toNat : Int)), (1, .slice va r.length vc)] (.agg #[.int .i64 (q2.toNat : Int), .slice va r.length vc]) (build_change _ _ _ _) rfl rfl rfl ?_) | refine Z H ?_ | (refine Zc ?_ ?_ <;> intro hc <;> first | (exfalso; omega) | skip) | (refine Y ?_; try change C _ _ _ _ _ _) | (refine Zs H ?_; clear H; (try clear w); intro w H) | (refine Zn H ?_; clear H; (try clear w); intro _ w H) | (refine Ze H ?_; clear H; (try clear w); intro gv w H))
        refine K.one H rfl rfl (by conv => lhs; whnf) (by rfl) (by rfl) ?_; clear H; (try clear w); intro g1 w H
        have H' := H.arr (rs' := row 98 2 (.slice (some ⟨g1, 0, none⟩) 1 1) 1 [.int .i64 (q2.toNat : Int), .slice va r.length vc] :: row 98 2 (.slice aa pend.length cc) pend.length cs :: logW bL bp e' h ui psi false :: dsk b d :: R)
        clear H
        have H := H'
        clear H'
        repeat' (first | (refine X.app H ?_; clear H; intro a3 c3 w H) | refine Z H ?_ | (refine Zc ?_ ?_ <;> intro hc <;> first | (exfalso; omega) | skip) | (refine Y ?_; try change C _ _ _ _ _ _) | (refine Zs H ?_; clear H; (try clear w); intro w H) | (refine Zn H ?_; clear H; (try clear w); intro _ w H) | (refine Ze H ?_; clear H; (try clear w); intro gv w H))
        have H' := H.arr (rs' := row 98 2 (.slice a3 (pend.length + 1) c3) (pend.length + 1) (cs ++ [.int .i64 (q2.toNat : Int), .slice va r.length vc]) :: logW bL bp e' h ui psi false :: dsk b d :: R)
        exact ⟨by (repeat (first | exact Agr.refl | exact Agr.hav | refine Agr.upd rfl ?_ | refine Agr.in rfl ?_)), 18 - (i + 1), by omega, i + 1, s2, psi, ui, pend ++ [⟨(q2.toNat : Int), r⟩], a3, c3, _, rfl, by omega, by rw [List.length_append]; rfl, hs1.trans hs2, (hch.mono hs2).snoc (c := ⟨(q2.toNat : Int), r⟩) hS', by
          intro c hc
          rw [List.mem_append, List.mem_singleton] at hc
          rcases hc with hc | rfl
          · exact hok c hc
          · exact ⟨Int.natCast_nonneg _, by dsimp only; omega, hr40⟩, hpl, by rw [List.length_append]; simp; omega, hrec, by rw [List.length_append]; exact H'⟩
      · rw [if_neg hc] at hrec
        by_cases hee : e' = e
        · by_cases hqi : q.toNat = i
          · have hq2 : ¬ q2.toNat < 16 := fun h => hc ⟨hee, hqi, h⟩
            repeat' (first | refine Z H ?_ | (refine Zc ?_ ?_ <;> intro hc <;> first | (exfalso; omega) | skip) | (refine Y ?_; try change C _ _ _ _ _ _) | (refine Zs H ?_; clear H; (try clear w); intro w H) | (refine Zn H ?_; clear H; (try clear w); intro _ w H) | (refine Ze H ?_; clear H; (try clear w); intro gv w H))
            rw [hrec]
            exact ⟨_, resT rfl, s2, hs1.trans hs2, H.arr, rfl⟩
          · repeat' (first | refine Z H ?_ | (refine Zc ?_ ?_ <;> intro hc <;> first | (exfalso; omega) | skip) | (refine Y ?_; try change C _ _ _ _ _ _) | (refine Zs H ?_; clear H; (try clear w); intro w H) | (refine Zn H ?_; clear H; (try clear w); intro _ w H) | (refine Ze H ?_; clear H; (try clear w); intro gv w H))
            rw [hrec]
            exact ⟨_, resT rfl, s2, hs1.trans hs2, H.arr, rfl⟩
        · repeat' (first | refine Z H ?_ | (refine Zc ?_ ?_ <;> intro hc <;> first | (exfalso; omega) | skip) | (refine Y ?_; try change C _ _ _ _ _ _) | (refine Zs H ?_; clear H; (try clear w); intro w H) | (refine Zn H ?_; clear H; (try clear w); intro _ w H) | (refine Ze H ?_; clear H; (try clear w); intro gv w H))
          rw [hrec]
          exact ⟨_, resT rfl, s2, hs1.trans hs2, H.arr, rfl⟩
  · have hie : i = 18 := by omega
    subst hie
    rw [Nat.sub_self, recsM] at hrec
    repeat' (first | refine Z H ?_ | (refine Zc ?_ ?_ <;> intro hc <;> first | (exfalso; omega) | skip) | (refine Y ?_; try change C _ _ _ _ _ _) | (refine Zs H ?_; clear H; (try clear w); intro w H) | (refine Zn H ?_; clear H; (try clear w); intro _ w H) | (refine Ze H ?_; clear H; (try clear w); intro gv w H))
    rw [hrec]
    exact ⟨_, resT rfl, s1, hs1, H.arr, rfl⟩
end
end Go.Proofs.YtbknpbihgfphaaaDoor

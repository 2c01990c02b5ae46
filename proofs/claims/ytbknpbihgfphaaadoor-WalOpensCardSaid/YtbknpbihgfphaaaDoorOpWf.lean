/- wal: a log opened; its pages. -/
import Derived.Test.YtbknpbihgfphaaaDoorOpWd
set_option linter.unusedSimpArgs false
set_option linter.unusedVariables false
namespace Go.Proofs.YtbknpbihgfphaaaDoor
open Go Go.RowKit Go.Own
def pagesM (d : DM) (x : Ext) (e h : Nat) : Nat → Nat → List UInt8 → Option (List UInt8)
  | 0, _, ps => some ps
  | n + 1, i, ps => match decW 80 41 (sec d x (2 + 16 * h + i)) with
    | some (e', b :: r) => if e' = e ∧ b.toNat = i then pagesM d x e h n (i + 1) (setP ps i r) else none
    | _ => none
def openM (d : DM) (x : Ext) : Option WL × Int := match accW d x 2 with
  | none => (none, 6)
  | some (e, h) => match pagesM d x e h 16 0 z640 with
    | none => (none, 8)
    | some ps => (some ⟨e, h, (recsM d x e 18 0 ps 0 []).2, (recsM d x e 18 0 ps 0 []).1, false⟩, 0)
theorem candW_h {l : List UInt8} {i e h : Nat} (hc : candW l i = some (e, h)) : h ≤ 1 := by
  unfold candW at hc
  split at hc
  · split at hc
    · split at hc
      · cases hc; assumption
      · cases hc
    · cases hc
  · cases hc
theorem pickW_or {a b c : Option (Nat × Nat)} (h : pickW a b = c) : c = a ∨ c = b := by
  subst h
  unfold pickW
  split
  · exact .inr rfl
  · exact .inl rfl
  · split
    · exact .inr rfl
    · exact .inl rfl
theorem accW_h {d : DM} {x : Ext} {e h : Nat} : ∀ i, accW d x i = some (e, h) → h ≤ 1
  | 0, hc => by cases hc
  | i + 1, hc => by
    have h1 : pickW (accW d x i) (candW (sec d x i) i) = some (e, h) := hc
    rcases pickW_or h1 with h2 | h2
    · exact accW_h i h2.symm
    · exact candW_h h2.symm
theorem build_logW (bp : Nat) (w : World) : (Instr.build 140 [(0, .pointer (some ⟨bp, 0, none⟩))].toArray).run Tryd.prog w = .ok (.agg (.pointer (some ⟨bp, 0, none⟩) :: .int .u32 ((0 : Nat) : Int) :: .int .i64 ((0 : Nat) : Int) :: .int .i64 ((0 : Nat) : Int) :: (u8s z640 ++ [.bool false])).toArray) w := by kernel_rfl
section
variable {s : Ro} {w : World} {R : List Asn} {b bp : Nat} {d : DM} {x : Ext}
set_option maxRecDepth 100000 in
set_option maxHeartbeats 1000000 in
theorem Open_l (hN : Nib s) (H : Holds s w (dsk b d :: R)) (hp : PartS s bp b x) (hx : x.2 = 52) (hon : ∀ k : Nat, k < 52 → (pread d x (k : Int)).2 = 0) : Calls Tryd.prog 36 #[.pointer (some ⟨bp, 0, none⟩)] w fun y w' => ∃ s', s.Le s' ∧ ((∃ m bL, openM d x = (some m, 0) ∧ y = .returned (.tuple #[.pointer (some ⟨bL, 0, none⟩), .int .i64 0]) ∧ Holds s' w' (logW bL bp m.epoch m.home m.used m.pages m.dead :: dsk b d :: R)) ∨ ∃ c, openM d x = (none, c) ∧ c ≠ 0 ∧ y = .returned (.tuple #[.pointer none, .int .i64 c]) ∧ Holds s' w' (dsk b d :: R)) := by
  have hwf : d.Wf := Holds.wf H
  refine enter Tryd.func36 rfl Tryd.ntmps36 rfl ?_
  repeat' (first | refine Z H ?_ | (refine Zc ?_ ?_ <;> intro hc <;> first | (exfalso; omega) | skip) | (refine Y ?_; try change C _ _ _ _ _ _) | (refine Zs H ?_; clear H; (try clear w); intro w H) | (refine Zn H ?_; clear H; (try clear w); intro _ w H) | (refine Ze H ?_; clear H; (try clear w); intro gv w H))
  (refine X.call (Size_p H hp) ?_; (try clear H); rintro _ w ⟨rfl, H⟩; refine ⟨_, rfl, ?_⟩)
  rw [hx]
  repeat' (first | refine Z H ?_ | (refine Zc ?_ ?_ <;> intro hc <;> first | (exfalso; omega) | skip) | (refine Y ?_; try change C _ _ _ _ _ _) | (refine Zs H ?_; clear H; (try clear w); intro w H) | (refine Zn H ?_; clear H; (try clear w); intro _ w H) | (refine Ze H ?_; clear H; (try clear w); intro gv w H))
  refine K.build [(0, .pointer (some ⟨bp, 0, none⟩))] _ (build_logW _) rfl rfl rfl ?_
  repeat' (first | refine Z H ?_ | (refine Zc ?_ ?_ <;> intro hc <;> first | (exfalso; omega) | skip) | (refine Y ?_; try change C _ _ _ _ _ _) | (refine Zs H ?_; clear H; (try clear w); intro w H) | (refine Zn H ?_; clear H; (try clear w); intro _ w H) | (refine Ze H ?_; clear H; (try clear w); intro gv w H))
  rename_i bL
  refine X.call (readHead_l hN H hp hon) ?_
  clear H
  rintro _ w ⟨s1, hs1, H, rfl⟩
  refine ⟨_, rfl, ?_⟩
  cases hacc : accW d x 2 with
  | none =>
    have ho : openM d x = (none, 6) := by unfold openM; rw [hacc]
    rw [hacc] at H
    dsimp only [Option.isSome_none]
    rw [if_neg (by decide)]
    repeat' (first | refine Z H ?_ | (refine Zc ?_ ?_ <;> intro hc <;> first | (exfalso; omega) | skip) | (refine Y ?_; try change C _ _ _ _ _ _) | (refine Zs H ?_; clear H; (try clear w); intro w H) | (refine Zn H ?_; clear H; (try clear w); intro _ w H) | (refine Ze H ?_; clear H; (try clear w); intro gv w H))
    exact ⟨_, resTT rfl, s1, hs1, .inr ⟨6, ho, by decide, rfl, H.arr⟩⟩
  | some eh =>
    obtain ⟨e, h⟩ := eh
    have hh := accW_h 2 hacc
    have ho : openM d x = match pagesM d x e h 16 0 z640 with | none => (none, 8) | some ps => (some ⟨e, h, (recsM d x e 18 0 ps 0 []).2, (recsM d x e 18 0 ps 0 []).1, false⟩, 0) := by unfold openM; rw [hacc]
    rw [hacc] at H
    dsimp only [Option.isSome_some, Option.getD_some] at H ⊢
    rw [if_pos rfl]
    unfold logW at H
    repeat' (first | refine Z H ?_ | (refine Zc ?_ ?_ <;> intro hc <;> first | (exfalso; omega) | skip) | (refine Y ?_; try change C _ _ _ _ _ _) | (refine Zs H ?_; clear H; (try clear w); intro w H) | (refine Zn H ?_; clear H; (try clear w); intro _ w H) | (refine Ze H ?_; clear H; (try clear w); intro gv w H))
    refine C.loopS [2, 3, 6, 7, 8, 9, 10, 11, 12, 25, 26, 27, 28, 29, 30, 31, 32, 33, 34, 35, 36, 37, 38, 39, 40, 41, 42, 43, 44, 45, 46, 47, 48, 49, 50, 51, 52, 53, 54, 55, 56, 57, 58, 59, 60, 61, 62, 63, 64, 65, 66, 67, 68, 69, 70, 71, 72] [25] rfl (fun k vs w => ∃ i : Nat, ∃ s' ps, k = 16 - i ∧ i ≤ 16 ∧ vs = [.int .i64 (i : Int)] ∧ s.Le s' ∧ ps.length = 640 ∧ pagesM d x e h 16 0 z640 = pagesM d x e h (16 - i) i ps ∧ Holds s' w (logW bL bp e h 0 ps false :: dsk b d :: R)) 16 ⟨0, s1, z640, rfl, Nat.zero_le _, rfl, hs1, by decide, rfl, H⟩ ?_
    clear H
    rintro k vs hv w ⟨i, s2, ps, rfl, hi, rfl, hs2, hpl, hpm, H⟩
    unfold logW at H
    generalize pagesM d x e h 16 0 z640 = res at *
    by_cases hlt : i < 16
    · rw [show 16 - i = (16 - (i + 1)) + 1 by omega] at hpm
      rw [pagesM] at hpm
      repeat' (first | refine Z H ?_ | (refine Zc ?_ ?_ <;> intro hc <;> first | (exfalso; omega) | skip) | (refine Y ?_; try change C _ _ _ _ _ _) | (refine Zs H ?_; clear H; (try clear w); intro w H) | (refine Zn H ?_; clear H; (try clear w); intro _ w H) | (refine Ze H ?_; clear H; (try clear w); intro gv w H))
      (refine X.call (homeAt_w (h := h) (i := i) H (by omega) (by omega)) ?_; (try clear H); rintro _ w ⟨rfl, H⟩; refine ⟨_, rfl, ?_⟩)
      repeat' (first | refine Z H ?_ | (refine Zc ?_ ?_ <;> intro hc <;> first | (exfalso; omega) | skip) | (refine Y ?_; try change C _ _ _ _ _ _) | (refine Zs H ?_; clear H; (try clear w); intro w H) | (refine Zn H ?_; clear H; (try clear w); intro _ w H) | (refine Ze H ?_; clear H; (try clear w); intro gv w H))
      first | (have hT : Holds _ _ (dsk b _ :: _) := H; clear hT) | (replace H := H.up 1 rfl; (try simp only [List.set_cons_zero, List.set_cons_succ, List.eraseIdx_cons_zero, List.eraseIdx_cons_succ] at H); have hT : Holds _ _ (dsk b _ :: _) := H; clear hT) | (replace H := H.up 2 rfl; (try simp only [List.set_cons_zero, List.set_cons_succ, List.eraseIdx_cons_zero, List.eraseIdx_cons_succ] at H); have hT : Holds _ _ (dsk b _ :: _) := H; clear hT) | (replace H := H.up 3 rfl; (try simp only [List.set_cons_zero, List.set_cons_succ, List.eraseIdx_cons_zero, List.eraseIdx_cons_succ] at H); have hT : Holds _ _ (dsk b _ :: _) := H; clear hT) | (replace H := H.up 4 rfl; (try simp only [List.set_cons_zero, List.set_cons_succ, List.eraseIdx_cons_zero, List.eraseIdx_cons_succ] at H); have hT : Holds _ _ (dsk b _ :: _) := H; clear hT) | (replace H := H.up 5 rfl; (try simp only [List.set_cons_zero, List.set_cons_succ, List.eraseIdx_cons_zero, List.eraseIdx_cons_succ] at H); have hT : Holds _ _ (dsk b _ :: _) := H; clear hT) | (replace H := H.up 6 rfl; (try simp only [List.set_cons_zero, List.set_cons_succ, List.eraseIdx_cons_zero, List.eraseIdx_cons_succ] at H); have hT : Holds _ _ (dsk b _ :: _) := H; clear hT)
      have hR := Read_p (a := ((2 + 16 * h + i : Nat) : Int)) H (hp.mono hs2) (by unfold I64; omega)
      have h64 := pread_64 (d := d) (x := x) (a := ((2 + 16 * h + i : Nat) : Int)) hwf (hon (2 + 16 * h + i) (by omega))
      unfold sec at hpm
      rw [hon (2 + 16 * h + i) (by omega)] at hR
      generalize (pread d x ((2 + 16 * h + i : Nat) : Int)).1 = l at *
      (refine X.call (hR) ?_; (try clear H); rintro _ w ⟨t1, a1, c1, rfl, H⟩; refine ⟨_, rfl, ?_⟩)
      clear hR
      repeat' (first | refine Z H ?_ | (refine Zc ?_ ?_ <;> intro hc <;> first | (exfalso; omega) | skip) | (refine Y ?_; try change C _ _ _ _ _ _) | (refine Zs H ?_; clear H; (try clear w); intro w H) | (refine Zn H ?_; clear H; (try clear w); intro _ w H) | (refine Ze H ?_; clear H; (try clear w); intro gv w H))
      refine X.call (readPage_w (l := l) (hN.mono hs2) H (.own 0 _ rfl) (by omega)) ?_
      clear H
      rintro _ w ⟨s3, hs3, H, (⟨hd, rfl⟩ | ⟨e', q, r, v, hd, rfl, hS⟩)⟩
      · refine ⟨_, rfl, ?_⟩
        rw [hd] at hpm
        dsimp only at hpm
        subst hpm
        repeat' (first | refine Z H ?_ | (refine Zc ?_ ?_ <;> intro hc <;> first | (exfalso; omega) | skip) | (refine Y ?_; try change C _ _ _ _ _ _) | (refine Zs H ?_; clear H; (try clear w); intro w H) | (refine Zn H ?_; clear H; (try clear w); intro _ w H) | (refine Ze H ?_; clear H; (try clear w); intro gv w H))
        exact ⟨_, resTT rfl, s3, hs2.trans hs3, .inr ⟨8, ho, by decide, rfl, H.arr⟩⟩
      · refine ⟨_, rfl, ?_⟩
        rw [hd] at hpm
        dsimp only at hpm
        by_cases hc : e' = e ∧ q.toNat = i
        · rw [if_pos hc] at hpm
          obtain ⟨rfl, hq⟩ := hc
          have hr := decW_len hd (by decide)
          have hr40 : r.length = 40 := by simpa using hr
          have hS' : SlS s3 v 1 r.length (u8s r) := by rw [hr40]; exact hS
          have hS'' := hS'
          obtain ⟨va, vc, rfl, _⟩ := hS''
          have H' := H.arr (rs' := logW bL bp e' h 0 ps false :: dsk b d :: R)
          clear H
          have H := H'
          clear H'
          unfold logW at H
          repeat' (first | (refine K.iaA (i := i) rfl rfl rfl rfl rfl (by omega) ?_) | refine Z H ?_ | (refine Zc ?_ ?_ <;> intro hc <;> first | (exfalso; omega) | skip) | (refine Y ?_; try change C _ _ _ _ _ _) | (refine Zs H ?_; clear H; (try clear w); intro w H) | (refine Zn H ?_; clear H; (try clear w); intro _ w H) | (refine Ze H ?_; clear H; (try clear w); intro gv w H))
          refine K.copyV (off := 4 + i * 40) 0 H rfl (.ro hS') (u8s_one _) (q := 40) (by rw [hr40]; rfl) (by simp [u8s_len, hpl]; omega) rfl rfl rfl ?_
          clear H
          intro w H
          rw [List.set_cons_zero] at H
          have H' : Holds s3 w (logW bL bp e' h 0 (setP ps i r) false :: dsk b d :: R) := by
            have hput := put_page (pre := [.pointer (some ⟨bp, 0, none⟩), .int .u32 (e' : Int), .int .i64 (h : Int), .int .i64 ((0 : Nat) : Int)]) (post := [.bool false]) (off := 4) rfl hpl hr40 (by omega : i < 16)
            unfold logW
            exact Eq.mp (congrArg (fun c => Holds s3 w (var bL 140 c :: dsk b d :: R)) hput) H
          clear H
          have H := H'
          clear H'
          repeat' (first | refine Z H ?_ | (refine Zc ?_ ?_ <;> intro hc <;> first | (exfalso; omega) | skip) | (refine Y ?_; try change C _ _ _ _ _ _) | (refine Zs H ?_; clear H; (try clear w); intro w H) | (refine Zn H ?_; clear H; (try clear w); intro _ w H) | (refine Ze H ?_; clear H; (try clear w); intro gv w H))
          exact ⟨by (repeat (first | exact Agr.refl | exact Agr.hav | refine Agr.upd rfl ?_ | refine Agr.in rfl ?_)), 16 - (i + 1), by omega, i + 1, s3, setP ps i r, rfl, by omega, rfl, hs2.trans hs3, setP_len hpl hr40 (by omega), hpm, H⟩
        · rw [if_neg hc] at hpm
          subst hpm
          by_cases hee : e' = e
          · have hqi : q.toNat ≠ i := fun h => hc ⟨hee, h⟩
            repeat' (first | refine Z H ?_ | (refine Zc ?_ ?_ <;> intro hc <;> first | (exfalso; omega) | skip) | (refine Y ?_; try change C _ _ _ _ _ _) | (refine Zs H ?_; clear H; (try clear w); intro w H) | (refine Zn H ?_; clear H; (try clear w); intro _ w H) | (refine Ze H ?_; clear H; (try clear w); intro gv w H))
            exact ⟨_, resTT rfl, s3, hs2.trans hs3, .inr ⟨8, ho, by decide, rfl, H.arr⟩⟩
          · repeat' (first | refine Z H ?_ | (refine Zc ?_ ?_ <;> intro hc <;> first | (exfalso; omega) | skip) | (refine Y ?_; try change C _ _ _ _ _ _) | (refine Zs H ?_; clear H; (try clear w); intro w H) | (refine Zn H ?_; clear H; (try clear w); intro _ w H) | (refine Ze H ?_; clear H; (try clear w); intro gv w H))
            exact ⟨_, resTT rfl, s3, hs2.trans hs3, .inr ⟨8, ho, by decide, rfl, H.arr⟩⟩
    · have hie : 16 - i = 0 := by omega
      rw [hie, pagesM] at hpm
      subst hpm
      dsimp only at ho
      repeat' (first | refine Z H ?_ | (refine Zc ?_ ?_ <;> intro hc <;> first | (exfalso; omega) | skip) | (refine Y ?_; try change C _ _ _ _ _ _) | (refine Zs H ?_; clear H; (try clear w); intro w H) | (refine Zn H ?_; clear H; (try clear w); intro _ w H) | (refine Ze H ?_; clear H; (try clear w); intro gv w H))
      refine X.call (readRecords_l (hN.mono hs2) H (hp.mono hs2) hon hpl) ?_
      clear H
      rintro _ w ⟨s3, hs3, H, rfl⟩
      refine ⟨_, rfl, ?_⟩
      repeat' (first | refine Z H ?_ | (refine Zc ?_ ?_ <;> intro hc <;> first | (exfalso; omega) | skip) | (refine Y ?_; try change C _ _ _ _ _ _) | (refine Zs H ?_; clear H; (try clear w); intro w H) | (refine Zn H ?_; clear H; (try clear w); intro _ w H) | (refine Ze H ?_; clear H; (try clear w); intro gv w H))
      exact ⟨_, resTT rfl, s3, hs2.trans hs3, .inl ⟨_, bL, ho, rfl, H⟩⟩
end
end Go.Proofs.YtbknpbihgfphaaaDoor

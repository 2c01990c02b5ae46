/- wal: a commit. -/
import Derived.Test.YtbknpbihgfphaaaDoorCrWg
import Derived.Test.YtbknpbihgfphaaaDoorCrKd
set_option linter.unusedSimpArgs false
set_option linter.unusedVariables false
namespace Go.Proofs.YtbknpbihgfphaaaDoor
open Go Go.RowKit Go.Own
def recM (d : DM) (x : Ext) (m : WL) (l : List Ch) : DM × WL × Int :=
  if (run x (recSteps m.epoch m.used l) d).2 = 0 then ((run x (recSteps m.epoch m.used l) d).1, ⟨m.epoch, m.home, m.used + l.length + 1, applyL m.pages l, false⟩, 0)
  else ((run x (recSteps m.epoch m.used l) d).1, ⟨m.epoch, m.home, m.used, m.pages, true⟩, (run x (recSteps m.epoch m.used l) d).2)
def commitM (d : DM) (x : Ext) (m : WL) (l : List Ch) : DM × WL × Int :=
  if m.dead = true then (d, m, 9) else if validM l = false then (d, m, 1) else if l.length = 0 then (d, m, 0)
  else if 18 < m.used + l.length + 1 then
    (if m.epoch = 4294967295 then (d, m, 5)
    else if (run x (homeSteps (m.epoch + 1) (1 - m.home) m.pages) d).2 = 0 then recM (run x (homeSteps (m.epoch + 1) (1 - m.home) m.pages) d).1 x ⟨m.epoch + 1, 1 - m.home, 0, m.pages, false⟩ l
    else ((run x (homeSteps (m.epoch + 1) (1 - m.home) m.pages) d).1, ⟨m.epoch, m.home, m.used, m.pages, true⟩, (run x (homeSteps (m.epoch + 1) (1 - m.home) m.pages) d).2))
  else recM d x m l
theorem get_dead {a b c d : Value} {ps : List UInt8} {v : Value} (hl : ps.length = 640) : (a :: b :: c :: d :: (u8s ps ++ [v]))[644]? = some v := by
  simp only [List.getElem?_cons_succ]
  rw [List.getElem?_append_right (by rw [u8s_len, hl]; decide), u8s_len, hl]
  rfl
theorem set_dead {a b c d : Value} {ps : List UInt8} {v u : Value} (hl : ps.length = 640) : (a :: b :: c :: d :: (u8s ps ++ [v])).set 644 u = a :: b :: c :: d :: (u8s ps ++ [u]) := by
  simp only [List.set_cons_succ]
  rw [List.set_append_right _ _ (by rw [u8s_len, hl]; decide), u8s_len, hl]
  rfl
theorem len_dead {a b c d : Value} {ps : List UInt8} {v : Value} (hl : ps.length = 640) : Nat.blt 644 (a :: b :: c :: d :: (u8s ps ++ [v])).length = true := by
  have : (a :: b :: c :: d :: (u8s ps ++ [v])).length = 645 := by simp only [List.length_cons, List.length_append, u8s_len, hl, List.length_nil]
  rw [this]; rfl
theorem run_pend (x : Ext) : ∀ (l : List St) (d : DM), (run x l d).1.pend.length ≤ d.pend.length + l.length
  | [], d => by simp [run]
  | .w a b :: r, d => by
    have h1 := pend_pwriteW d x (a : Int) b
    rw [List.length_cons]
    by_cases h : (pwrite d x (a : Int) b).2 = 0
    · rw [run_ok x h]
      have := run_pend x r (pwrite d x (a : Int) b).1
      omega
    · rw [run_no x h]; omega
  | .f :: r, d => by
    have h1 := pend_flushW d
    rw [List.length_cons]
    by_cases h : d.flush.2 = 0
    · rw [run_fok x h]
      have := run_pend x r d.flush.1
      omega
    · rw [run_fno x h]; omega
theorem homeFrom_len (e h : Nat) (ps : List UInt8) : ∀ n i, (homeFrom e h ps n i).length = n + 3
  | 0, _ => rfl
  | n + 1, i => by rw [homeFrom, List.length_cons, homeFrom_len]
theorem homeSteps_len (e h : Nat) (ps : List UInt8) : (homeSteps e h ps).length = 19 := homeFrom_len e h ps 16 0
section
variable {s : Ro} {w : World} {R : List Asn} {b bp : Nat} {d : DM} {x : Ext}
set_option maxRecDepth 100000 in
set_option maxHeartbeats 1000000 in
theorem Commit1_l {bC bX bL e h u : Nat} {ps : List UInt8} {dd : Bool} {code : Int} (H : Holds s w (var bC 28 [.int .i64 code] :: var bX 71 [.pointer (some ⟨bL, 0, none⟩)] :: logW bL bp e h u ps dd :: R)) (hl : ps.length = 640) : CallsD Tryd.prog 78 #[.pointer (some ⟨bC, 0, none⟩), .pointer (some ⟨bX, 0, none⟩)] .returning w fun y u' w' => u' = .returning ∧ (y = .returned (.tuple #[]) ∧ Holds s w' (var bC 28 [.int .i64 code] :: var bX 71 [.pointer (some ⟨bL, 0, none⟩)] :: logW bL bp e h u ps (decide (code ≠ 0)) :: R)) := by
  unfold logW at H
  refine callsD Tryd.func78 rfl Tryd.ntmps78 rfl ?_
  by_cases hc0 : code = 0
  · rw [decide_eq_false (not_not_intro hc0)]
    repeat' (first | (refine K.store (v := .bool false) 2 H rfl rfl rfl rfl rfl (len_dead hl) ?_; rw [set_dead hl]; clear H; (try clear w); intro w H) | refine Z H ?_ | (refine Zc ?_ ?_ <;> intro hc <;> first | (exfalso; omega) | skip) | (refine Y ?_; try change C _ _ _ _ _ _) | (refine Zs H ?_; clear H; (try clear w); intro w H) | (refine Zn H ?_; clear H; (try clear w); intro _ w H) | (refine Ze H ?_; clear H; (try clear w); intro gv w H))
    exact ⟨_, res0 rfl, rfl, H⟩
  · rw [decide_eq_true hc0]
    repeat' (first | (refine K.store (v := .bool true) 2 H rfl rfl rfl rfl rfl (len_dead hl) ?_; rw [set_dead hl]; clear H; (try clear w); intro w H) | refine Z H ?_ | (refine Zc ?_ ?_ <;> intro hc <;> first | (exfalso; omega) | skip) | (refine Y ?_; try change C _ _ _ _ _ _) | (refine Zs H ?_; clear H; (try clear w); intro w H) | (refine Zn H ?_; clear H; (try clear w); intro _ w H) | (refine Ze H ?_; clear H; (try clear w); intro gv w H))
    exact ⟨_, res0 rfl, rfl, H⟩
set_option maxRecDepth 100000 in
set_option maxHeartbeats 1000000 in
theorem Commit_l {bL : Nat} {m : WL} {v : Value} {cs : List Value} {l : List Ch} (hN : Nib s) (H : Holds s w (logW bL bp m.epoch m.home m.used m.pages m.dead :: dsk b d :: R)) (hp : PartS s bp b x) (he : m.epoch < 2 ^ 32) (hh : m.home ≤ 1) (hu : m.used ≤ 18) (hl : m.pages.length = 640) (hcS : SlS s v 2 l.length cs) (hch : ChS s cs l) (hn : l.length ≤ 1000) (hpl : d.pend.length ≤ 10000) : Calls Tryd.prog 37 #[.pointer (some ⟨bL, 0, none⟩), v] w fun y w' => y = .returned (.int .i64 (commitM d x m l).2.2) ∧ Holds s w' (logW bL bp (commitM d x m l).2.1.epoch (commitM d x m l).2.1.home (commitM d x m l).2.1.used (commitM d x m l).2.1.pages (commitM d x m l).2.1.dead :: dsk b (commitM d x m l).1 :: R) := by
  obtain ⟨e, h, u, ps, dd⟩ := m
  have hc' := hcS
  obtain ⟨va, vc, rfl, _⟩ := hc'
  dsimp only at *
  unfold logW at H
  unfold commitM
  dsimp only
  refine enterD Tryd.func37 rfl Tryd.ntmps37 rfl ?_
  cases dd with
  | true =>
    rw [if_pos rfl]
    repeat' (first | refine D.seq ?_ | refine D.region ?_ | (refine LD.nil ?_; change D _ _ _ _ _ _ _) | (refine D.skip ?_; change D _ _ _ _ _ _ _) | refine D.tru ?_ | refine D.fls ?_ | refine LD.not ?_ | refine LD.len ?_ | refine LD.nchk ?_ | (refine LD.one rfl ?_; repeat' (first |  (refine K.load (v := .bool true) 2 H rfl rfl rfl rfl (get_dead hl) ?_) | refine Z H ?_ | (refine Zc ?_ ?_ <;> intro hc <;> first | (exfalso; omega) | skip) | (refine Y ?_; try change C _ _ _ _ _ _) | (refine Zs H ?_; clear H; (try clear w); intro w H) | (refine Zn H ?_; clear H; (try clear w); intro _ w H) | (refine Ze H ?_; clear H; (try clear w); intro gv w H)); all_goals (first | refine L.nil ⟨rfl, ?_⟩ | refine ⟨rfl, ?_⟩)))
    refine D.ret (leaves0 (resC1 0 H rfl rfl rfl) ⟨rfl, H.tail.tail⟩)
  | false =>
    rw [if_neg (by decide)]
    repeat' (first | refine D.seq ?_ | refine D.region ?_ | (refine LD.nil ?_; change D _ _ _ _ _ _ _) | (refine D.skip ?_; change D _ _ _ _ _ _ _) | refine D.tru ?_ | refine D.fls ?_ | refine LD.not ?_ | refine LD.len ?_ | refine LD.nchk ?_ | (refine LD.one rfl ?_; repeat' (first |  (refine K.load (v := .bool false) 2 H rfl rfl rfl rfl (get_dead hl) ?_) | refine Z H ?_ | (refine Zc ?_ ?_ <;> intro hc <;> first | (exfalso; omega) | skip) | (refine Y ?_; try change C _ _ _ _ _ _) | (refine Zs H ?_; clear H; (try clear w); intro w H) | (refine Zn H ?_; clear H; (try clear w); intro _ w H) | (refine Ze H ?_; clear H; (try clear w); intro gv w H)); all_goals (first | refine L.nil ⟨rfl, ?_⟩ | refine ⟨rfl, ?_⟩)))
    rename_i bX bC
    refine LD.call (valid_l H hcS hch hn) ?_
    clear H
    rintro _ w ⟨rfl, H⟩
    refine ⟨_, rfl, ?_⟩
    cases hvm : validM l with
    | false =>
      rw [if_pos rfl]
      repeat' (first | refine D.seq ?_ | refine D.region ?_ | (refine LD.nil ?_; change D _ _ _ _ _ _ _) | (refine D.skip ?_; change D _ _ _ _ _ _ _) | refine D.tru ?_ | refine D.fls ?_ | refine LD.not ?_ | refine LD.len ?_ | refine LD.nchk ?_ | (refine LD.one rfl ?_; repeat' (first | refine Z H ?_ | (refine Zc ?_ ?_ <;> intro hc <;> first | (exfalso; omega) | skip) | (refine Y ?_; try change C _ _ _ _ _ _) | (refine Zs H ?_; clear H; (try clear w); intro w H) | (refine Zn H ?_; clear H; (try clear w); intro _ w H) | (refine Ze H ?_; clear H; (try clear w); intro gv w H)); all_goals (first | refine L.nil ⟨rfl, ?_⟩ | refine ⟨rfl, ?_⟩)))
      refine D.ret (leaves0 (resC1 0 H rfl rfl rfl) ⟨rfl, H.tail.tail⟩)
    | true =>
      rw [if_neg (by decide)]
      obtain ⟨hv16, hok⟩ := validM_ok hvm
      by_cases hl0 : l.length = 0
      · rw [if_pos hl0]
        repeat' (first | refine D.seq ?_ | refine D.region ?_ | (refine LD.nil ?_; change D _ _ _ _ _ _ _) | (refine D.skip ?_; change D _ _ _ _ _ _ _) | refine D.tru ?_ | refine D.fls ?_ | refine LD.not ?_ | refine LD.len ?_ | refine LD.nchk ?_ | (refine LD.one rfl ?_; repeat' (first | refine Z H ?_ | (refine Zc ?_ ?_ <;> intro hc <;> first | (exfalso; omega) | skip) | (refine Y ?_; try change C _ _ _ _ _ _) | (refine Zs H ?_; clear H; (try clear w); intro w H) | (refine Zn H ?_; clear H; (try clear w); intro _ w H) | (refine Ze H ?_; clear H; (try clear w); intro gv w H)); all_goals (first | refine L.nil ⟨rfl, ?_⟩ | refine ⟨rfl, ?_⟩)))
        refine D.ret (leaves0 (resC1 0 H rfl rfl rfl) ⟨rfl, H.tail.tail⟩)
      · rw [if_neg hl0]
        by_cases hfull : 18 < u + l.length + 1
        · rw [if_pos hfull]
          by_cases hmax : e = 4294967295
          · rw [if_pos hmax]
            repeat' (first | refine D.seq ?_ | refine D.region ?_ | (refine LD.nil ?_; change D _ _ _ _ _ _ _) | (refine D.skip ?_; change D _ _ _ _ _ _ _) | refine D.tru ?_ | refine D.fls ?_ | refine LD.not ?_ | refine LD.len ?_ | refine LD.nchk ?_ | (refine LD.one rfl ?_; repeat' (first | refine Z H ?_ | (refine Zc ?_ ?_ <;> intro hc <;> first | (exfalso; omega) | skip) | (refine Y ?_; try change C _ _ _ _ _ _) | (refine Zs H ?_; clear H; (try clear w); intro w H) | (refine Zn H ?_; clear H; (try clear w); intro _ w H) | (refine Ze H ?_; clear H; (try clear w); intro gv w H)); all_goals (first | refine L.nil ⟨rfl, ?_⟩ | refine ⟨rfl, ?_⟩)))
            refine D.ret (leaves0 (resC1 0 H rfl rfl rfl) ⟨rfl, H.tail.tail⟩)
          · rw [if_neg hmax]
            repeat' (first | refine D.seq ?_ | refine D.region ?_ | (refine LD.nil ?_; change D _ _ _ _ _ _ _) | (refine D.skip ?_; change D _ _ _ _ _ _ _) | refine D.tru ?_ | refine D.fls ?_ | refine LD.not ?_ | refine LD.len ?_ | refine LD.nchk ?_ | (refine LD.one rfl ?_; repeat' (first |  (refine B.fn ?_) | refine Z H ?_ | (refine Zc ?_ ?_ <;> intro hc <;> first | (exfalso; omega) | skip) | (refine Y ?_; try change C _ _ _ _ _ _) | (refine Zs H ?_; clear H; (try clear w); intro w H) | (refine Zn H ?_; clear H; (try clear w); intro _ w H) | (refine Ze H ?_; clear H; (try clear w); intro gv w H)); all_goals (first | refine L.nil ⟨rfl, ?_⟩ | refine ⟨rfl, ?_⟩)))
            refine LD.defer ?_
            repeat' (first | refine D.seq ?_ | refine D.region ?_ | (refine LD.nil ?_; change D _ _ _ _ _ _ _) | (refine D.skip ?_; change D _ _ _ _ _ _ _) | refine D.tru ?_ | refine D.fls ?_ | refine LD.not ?_ | refine LD.len ?_ | refine LD.nchk ?_ | (refine LD.one rfl ?_; repeat' (first | refine Z H ?_ | (refine Zc ?_ ?_ <;> intro hc <;> first | (exfalso; omega) | skip) | (refine Y ?_; try change C _ _ _ _ _ _) | (refine Zs H ?_; clear H; (try clear w); intro w H) | (refine Zn H ?_; clear H; (try clear w); intro _ w H) | (refine Ze H ?_; clear H; (try clear w); intro gv w H)); all_goals (first | refine L.nil ⟨rfl, ?_⟩ | refine ⟨rfl, ?_⟩)))
            refine LD.call (checkpoint_l hN (H.arr (rs' := logW bL bp e h u ps false :: dsk b d :: var bC 28 [.int .i64 0] :: var bX 71 [.pointer (some ⟨bL, 0, none⟩)] :: R)) hp (by omega) hh hl (by omega)) ?_
            clear H
            rintro _ w ⟨rfl, H⟩
            refine ⟨_, rfl, ?_⟩
            have hpr := run_pend x (homeSteps (e + 1) (1 - h) ps) d
            rw [homeSteps_len] at hpr
            by_cases h8 : (run x (homeSteps (e + 1) (1 - h) ps) d).2 = 0
            · rw [if_pos h8] at H ⊢
              rw [h8]
              generalize (run x (homeSteps (e + 1) (1 - h) ps) d).1 = dy at *
              repeat' (first | refine D.seq ?_ | refine D.region ?_ | (refine LD.nil ?_; change D _ _ _ _ _ _ _) | (refine D.skip ?_; change D _ _ _ _ _ _ _) | refine D.tru ?_ | refine D.fls ?_ | refine LD.not ?_ | refine LD.len ?_ | refine LD.nchk ?_ | (refine LD.one rfl ?_; repeat' (first | refine Z H ?_ | (refine Zc ?_ ?_ <;> intro hc <;> first | (exfalso; omega) | skip) | (refine Y ?_; try change C _ _ _ _ _ _) | (refine Zs H ?_; clear H; (try clear w); intro w H) | (refine Zn H ?_; clear H; (try clear w); intro _ w H) | (refine Ze H ?_; clear H; (try clear w); intro gv w H)); all_goals (first | refine L.nil ⟨rfl, ?_⟩ | refine ⟨rfl, ?_⟩)))
              refine LD.call (record_l (e := e + 1) (h := 1 - h) (u := 0) hN (H.arr (rs' := logW bL bp (e + 1) (1 - h) 0 ps false :: dsk b dy :: var bC 28 [.int .i64 0] :: var bX 71 [.pointer (some ⟨bL, 0, none⟩)] :: R)) hp (by omega) hl hcS hch hok (by omega) (by omega)) ?_
              clear H
              rintro _ w ⟨rfl, H⟩
              refine ⟨_, rfl, ?_⟩
              unfold recM
              dsimp only
              by_cases h9 : (run x (recSteps (e + 1) (0) l) dy).2 = 0
              · rw [if_pos h9] at H ⊢
                rw [h9]
                generalize (run x (recSteps (e + 1) (0) l) dy).1 = dz at *
                repeat' (first | refine D.seq ?_ | refine D.region ?_ | (refine LD.nil ?_; change D _ _ _ _ _ _ _) | (refine D.skip ?_; change D _ _ _ _ _ _ _) | refine D.tru ?_ | refine D.fls ?_ | refine LD.not ?_ | refine LD.len ?_ | refine LD.nchk ?_ | (refine LD.one rfl ?_; repeat' (first | refine Z H ?_ | (refine Zc ?_ ?_ <;> intro hc <;> first | (exfalso; omega) | skip) | (refine Y ?_; try change C _ _ _ _ _ _) | (refine Zs H ?_; clear H; (try clear w); intro w H) | (refine Zn H ?_; clear H; (try clear w); intro _ w H) | (refine Ze H ?_; clear H; (try clear w); intro gv w H)); all_goals (first | refine L.nil ⟨rfl, ?_⟩ | refine ⟨rfl, ?_⟩)))
                have H' := H.arr (rs' := var bC 28 [.int .i64 0] :: var bX 71 [.pointer (some ⟨bL, 0, none⟩)] :: logW bL bp (e + 1) (1 - h) (0 + l.length + 1) (applyL ps l) false :: dsk b dz :: R)
                refine D.ret (leaves1 (l := []) (m := [.pointer (some ⟨bC, 0, none⟩), .pointer (some ⟨bX, 0, none⟩)]) inferInstance rfl (Commit1_l H' (by exact applyL_len hok hl)) ?_)
                rintro _ w' ⟨rfl, H2⟩
                exact ⟨_, rfl, _, resC1 0 H2 rfl rfl rfl, rfl, by exact H2.tail.tail⟩
              · rw [if_neg h9] at H ⊢
                generalize run x (recSteps (e + 1) (0) l) dy = rr at *
                obtain ⟨dz, code⟩ := rr
                dsimp only at H h9 ⊢
                repeat' (first | refine D.seq ?_ | refine D.region ?_ | (refine LD.nil ?_; change D _ _ _ _ _ _ _) | (refine D.skip ?_; change D _ _ _ _ _ _ _) | refine D.tru ?_ | refine D.fls ?_ | refine LD.not ?_ | refine LD.len ?_ | refine LD.nchk ?_ | (refine LD.one rfl ?_; repeat' (first | refine Z H ?_ | (refine Zc ?_ ?_ <;> intro hc <;> first | (exfalso; omega) | skip) | (refine Y ?_; try change C _ _ _ _ _ _) | (refine Zs H ?_; clear H; (try clear w); intro w H) | (refine Zn H ?_; clear H; (try clear w); intro _ w H) | (refine Ze H ?_; clear H; (try clear w); intro gv w H)); all_goals (first | refine L.nil ⟨rfl, ?_⟩ | refine ⟨rfl, ?_⟩)))
                have H' := H.arr (rs' := var bC 28 [.int .i64 code] :: var bX 71 [.pointer (some ⟨bL, 0, none⟩)] :: logW bL bp (e + 1) (1 - h) (0) ps false :: dsk b dz :: R)
                refine D.ret (leaves1 (l := []) (m := [.pointer (some ⟨bC, 0, none⟩), .pointer (some ⟨bX, 0, none⟩)]) inferInstance rfl (Commit1_l H' (by exact hl)) ?_)
                rintro _ w' ⟨rfl, H2⟩
                exact ⟨_, rfl, _, resC1 0 H2 rfl rfl rfl, rfl, by rw [decide_eq_true h9] at H2; exact H2.tail.tail⟩
            · rw [if_neg h8] at H ⊢
              generalize run x (homeSteps (e + 1) (1 - h) ps) d = rr at *
              obtain ⟨dz, code⟩ := rr
              dsimp only at H h8 ⊢
              repeat' (first | refine D.seq ?_ | refine D.region ?_ | (refine LD.nil ?_; change D _ _ _ _ _ _ _) | (refine D.skip ?_; change D _ _ _ _ _ _ _) | refine D.tru ?_ | refine D.fls ?_ | refine LD.not ?_ | refine LD.len ?_ | refine LD.nchk ?_ | (refine LD.one rfl ?_; repeat' (first | refine Z H ?_ | (refine Zc ?_ ?_ <;> intro hc <;> first | (exfalso; omega) | skip) | (refine Y ?_; try change C _ _ _ _ _ _) | (refine Zs H ?_; clear H; (try clear w); intro w H) | (refine Zn H ?_; clear H; (try clear w); intro _ w H) | (refine Ze H ?_; clear H; (try clear w); intro gv w H)); all_goals (first | refine L.nil ⟨rfl, ?_⟩ | refine ⟨rfl, ?_⟩)))
              have H' := H.arr (rs' := var bC 28 [.int .i64 code] :: var bX 71 [.pointer (some ⟨bL, 0, none⟩)] :: logW bL bp e h u ps false :: dsk b dz :: R)
              refine D.ret (leaves1 (l := []) (m := [.pointer (some ⟨bC, 0, none⟩), .pointer (some ⟨bX, 0, none⟩)]) inferInstance rfl (Commit1_l H' (by exact hl)) ?_)
              rintro _ w' ⟨rfl, H2⟩
              exact ⟨_, rfl, _, resC1 0 H2 rfl rfl rfl, rfl, by rw [decide_eq_true h8] at H2; exact H2.tail.tail⟩
        · rw [if_neg hfull]
          repeat' (first | refine D.seq ?_ | refine D.region ?_ | (refine LD.nil ?_; change D _ _ _ _ _ _ _) | (refine D.skip ?_; change D _ _ _ _ _ _ _) | refine D.tru ?_ | refine D.fls ?_ | refine LD.not ?_ | refine LD.len ?_ | refine LD.nchk ?_ | (refine LD.one rfl ?_; repeat' (first |  (refine B.fn ?_) | refine Z H ?_ | (refine Zc ?_ ?_ <;> intro hc <;> first | (exfalso; omega) | skip) | (refine Y ?_; try change C _ _ _ _ _ _) | (refine Zs H ?_; clear H; (try clear w); intro w H) | (refine Zn H ?_; clear H; (try clear w); intro _ w H) | (refine Ze H ?_; clear H; (try clear w); intro gv w H)); all_goals (first | refine L.nil ⟨rfl, ?_⟩ | refine ⟨rfl, ?_⟩)))
          refine LD.defer ?_
          repeat' (first | refine D.seq ?_ | refine D.region ?_ | (refine LD.nil ?_; change D _ _ _ _ _ _ _) | (refine D.skip ?_; change D _ _ _ _ _ _ _) | refine D.tru ?_ | refine D.fls ?_ | refine LD.not ?_ | refine LD.len ?_ | refine LD.nchk ?_ | (refine LD.one rfl ?_; repeat' (first | refine Z H ?_ | (refine Zc ?_ ?_ <;> intro hc <;> first | (exfalso; omega) | skip) | (refine Y ?_; try change C _ _ _ _ _ _) | (refine Zs H ?_; clear H; (try clear w); intro w H) | (refine Zn H ?_; clear H; (try clear w); intro _ w H) | (refine Ze H ?_; clear H; (try clear w); intro gv w H)); all_goals (first | refine L.nil ⟨rfl, ?_⟩ | refine ⟨rfl, ?_⟩)))
          refine LD.call (record_l (e := e) (h := h) (u := u) hN (H.arr (rs' := logW bL bp e h u ps false :: dsk b d :: var bC 28 [.int .i64 0] :: var bX 71 [.pointer (some ⟨bL, 0, none⟩)] :: R)) hp (by omega) hl hcS hch hok (by omega) (by omega)) ?_
          clear H
          rintro _ w ⟨rfl, H⟩
          refine ⟨_, rfl, ?_⟩
          unfold recM
          dsimp only
          by_cases h9 : (run x (recSteps (e) (u) l) d).2 = 0
          · rw [if_pos h9] at H ⊢
            rw [h9]
            generalize (run x (recSteps (e) (u) l) d).1 = dz at *
            repeat' (first | refine D.seq ?_ | refine D.region ?_ | (refine LD.nil ?_; change D _ _ _ _ _ _ _) | (refine D.skip ?_; change D _ _ _ _ _ _ _) | refine D.tru ?_ | refine D.fls ?_ | refine LD.not ?_ | refine LD.len ?_ | refine LD.nchk ?_ | (refine LD.one rfl ?_; repeat' (first | refine Z H ?_ | (refine Zc ?_ ?_ <;> intro hc <;> first | (exfalso; omega) | skip) | (refine Y ?_; try change C _ _ _ _ _ _) | (refine Zs H ?_; clear H; (try clear w); intro w H) | (refine Zn H ?_; clear H; (try clear w); intro _ w H) | (refine Ze H ?_; clear H; (try clear w); intro gv w H)); all_goals (first | refine L.nil ⟨rfl, ?_⟩ | refine ⟨rfl, ?_⟩)))
            have H' := H.arr (rs' := var bC 28 [.int .i64 0] :: var bX 71 [.pointer (some ⟨bL, 0, none⟩)] :: logW bL bp (e) (h) (u + l.length + 1) (applyL ps l) false :: dsk b dz :: R)
            refine D.ret (leaves1 (l := []) (m := [.pointer (some ⟨bC, 0, none⟩), .pointer (some ⟨bX, 0, none⟩)]) inferInstance rfl (Commit1_l H' (by exact applyL_len hok hl)) ?_)
            rintro _ w' ⟨rfl, H2⟩
            exact ⟨_, rfl, _, resC1 0 H2 rfl rfl rfl, rfl, by exact H2.tail.tail⟩
          · rw [if_neg h9] at H ⊢
            generalize run x (recSteps (e) (u) l) d = rr at *
            obtain ⟨dz, code⟩ := rr
            dsimp only at H h9 ⊢
            repeat' (first | refine D.seq ?_ | refine D.region ?_ | (refine LD.nil ?_; change D _ _ _ _ _ _ _) | (refine D.skip ?_; change D _ _ _ _ _ _ _) | refine D.tru ?_ | refine D.fls ?_ | refine LD.not ?_ | refine LD.len ?_ | refine LD.nchk ?_ | (refine LD.one rfl ?_; repeat' (first | refine Z H ?_ | (refine Zc ?_ ?_ <;> intro hc <;> first | (exfalso; omega) | skip) | (refine Y ?_; try change C _ _ _ _ _ _) | (refine Zs H ?_; clear H; (try clear w); intro w H) | (refine Zn H ?_; clear H; (try clear w); intro _ w H) | (refine Ze H ?_; clear H; (try clear w); intro gv w H)); all_goals (first | refine L.nil ⟨rfl, ?_⟩ | refine ⟨rfl, ?_⟩)))
            have H' := H.arr (rs' := var bC 28 [.int .i64 code] :: var bX 71 [.pointer (some ⟨bL, 0, none⟩)] :: logW bL bp (e) (h) (u) ps false :: dsk b dz :: R)
            refine D.ret (leaves1 (l := []) (m := [.pointer (some ⟨bC, 0, none⟩), .pointer (some ⟨bX, 0, none⟩)]) inferInstance rfl (Commit1_l H' (by exact hl)) ?_)
            rintro _ w' ⟨rfl, H2⟩
            exact ⟨_, rfl, _, resC1 0 H2 rfl rfl rfl, rfl, by rw [decide_eq_true h9] at H2; exact H2.tail.tail⟩
end
end Go.Proofs.YtbknpbihgfphaaaDoor

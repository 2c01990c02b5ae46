/- wal: a page, validity, the checkpoint, the records written. -/
import Derived.Test.YtbknpbihgfphaaaDoorOpWf
set_option linter.unusedSimpArgs false
set_option linter.unusedVariables false
namespace Go.Proofs.YtbknpbihgfphaaaDoor
open Go Go.RowKit Go.Own
def validM (l : List Ch) : Bool := decide (l.length ≤ 16) && l.all (fun c => decide (0 ≤ c.page ∧ c.page < 16 ∧ c.data.length = 40))
theorem validM_ok {l : List Ch} (h : validM l = true) : l.length ≤ 16 ∧ ∀ c ∈ l, c.Ok := by
  unfold validM at h
  rw [Bool.and_eq_true, decide_eq_true_eq, List.all_eq_true] at h
  exact ⟨h.1, fun c hc => (of_decide_eq_true (h.2 c hc) : 0 ≤ c.page ∧ c.page < 16 ∧ c.data.length = 40)⟩
def recB (e k : Nat) (c : Ch) : List UInt8 := secW 82 e ([UInt8.ofNat k, UInt8.ofNat c.page.toNat] ++ c.data)
def markB (e k : Nat) : List UInt8 := secW 67 e [UInt8.ofNat k]
/-- the steps that write records from the k-th on, and a mark -/
def recSteps (e : Nat) : Nat → List Ch → List St
  | k, [] => [.f, .w (34 + k) (markB e k), .f]
  | k, c :: r => .w (34 + k) (recB e k c) :: recSteps e (k + 1) r
section
variable {s : Ro} {w : World} {R : List Asn} {b bp : Nat} {d : DM} {x : Ext}
set_option maxRecDepth 100000 in
set_option maxHeartbeats 1000000 in
theorem Page_l {bL e h u : Nat} {ps : List UInt8} {dd : Bool} {n : Nat} (H : Holds s w (logW bL bp e h u ps dd :: R)) (hl : ps.length = 640) (hn : n < 16) : Calls Tryd.prog 70 #[.pointer (some ⟨bL, 0, none⟩), .int .i64 (n : Int)] w fun y w' => ∃ g, y = .returned (.tuple #[.slice (some ⟨g, 0, none⟩) (getP ps n).length 40, .int .i64 0]) ∧ Holds s w' (row 5 1 (.slice (some ⟨g, 0, none⟩) (getP ps n).length 40) (getP ps n).length (u8s (getP ps n)) :: logW bL bp e h u ps dd :: R) := by
  have hg := getP_len hl hn
  unfold logW at *
  refine enter Tryd.func70 rfl Tryd.ntmps70 rfl ?_
  repeat' (first | refine Z H ?_ | (refine Zc ?_ ?_ <;> intro hc <;> first | (exfalso; omega) | skip) | (refine Y ?_; try change C _ _ _ _ _ _) | (refine Zs H ?_; clear H; (try clear w); intro w H) | (refine Zn H ?_; clear H; (try clear w); intro _ w H) | (refine Ze H ?_; clear H; (try clear w); intro gv w H))
  refine K.make (k := 40) (m := 40) H rfl rfl rfl rfl rfl (by decide) (by decide) (by decide) ?_
  clear H
  intro g1 w H
  rw [rep_flat] at H
  repeat' (first | (refine K.iaA (i := n) rfl rfl rfl rfl rfl (by omega) ?_) | refine Z H ?_ | (refine Zc ?_ ?_ <;> intro hc <;> first | (exfalso; omega) | skip) | (refine Y ?_; try change C _ _ _ _ _ _) | (refine Zs H ?_; clear H; (try clear w); intro w H) | (refine Zn H ?_; clear H; (try clear w); intro _ w H) | (refine Ze H ?_; clear H; (try clear w); intro gv w H))
  have hsrc := src_page (s := s) (bP := bL) (off := 4) (k := n) (pre := [.pointer (some ⟨bp, 0, none⟩), .int .u32 (e : Int), .int .i64 (h : Int), .int .i64 (u : Int)]) (post := [.bool dd]) (rs := row 5 1 (.slice (some ⟨g1, 0, none⟩) 40 40) 40 (List.replicate 40 (.int .u8 0)) :: logW bL bp e h u ps dd :: R) 1 rfl rfl hl hn
  refine K.copyR (g := g1) (m := 40) (off := 0) (dl := 40) 0 H rfl hsrc (u8s_one _) (q := 40) rfl (by decide) rfl rfl rfl ?_
  clear H
  intro w H
  have hfill : (List.replicate 40 (Value.int .u8 0)).take 0 ++ ((u8s (getP ps n)).take 40 ++ (List.replicate 40 (Value.int .u8 0)).drop (0 + 40)) = u8s (getP ps n) := by
    rw [List.take_zero, List.nil_append, List.take_of_length_le (by rw [u8s_len, hg]; decide), List.drop_eq_nil_of_le (by simp), List.append_nil]
  rw [List.set_cons_zero, hfill] at H
  repeat' (first | refine Z H ?_ | (refine Zc ?_ ?_ <;> intro hc <;> first | (exfalso; omega) | skip) | (refine Y ?_; try change C _ _ _ _ _ _) | (refine Zs H ?_; clear H; (try clear w); intro w H) | (refine Zn H ?_; clear H; (try clear w); intro _ w H) | (refine Ze H ?_; clear H; (try clear w); intro gv w H))
  exact ⟨_, resTT rfl, g1, by rw [hg]; rfl, by rw [hg]; exact H⟩
set_option maxRecDepth 100000 in
set_option maxHeartbeats 1000000 in
theorem valid_l {v : Value} {cs : List Value} {l : List Ch} (H : Holds s w R) (hcS : SlS s v 2 l.length cs) (hch : ChS s cs l) (hn : l.length ≤ 1000) : Calls Tryd.prog 77 #[v] w fun y w' => y = .returned (.bool (validM l)) ∧ Holds s w' R := by
  have hc' := hcS
  obtain ⟨va, vc, rfl, _⟩ := hc'
  refine enter Tryd.func77 rfl Tryd.ntmps77 rfl ?_
  by_cases h16 : l.length ≤ 16
  · have hvm : validM l = l.all (fun c => decide (0 ≤ c.page ∧ c.page < 16 ∧ c.data.length = 40)) := by unfold validM; rw [decide_eq_true h16, Bool.true_and]
    rw [hvm]
    repeat' (first | refine Z H ?_ | (refine Zc ?_ ?_ <;> intro hc <;> first | (exfalso; omega) | skip) | (refine Y ?_; try change C _ _ _ _ _ _) | (refine Zs H ?_; clear H; (try clear w); intro w H) | (refine Zn H ?_; clear H; (try clear w); intro _ w H) | (refine Ze H ?_; clear H; (try clear w); intro gv w H))
    refine C.loopH H [2, 4, 10, 11, 12, 13, 14, 15, 16, 17, 18, 19, 20, 21, 22, 23, 24, 25, 26, 27, 28] [10] rfl (fun k vs => ∃ i : Nat, k = l.length - i ∧ i ≤ l.length ∧ vs = [.int .i64 (i : Int)] ∧ (l.take i).all (fun c => decide (0 ≤ c.page ∧ c.page < 16 ∧ c.data.length = 40)) = true) l.length ⟨0, rfl, Nat.zero_le _, rfl, rfl⟩ ?_
    clear H
    rintro k vs hv' w ⟨i, rfl, hi, rfl, hall⟩ H
    by_cases hlt : i < l.length
    · obtain ⟨g, o, c', hsv, _, _, hpin⟩ := posS hcS (by omega) (by decide)
      cases hsv
      obtain ⟨h0, dv, h1, hdS⟩ := hch.at' i hlt
      have hsu : (l.take (i + 1)).all (fun c => decide (0 ≤ c.page ∧ c.page < 16 ∧ c.data.length = 40)) = decide (0 ≤ l[i].page ∧ l[i].page < 16 ∧ l[i].data.length = 40) := by rw [List.take_succ_eq_append_getElem hlt, List.all_append, hall]; simp
      have hmem : l[i] ∈ l := List.getElem_mem hlt
      generalize l[i] = ch at *
      obtain ⟨pg, dat⟩ := ch
      dsimp only at h0 hdS hsu
      have hdS' := hdS
      obtain ⟨da, dc, rfl, _⟩ := hdS'
      have pn : ∀ j y, [Value.int .i64 pg, .slice da dat.length dc][j]? = some y → Pin s g (o + i * 2 + j) y := by
        intro j y hj
        match j, hj with
        | 0, hj => cases hj; exact hpin _ _ h0
        | 1, hj => cases hj; exact hpin _ _ h1
        | (_ + 2), hj => simp at hj
      by_cases hok : 0 ≤ pg ∧ pg < 16 ∧ dat.length = 40
      · rw [decide_eq_true hok] at hsu
        obtain ⟨ok1, ok2, ok3⟩ := hok
        repeat' (first | refine Z H ?_ | (refine Zc ?_ ?_ <;> intro hc <;> first | (exfalso; omega) | skip) | (refine Y ?_; try change C _ _ _ _ _ _) | (refine Zs H ?_; clear H; (try clear w); intro w H) | (refine Zn H ?_; clear H; (try clear w); intro _ w H) | (refine Ze H ?_; clear H; (try clear w); intro gv w H))
        exact ⟨by (repeat (first | exact Agr.refl | exact Agr.hav | refine Agr.upd rfl ?_ | refine Agr.in rfl ?_)), l.length - (i + 1), by omega, ⟨i + 1, rfl, by omega, rfl, hsu⟩, H.tail⟩
      · have hf : l.all (fun c => decide (0 ≤ c.page ∧ c.page < 16 ∧ c.data.length = 40)) = false := by
          rw [List.all_eq_false]
          exact ⟨_, hmem, by simpa using hok⟩
        rw [hf]
        repeat' (first | refine Z H ?_ | (refine Zc ?_ ?_ <;> intro hc <;> first | (exfalso; omega) | skip) | (refine Y ?_; try change C _ _ _ _ _ _) | (refine Zs H ?_; clear H; (try clear w); intro w H) | (refine Zn H ?_; clear H; (try clear w); intro _ w H) | (refine Ze H ?_; clear H; (try clear w); intro gv w H))
        all_goals exact ⟨_, resT rfl, rfl, H.tail⟩
    · have hie : i = l.length := by omega
      subst hie
      rw [List.take_length] at hall
      rw [hall]
      repeat' (first | refine Z H ?_ | (refine Zc ?_ ?_ <;> intro hc <;> first | (exfalso; omega) | skip) | (refine Y ?_; try change C _ _ _ _ _ _) | (refine Zs H ?_; clear H; (try clear w); intro w H) | (refine Zn H ?_; clear H; (try clear w); intro _ w H) | (refine Ze H ?_; clear H; (try clear w); intro gv w H))
      exact ⟨_, resT rfl, rfl, H⟩
  · have hvm : validM l = false := by unfold validM; rw [decide_eq_false h16, Bool.false_and]
    rw [hvm]
    repeat' (first | refine Z H ?_ | (refine Zc ?_ ?_ <;> intro hc <;> first | (exfalso; omega) | skip) | (refine Y ?_; try change C _ _ _ _ _ _) | (refine Zs H ?_; clear H; (try clear w); intro w H) | (refine Zn H ?_; clear H; (try clear w); intro _ w H) | (refine Ze H ?_; clear H; (try clear w); intro gv w H))
    exact ⟨_, resT rfl, rfl, H⟩
set_option maxRecDepth 100000 in
set_option maxHeartbeats 1000000 in
theorem checkpoint_l {bL e h u : Nat} {ps : List UInt8} {dd : Bool} (hN : Nib s) (H : Holds s w (logW bL bp e h u ps dd :: dsk b d :: R)) (hp : PartS s bp b x) (he : e + 1 < 2 ^ 32) (hh : h ≤ 1) (hl : ps.length = 640) (hpl : d.pend.length ≤ 100000) : Calls Tryd.prog 79 #[.pointer (some ⟨bL, 0, none⟩)] w fun y w' => y = .returned (.int .i64 (run x (homeSteps (e + 1) (1 - h) ps) d).2) ∧ (if (run x (homeSteps (e + 1) (1 - h) ps) d).2 = 0 then Holds s w' (logW bL bp (e + 1) (1 - h) 0 ps dd :: dsk b (run x (homeSteps (e + 1) (1 - h) ps) d).1 :: R) else Holds s w' (logW bL bp e h u ps dd :: dsk b (run x (homeSteps (e + 1) (1 - h) ps) d).1 :: R)) := by
  unfold logW at *
  have h1 : ((1 - h : Nat) : Int) = 1 - (h : Int) := by omega
  refine enter Tryd.func79 rfl Tryd.ntmps79 rfl ?_
  repeat' (first | refine Z H ?_ | (refine Zc ?_ ?_ <;> intro hc <;> first | (exfalso; omega) | skip) | (refine Y ?_; try change C _ _ _ _ _ _) | (refine Zs H ?_; clear H; (try clear w); intro w H) | (refine Zn H ?_; clear H; (try clear w); intro _ w H) | (refine Ze H ?_; clear H; (try clear w); intro gv w H))
  refine C.drawn1 [0, 0, 0, 1, 0, 0, 0, 0, 1, 0, 0, 0] [0, 1, 3, 7, 15, 0, 32, 96, 224, 480, 31, 2047] (by kernel_rfl) ?_; replace H := H.drew
  repeat' (first | (refine B.add (a := e) (b := 1) ?_) | refine Z H ?_ | (refine Zc ?_ ?_ <;> intro hc <;> first | (exfalso; omega) | skip) | (refine Y ?_; try change C _ _ _ _ _ _) | (refine Zs H ?_; clear H; (try clear w); intro w H) | (refine Zn H ?_; clear H; (try clear w); intro _ w H) | (refine Ze H ?_; clear H; (try clear w); intro gv w H))
  rw [← h1]
  refine C.drawn5 [0, 1, 2, 3, 4, 5, 6, 7, 8, 9, 10] [0, 0, 0, 4, 0, 0, 0, 0, 0, 3, 0] [10] [0, 1, 3, 7, 0, 0, 0, 64, 192, 511, 1023] (by kernel_rfl) ?_; replace H := H.drew; simp only [Reg.pick, List.filterMap_cons, List.filterMap_nil, List.getElem?_toArray, List.getElem?_cons_zero, List.getElem?_cons_succ, segN, List.take_succ_cons, List.take_zero, List.drop_succ_cons, List.drop_zero]
  repeat' (first | refine Z H ?_ | (refine Zc ?_ ?_ <;> intro hc <;> first | (exfalso; omega) | skip) | (refine Y ?_; try change C _ _ _ _ _ _) | (refine Zs H ?_; clear H; (try clear w); intro w H) | (refine Zn H ?_; clear H; (try clear w); intro _ w H) | (refine Ze H ?_; clear H; (try clear w); intro gv w H))
  have hsrc : ∀ k, k < 16 → Src s (logW bL bp e h u ps dd :: R) (.slice (some ⟨bL, 4 + k * 40, none⟩) 40 40) 1 40 (u8s (getP ps k)) := fun k hk => src_page (pre := [.pointer (some ⟨bp, 0, none⟩), .int .u32 (e : Int), .int .i64 (h : Int), .int .i64 (u : Int)]) (post := [.bool dd]) 0 rfl rfl hl hk
  first | (have hT : Holds _ _ (dsk b _ :: _) := H; clear hT) | (replace H := H.up 1 rfl; (try simp only [List.set_cons_zero, List.set_cons_succ, List.eraseIdx_cons_zero, List.eraseIdx_cons_succ] at H); have hT : Holds _ _ (dsk b _ :: _) := H; clear hT) | (replace H := H.up 2 rfl; (try simp only [List.set_cons_zero, List.set_cons_succ, List.eraseIdx_cons_zero, List.eraseIdx_cons_succ] at H); have hT : Holds _ _ (dsk b _ :: _) := H; clear hT) | (replace H := H.up 3 rfl; (try simp only [List.set_cons_zero, List.set_cons_succ, List.eraseIdx_cons_zero, List.eraseIdx_cons_succ] at H); have hT : Holds _ _ (dsk b _ :: _) := H; clear hT) | (replace H := H.up 4 rfl; (try simp only [List.set_cons_zero, List.set_cons_succ, List.eraseIdx_cons_zero, List.eraseIdx_cons_succ] at H); have hT : Holds _ _ (dsk b _ :: _) := H; clear hT) | (replace H := H.up 5 rfl; (try simp only [List.set_cons_zero, List.set_cons_succ, List.eraseIdx_cons_zero, List.eraseIdx_cons_succ] at H); have hT : Holds _ _ (dsk b _ :: _) := H; clear hT) | (replace H := H.up 6 rfl; (try simp only [List.set_cons_zero, List.set_cons_succ, List.eraseIdx_cons_zero, List.eraseIdx_cons_succ] at H); have hT : Holds _ _ (dsk b _ :: _) := H; clear hT)
  (refine X.call (writeHome_w (e := e + 1) (h := 1 - h) (off := 4) (ps := ps) hN H hp he (by omega) hl hsrc hpl) ?_; (try clear H); rintro _ w ⟨rfl, H⟩; refine ⟨_, rfl, ?_⟩); refine L.nil ?_; refine ⟨rfl, rfl, (by first | exact fun h => Bool.noConfusion (show false = true from h) | exact fun _ => ext_same | exact fun _ => ext_only (by assumption)), ?_⟩
  have H' := H.arr (rs' := logW bL bp e h u ps dd :: dsk b (run x (homeSteps (e + 1) (1 - h) ps) d).1 :: R)
  clear H
  have H := H'
  clear H'
  unfold logW at H
  generalize run x (homeSteps (e + 1) (1 - h) ps) d = rr at *
  obtain ⟨dj, code⟩ := rr
  dsimp only at H ⊢
  by_cases h0 : code = 0
  · subst h0
    repeat' (first | refine Z H ?_ | (refine Zc ?_ ?_ <;> intro hc <;> first | (exfalso; omega) | skip) | (refine Y ?_; try change C _ _ _ _ _ _) | (refine Zs H ?_; clear H; (try clear w); intro w H) | (refine Zn H ?_; clear H; (try clear w); intro _ w H) | (refine Ze H ?_; clear H; (try clear w); intro gv w H))
    exact ⟨_, resT rfl, rfl, by rw [if_pos rfl]; exact H⟩
  · repeat' (first | refine Z H ?_ | (refine Zc ?_ ?_ <;> intro hc <;> first | (exfalso; omega) | skip) | (refine Y ?_; try change C _ _ _ _ _ _) | (refine Zs H ?_; clear H; (try clear w); intro w H) | (refine Zn H ?_; clear H; (try clear w); intro _ w H) | (refine Ze H ?_; clear H; (try clear w); intro gv w H))
    exact ⟨_, resT rfl, rfl, by rw [if_neg h0]; exact H⟩
set_option maxRecDepth 100000 in
set_option maxHeartbeats 1000000 in
theorem recordSector_e {e at' p : Nat} {m : List UInt8} {u : Value} (hN : Nib s) (H : Holds s w R) (he : e < 2 ^ 32) (ha : at' < 256) (hp : p < 256) (hu : Src s R u 1 m.length (u8s m)) (hm : m.length = 40) : Calls Tryd.prog 110 #[.int .u32 (e : Int), .int .i64 (at' : Int), .agg #[.int .i64 (p : Int), u]] w fun x w' => ∃ aa cc, x = .returned (.slice aa (secW 82 e ([UInt8.ofNat at', UInt8.ofNat p] ++ m)).length cc) ∧ Only [] w w' ∧ Holds s w' (row 5 1 (.slice aa (secW 82 e ([UInt8.ofNat at', UInt8.ofNat p] ++ m)).length cc) (secW 82 e ([UInt8.ofNat at', UInt8.ofNat p] ++ m)).length (u8s (secW 82 e ([UInt8.ofNat at', UInt8.ofNat p] ++ m))) :: R) :=
  (recordSector_w (hN.mono H.le_full) H.full he ha hp (.ro (hu.full H)) hm).mono fun x w' ⟨aa, cc, he, H'⟩ => ⟨aa, cc, he, H.pure1 H'⟩
set_option maxRecDepth 100000 in
set_option maxHeartbeats 1000000 in
theorem markSector_e {e h : Nat} (hN : Nib s) (H : Holds s w R) (he : e < 2 ^ 32) (hh : h < 256) : Calls Tryd.prog 111 #[.int .u32 (e : Int), .int .i64 (h : Int)] w fun x w' => ∃ aa cc, x = .returned (.slice aa (secW 67 e [UInt8.ofNat h]).length cc) ∧ Only [] w w' ∧ Holds s w' (row 5 1 (.slice aa (secW 67 e [UInt8.ofNat h]).length cc) (secW 67 e [UInt8.ofNat h]).length (u8s (secW 67 e [UInt8.ofNat h])) :: R) :=
  (markSector_w (hN.mono H.le_full) H.full he hh).mono fun x w' ⟨aa, cc, he, H'⟩ => ⟨aa, cc, he, H.pure1 H'⟩
theorem run_f (x : Ext) (d : DM) : run x [.f] d = d.flush := by
  rw [run]
  split
  · rename_i hz; rw [run, ← hz]
  · rfl
set_option maxRecDepth 100000 in
set_option maxHeartbeats 1000000 in
theorem record_l {bL e h u : Nat} {ps : List UInt8} {dd : Bool} {v : Value} {cs : List Value} {l : List Ch} (hN : Nib s) (H : Holds s w (logW bL bp e h u ps dd :: dsk b d :: R)) (hp : PartS s bp b x) (he : e < 2 ^ 32) (hl : ps.length = 640) (hcS : SlS s v 2 l.length cs) (hch : ChS s cs l) (hok : ∀ c ∈ l, c.Ok) (hu : u + l.length + 1 ≤ 18) (hpl : d.pend.length ≤ 100000) : Calls Tryd.prog 80 #[.pointer (some ⟨bL, 0, none⟩), v] w fun y w' => y = .returned (.int .i64 (run x (recSteps e u l) d).2) ∧ (if (run x (recSteps e u l) d).2 = 0 then Holds s w' (logW bL bp e h (u + l.length + 1) (applyL ps l) dd :: dsk b (run x (recSteps e u l) d).1 :: R) else Holds s w' (logW bL bp e h u ps dd :: dsk b (run x (recSteps e u l) d).1 :: R)) := by
  have hc' := hcS
  obtain ⟨va, vc, rfl, _⟩ := hc'
  unfold logW at H
  refine enter Tryd.func80 rfl Tryd.ntmps80 rfl ?_
  repeat' (first | refine Z H ?_ | (refine Zc ?_ ?_ <;> intro hc <;> first | (exfalso; omega) | skip) | (refine Y ?_; try change C _ _ _ _ _ _) | (refine Zs H ?_; clear H; (try clear w); intro w H) | (refine Zn H ?_; clear H; (try clear w); intro _ w H) | (refine Ze H ?_; clear H; (try clear w); intro gv w H))
  refine C.loopS [4, 5, 7, 8, 18, 19, 20, 21, 22, 23, 24, 25, 26, 27, 28, 29, 30, 31, 32, 33, 34, 35, 36, 37, 38, 39, 40, 41] [5, 18] rfl (fun k vs w => ∃ i : Nat, ∃ di : DM, k = l.length - i ∧ i ≤ l.length ∧ vs = [.int .i64 ((u + i : Nat) : Int), .int .i64 (i : Int)] ∧ di.pend.length ≤ 100000 + i ∧ run x (recSteps e u l) d = run x (recSteps e (u + i) (l.drop i)) di ∧ Holds s w (logW bL bp e h u ps dd :: dsk b di :: R)) l.length ⟨0, d, rfl, Nat.zero_le _, rfl, hpl, rfl, H⟩ ?_
  clear H
  rintro k vs hv' w ⟨i, di, rfl, hi, rfl, hdi, hrun, H⟩
  unfold logW at H
  generalize run x (recSteps e u l) d = res at *
  by_cases hlt : i < l.length
  · obtain ⟨g, o, c', hsv, _, _, hpin⟩ := posS hcS (by omega) (by decide)
    cases hsv
    obtain ⟨h0, dv, h1, hdS⟩ := hch.at' i hlt
    have hcok := hok l[i] (List.getElem_mem hlt)
    rw [List.drop_eq_getElem_cons hlt] at hrun
    generalize l[i] = ch at *
    obtain ⟨pg, dat⟩ := ch
    obtain ⟨ok1, ok2, ok3⟩ := hcok
    dsimp only at h0 hdS ok1 ok2 ok3
    obtain ⟨p, rfl⟩ := Int.eq_ofNat_of_zero_le ok1
    have hdS' := hdS
    obtain ⟨da, dc, rfl, _⟩ := hdS'
    have pn : ∀ j y, [Value.int .i64 (p : Int), .slice da dat.length dc][j]? = some y → Pin s g (o + i * 2 + j) y := by
      intro j y hj
      match j, hj with
      | 0, hj => cases hj; exact hpin _ _ h0
      | 1, hj => cases hj; exact hpin _ _ h1
      | (_ + 2), hj => simp at hj
    rw [recSteps] at hrun
    have hrb : recB e (u + i) ⟨(p : Int), dat⟩ = secW 82 e ([UInt8.ofNat (u + i), UInt8.ofNat p] ++ dat) := by unfold recB; rw [Int.toNat_natCast]
    rw [hrb] at hrun
    have hpl2 := pend_pwriteW di x ((34 + (u + i) : Nat) : Int) (secW 82 e ([UInt8.ofNat (u + i), UInt8.ofNat p] ++ dat))
    repeat' (first | refine Z H ?_ | (refine Zc ?_ ?_ <;> intro hc <;> first | (exfalso; omega) | skip) | (refine Y ?_; try change C _ _ _ _ _ _) | (refine Zs H ?_; clear H; (try clear w); intro w H) | (refine Zn H ?_; clear H; (try clear w); intro _ w H) | (refine Ze H ?_; clear H; (try clear w); intro gv w H))
    refine C.drawn5 [0, 1, 2, 3, 4, 5, 6, 7, 8, 9, 10, 11, 12, 13, 14] [0, 0, 0, 1, 0, 0, 0, 0, 0, 4, 0, 4, 2, 3, 0] [13, 1] [0, 1, 3, 7, 0, 16, 0, 64, 192, 448, 0, 0, 4032, 8191, 16383] (by kernel_rfl) ?_; replace H := H.drew; simp only [Reg.pick, List.filterMap_cons, List.filterMap_nil, List.getElem?_toArray, List.getElem?_cons_zero, List.getElem?_cons_succ, segN, List.take_succ_cons, List.take_zero, List.drop_succ_cons, List.drop_zero]
    repeat' (first | refine Z H ?_ | (refine Zc ?_ ?_ <;> intro hc <;> first | (exfalso; omega) | skip) | (refine Y ?_; try change C _ _ _ _ _ _) | (refine Zs H ?_; clear H; (try clear w); intro w H) | (refine Zn H ?_; clear H; (try clear w); intro _ w H) | (refine Ze H ?_; clear H; (try clear w); intro gv w H))
    rw [show (34 : Int) + ((u + i : Nat) : Int) = ((34 + (u + i) : Nat) : Int) by omega]
    (refine X.call (recordSector_e (e := e) (at' := u + i) (p := p) (m := dat) hN H he (by omega) (by omega) (.ro hdS) ok3) ?_; (try clear H); rintro _ w ⟨a1, c1, rfl, ho, H⟩; refine ⟨_, rfl, ?_⟩); refine L.nil ?_; refine ⟨rfl, rfl, (by first | exact fun h => Bool.noConfusion (show false = true from h) | exact fun _ => ext_same | exact fun _ => ext_only (by assumption)), ?_⟩
    clear ho
    generalize hsB : secW 82 e ([UInt8.ofNat (u + i), UInt8.ofNat p] ++ dat) = sB at *
    repeat' (first | refine Z H ?_ | (refine Zc ?_ ?_ <;> intro hc <;> first | (exfalso; omega) | skip) | (refine Y ?_; try change C _ _ _ _ _ _) | (refine Zs H ?_; clear H; (try clear w); intro w H) | (refine Zn H ?_; clear H; (try clear w); intro _ w H) | (refine Ze H ?_; clear H; (try clear w); intro gv w H))
    first | (have hT : Holds _ _ (dsk b _ :: _) := H; clear hT) | (replace H := H.up 1 rfl; (try simp only [List.set_cons_zero, List.set_cons_succ, List.eraseIdx_cons_zero, List.eraseIdx_cons_succ] at H); have hT : Holds _ _ (dsk b _ :: _) := H; clear hT) | (replace H := H.up 2 rfl; (try simp only [List.set_cons_zero, List.set_cons_succ, List.eraseIdx_cons_zero, List.eraseIdx_cons_succ] at H); have hT : Holds _ _ (dsk b _ :: _) := H; clear hT) | (replace H := H.up 3 rfl; (try simp only [List.set_cons_zero, List.set_cons_succ, List.eraseIdx_cons_zero, List.eraseIdx_cons_succ] at H); have hT : Holds _ _ (dsk b _ :: _) := H; clear hT) | (replace H := H.up 4 rfl; (try simp only [List.set_cons_zero, List.set_cons_succ, List.eraseIdx_cons_zero, List.eraseIdx_cons_succ] at H); have hT : Holds _ _ (dsk b _ :: _) := H; clear hT) | (replace H := H.up 5 rfl; (try simp only [List.set_cons_zero, List.set_cons_succ, List.eraseIdx_cons_zero, List.eraseIdx_cons_succ] at H); have hT : Holds _ _ (dsk b _ :: _) := H; clear hT) | (replace H := H.up 6 rfl; (try simp only [List.set_cons_zero, List.set_cons_succ, List.eraseIdx_cons_zero, List.eraseIdx_cons_succ] at H); have hT : Holds _ _ (dsk b _ :: _) := H; clear hT)
    have hW := Write_p (a := ((34 + (u + i) : Nat) : Int)) H hp (by unfold I64; omega) (.own 0 _ rfl) (by omega)
    (refine X.call (hW) ?_; (try clear H); rintro _ w ⟨rfl, H⟩; refine ⟨_, rfl, ?_⟩); refine L.nil ?_; refine ⟨rfl, rfl, (by first | exact fun h => Bool.noConfusion (show false = true from h) | exact fun _ => ext_same | exact fun _ => ext_only (by assumption)), ?_⟩
    clear hW
    have H' := H.arr (rs' := logW bL bp e h u ps dd :: dsk b (pwrite di x ((34 + (u + i) : Nat) : Int) sB).1 :: R)
    clear H
    have H := H'
    clear H'
    by_cases h0 : (pwrite di x ((34 + (u + i) : Nat) : Int) sB).2 = 0
    · rw [run_ok x h0] at hrun
      rw [h0]
      repeat' (first | refine Z H ?_ | (refine Zc ?_ ?_ <;> intro hc <;> first | (exfalso; omega) | skip) | (refine Y ?_; try change C _ _ _ _ _ _) | (refine Zs H ?_; clear H; (try clear w); intro w H) | (refine Zn H ?_; clear H; (try clear w); intro _ w H) | (refine Ze H ?_; clear H; (try clear w); intro gv w H))
      exact ⟨by (repeat (first | exact Agr.refl | exact Agr.hav | refine Agr.upd rfl ?_ | refine Agr.in rfl ?_)), l.length - (i + 1), by omega, i + 1, _, rfl, by omega, rfl, by omega, hrun, H⟩
    · rw [run_no x h0] at hrun
      rw [hrun]
      repeat' (first | refine Z H ?_ | (refine Zc ?_ ?_ <;> intro hc <;> first | (exfalso; omega) | skip) | (refine Y ?_; try change C _ _ _ _ _ _) | (refine Zs H ?_; clear H; (try clear w); intro w H) | (refine Zn H ?_; clear H; (try clear w); intro _ w H) | (refine Ze H ?_; clear H; (try clear w); intro gv w H))
      exact ⟨_, resT rfl, rfl, by rw [if_neg h0]; exact H⟩
  · have hie : i = l.length := by omega
    subst hie
    rw [List.drop_length, recSteps] at hrun
    have hf := pend_flushW di
    repeat' (first | refine Z H ?_ | (refine Zc ?_ ?_ <;> intro hc <;> first | (exfalso; omega) | skip) | (refine Y ?_; try change C _ _ _ _ _ _) | (refine Zs H ?_; clear H; (try clear w); intro w H) | (refine Zn H ?_; clear H; (try clear w); intro _ w H) | (refine Ze H ?_; clear H; (try clear w); intro gv w H))
    first | (have hT : Holds _ _ (dsk b _ :: _) := H; clear hT) | (replace H := H.up 1 rfl; (try simp only [List.set_cons_zero, List.set_cons_succ, List.eraseIdx_cons_zero, List.eraseIdx_cons_succ] at H); have hT : Holds _ _ (dsk b _ :: _) := H; clear hT) | (replace H := H.up 2 rfl; (try simp only [List.set_cons_zero, List.set_cons_succ, List.eraseIdx_cons_zero, List.eraseIdx_cons_succ] at H); have hT : Holds _ _ (dsk b _ :: _) := H; clear hT) | (replace H := H.up 3 rfl; (try simp only [List.set_cons_zero, List.set_cons_succ, List.eraseIdx_cons_zero, List.eraseIdx_cons_succ] at H); have hT : Holds _ _ (dsk b _ :: _) := H; clear hT) | (replace H := H.up 4 rfl; (try simp only [List.set_cons_zero, List.set_cons_succ, List.eraseIdx_cons_zero, List.eraseIdx_cons_succ] at H); have hT : Holds _ _ (dsk b _ :: _) := H; clear hT) | (replace H := H.up 5 rfl; (try simp only [List.set_cons_zero, List.set_cons_succ, List.eraseIdx_cons_zero, List.eraseIdx_cons_succ] at H); have hT : Holds _ _ (dsk b _ :: _) := H; clear hT) | (replace H := H.up 6 rfl; (try simp only [List.set_cons_zero, List.set_cons_succ, List.eraseIdx_cons_zero, List.eraseIdx_cons_succ] at H); have hT : Holds _ _ (dsk b _ :: _) := H; clear hT)
    (refine X.call (Flush_p H hp) ?_; (try clear H); rintro _ w ⟨rfl, H⟩; refine ⟨_, rfl, ?_⟩)
    by_cases h0 : di.flush.2 = 0
    · rw [run_fok x h0] at hrun
      rw [h0]
      generalize di.flush.1 = dj at *
      have hq := pend_pwriteW dj x ((34 + (u + l.length) : Nat) : Int) (markB e (u + l.length))
      repeat' (first | refine Z H ?_ | (refine Zc ?_ ?_ <;> intro hc <;> first | (exfalso; omega) | skip) | (refine Y ?_; try change C _ _ _ _ _ _) | (refine Zs H ?_; clear H; (try clear w); intro w H) | (refine Zn H ?_; clear H; (try clear w); intro _ w H) | (refine Ze H ?_; clear H; (try clear w); intro gv w H))
      refine C.drawn5 [0, 1, 2, 3, 4, 5, 6, 7, 8, 9, 10, 11, 12, 13] [0, 0, 0, 1, 0, 0, 0, 0, 0, 4, 0, 2, 3, 0] [12, 1] [0, 1, 3, 7, 0, 16, 0, 64, 192, 448, 0, 1984, 4095, 8191] (by kernel_rfl) ?_; replace H := H.drew; simp only [Reg.pick, List.filterMap_cons, List.filterMap_nil, List.getElem?_toArray, List.getElem?_cons_zero, List.getElem?_cons_succ, segN, List.take_succ_cons, List.take_zero, List.drop_succ_cons, List.drop_zero]
      repeat' (first | refine Z H ?_ | (refine Zc ?_ ?_ <;> intro hc <;> first | (exfalso; omega) | skip) | (refine Y ?_; try change C _ _ _ _ _ _) | (refine Zs H ?_; clear H; (try clear w); intro w H) | (refine Zn H ?_; clear H; (try clear w); intro _ w H) | (refine Ze H ?_; clear H; (try clear w); intro gv w H))
      rw [show (34 : Int) + ((u + l.length : Nat) : Int) = ((34 + (u + l.length) : Nat) : Int) by omega]
      (refine X.call (markSector_e (e := e) (h := u + l.length) hN H he (by omega)) ?_; (try clear H); rintro _ w ⟨a1, c1, rfl, ho, H⟩; refine ⟨_, rfl, ?_⟩); refine L.nil ?_; refine ⟨rfl, rfl, (by first | exact fun h => Bool.noConfusion (show false = true from h) | exact fun _ => ext_same | exact fun _ => ext_only (by assumption)), ?_⟩
      clear ho
      rw [show secW 67 e [UInt8.ofNat (u + l.length)] = markB e (u + l.length) from rfl] at *
      generalize markB e (u + l.length) = sB at *
      repeat' (first | refine Z H ?_ | (refine Zc ?_ ?_ <;> intro hc <;> first | (exfalso; omega) | skip) | (refine Y ?_; try change C _ _ _ _ _ _) | (refine Zs H ?_; clear H; (try clear w); intro w H) | (refine Zn H ?_; clear H; (try clear w); intro _ w H) | (refine Ze H ?_; clear H; (try clear w); intro gv w H))
      first | (have hT : Holds _ _ (dsk b _ :: _) := H; clear hT) | (replace H := H.up 1 rfl; (try simp only [List.set_cons_zero, List.set_cons_succ, List.eraseIdx_cons_zero, List.eraseIdx_cons_succ] at H); have hT : Holds _ _ (dsk b _ :: _) := H; clear hT) | (replace H := H.up 2 rfl; (try simp only [List.set_cons_zero, List.set_cons_succ, List.eraseIdx_cons_zero, List.eraseIdx_cons_succ] at H); have hT : Holds _ _ (dsk b _ :: _) := H; clear hT) | (replace H := H.up 3 rfl; (try simp only [List.set_cons_zero, List.set_cons_succ, List.eraseIdx_cons_zero, List.eraseIdx_cons_succ] at H); have hT : Holds _ _ (dsk b _ :: _) := H; clear hT) | (replace H := H.up 4 rfl; (try simp only [List.set_cons_zero, List.set_cons_succ, List.eraseIdx_cons_zero, List.eraseIdx_cons_succ] at H); have hT : Holds _ _ (dsk b _ :: _) := H; clear hT) | (replace H := H.up 5 rfl; (try simp only [List.set_cons_zero, List.set_cons_succ, List.eraseIdx_cons_zero, List.eraseIdx_cons_succ] at H); have hT : Holds _ _ (dsk b _ :: _) := H; clear hT) | (replace H := H.up 6 rfl; (try simp only [List.set_cons_zero, List.set_cons_succ, List.eraseIdx_cons_zero, List.eraseIdx_cons_succ] at H); have hT : Holds _ _ (dsk b _ :: _) := H; clear hT)
      have hW := Write_p (a := ((34 + (u + l.length) : Nat) : Int)) H hp (by unfold I64; omega) (.own 0 _ rfl) (by omega)
      (refine X.call (hW) ?_; (try clear H); rintro _ w ⟨rfl, H⟩; refine ⟨_, rfl, ?_⟩); refine L.nil ?_; refine ⟨rfl, rfl, (by first | exact fun h => Bool.noConfusion (show false = true from h) | exact fun _ => ext_same | exact fun _ => ext_only (by assumption)), ?_⟩
      clear hW
      have H' := H.arr (rs' := logW bL bp e h u ps dd :: dsk b (pwrite dj x ((34 + (u + l.length) : Nat) : Int) sB).1 :: R)
      clear H
      have H := H'
      clear H'
      unfold logW at H
      by_cases h1 : (pwrite dj x ((34 + (u + l.length) : Nat) : Int) sB).2 = 0
      · rw [run_ok x h1, run_f] at hrun
        rw [h1]
        generalize (pwrite dj x ((34 + (u + l.length) : Nat) : Int) sB).1 = dk at *
        repeat' (first | refine Z H ?_ | (refine Zc ?_ ?_ <;> intro hc <;> first | (exfalso; omega) | skip) | (refine Y ?_; try change C _ _ _ _ _ _) | (refine Zs H ?_; clear H; (try clear w); intro w H) | (refine Zn H ?_; clear H; (try clear w); intro _ w H) | (refine Ze H ?_; clear H; (try clear w); intro gv w H))
        first | (have hT : Holds _ _ (dsk b _ :: _) := H; clear hT) | (replace H := H.up 1 rfl; (try simp only [List.set_cons_zero, List.set_cons_succ, List.eraseIdx_cons_zero, List.eraseIdx_cons_succ] at H); have hT : Holds _ _ (dsk b _ :: _) := H; clear hT) | (replace H := H.up 2 rfl; (try simp only [List.set_cons_zero, List.set_cons_succ, List.eraseIdx_cons_zero, List.eraseIdx_cons_succ] at H); have hT : Holds _ _ (dsk b _ :: _) := H; clear hT) | (replace H := H.up 3 rfl; (try simp only [List.set_cons_zero, List.set_cons_succ, List.eraseIdx_cons_zero, List.eraseIdx_cons_succ] at H); have hT : Holds _ _ (dsk b _ :: _) := H; clear hT) | (replace H := H.up 4 rfl; (try simp only [List.set_cons_zero, List.set_cons_succ, List.eraseIdx_cons_zero, List.eraseIdx_cons_succ] at H); have hT : Holds _ _ (dsk b _ :: _) := H; clear hT) | (replace H := H.up 5 rfl; (try simp only [List.set_cons_zero, List.set_cons_succ, List.eraseIdx_cons_zero, List.eraseIdx_cons_succ] at H); have hT : Holds _ _ (dsk b _ :: _) := H; clear hT) | (replace H := H.up 6 rfl; (try simp only [List.set_cons_zero, List.set_cons_succ, List.eraseIdx_cons_zero, List.eraseIdx_cons_succ] at H); have hT : Holds _ _ (dsk b _ :: _) := H; clear hT)
        (refine X.call (Flush_p H hp) ?_; (try clear H); rintro _ w ⟨rfl, H⟩; refine ⟨_, rfl, ?_⟩)
        by_cases h2 : dk.flush.2 = 0
        · rw [h2]
          rw [hrun, h2]
          repeat' (first | refine Z H ?_ | (refine Zc ?_ ?_ <;> intro hc <;> first | (exfalso; omega) | skip) | (refine Y ?_; try change C _ _ _ _ _ _) | (refine Zs H ?_; clear H; (try clear w); intro w H) | (refine Zn H ?_; clear H; (try clear w); intro _ w H) | (refine Ze H ?_; clear H; (try clear w); intro gv w H))
          have H' := H.arr (rs' := logW bL bp e h u ps dd :: dsk b dk.flush.1 :: R)
          clear H
          have H := H'
          clear H'
          (refine X.call (apply_l H hcS hch hok hl (by omega)) ?_; (try clear H); rintro _ w ⟨rfl, H⟩; refine ⟨_, rfl, ?_⟩)
          unfold logW at H
          repeat' (first | refine Z H ?_ | (refine Zc ?_ ?_ <;> intro hc <;> first | (exfalso; omega) | skip) | (refine Y ?_; try change C _ _ _ _ _ _) | (refine Zs H ?_; clear H; (try clear w); intro w H) | (refine Zn H ?_; clear H; (try clear w); intro _ w H) | (refine Ze H ?_; clear H; (try clear w); intro gv w H))
          exact ⟨_, resT rfl, rfl, by rw [if_pos rfl]; exact H⟩
        · rw [hrun]
          repeat' (first | refine Z H ?_ | (refine Zc ?_ ?_ <;> intro hc <;> first | (exfalso; omega) | skip) | (refine Y ?_; try change C _ _ _ _ _ _) | (refine Zs H ?_; clear H; (try clear w); intro w H) | (refine Zn H ?_; clear H; (try clear w); intro _ w H) | (refine Ze H ?_; clear H; (try clear w); intro gv w H))
          exact ⟨_, resT rfl, rfl, by rw [if_neg h2]; exact H.arr⟩
      · rw [run_no x h1] at hrun
        rw [hrun]
        repeat' (first | refine Z H ?_ | (refine Zc ?_ ?_ <;> intro hc <;> first | (exfalso; omega) | skip) | (refine Y ?_; try change C _ _ _ _ _ _) | (refine Zs H ?_; clear H; (try clear w); intro w H) | (refine Zn H ?_; clear H; (try clear w); intro _ w H) | (refine Ze H ?_; clear H; (try clear w); intro gv w H))
        exact ⟨_, resT rfl, rfl, by rw [if_neg h1]; exact H⟩
    · rw [run_fno x h0] at hrun
      rw [hrun]
      repeat' (first | refine Z H ?_ | (refine Zc ?_ ?_ <;> intro hc <;> first | (exfalso; omega) | skip) | (refine Y ?_; try change C _ _ _ _ _ _) | (refine Zs H ?_; clear H; (try clear w); intro w H) | (refine Zn H ?_; clear H; (try clear w); intro _ w H) | (refine Ze H ?_; clear H; (try clear w); intro gv w H))
      exact ⟨_, resT rfl, rfl, by rw [if_neg h0]; exact H.arr⟩
end
end Go.Proofs.YtbknpbihgfphaaaDoor

/- Squeezed copy of the texts Wg Wh Aw Wm Wn. -/
import Derived.Test.YtgilmcpdpggikaaGreatDoorCWd
import Derived.Test.YtgilmcpdpggikaaGreatDoorCTq
import Derived.Test.YtgilmcpdpggikaaGreatDoorCWb
set_option maxRecDepth 100000
set_option maxHeartbeats 1000000
set_option linter.unusedSimpArgs false
set_option linter.unusedVariables false
namespace Go.Proofs.YtgilmcpdpggikaaGreatDoor
open Go Go.RowKit Go.Own
def validM (l : List Ch) : Bool := decide (l.length ≤ 16) && l.all (fun c => decide (0 ≤ c.page ∧ c.page < 16 ∧ c.data.length = 40))
theorem validM_ok {l : List Ch} (h : validM l = true) : l.length ≤ 16 ∧ ∀ c ∈ l, c.Ok := by
 unfold validM at h
 rw [Bool.and_eq_true, decide_eq_true_eq, List.all_eq_true] at h
 exact ⟨h.1, fun c hc => (of_decide_eq_true (h.2 c hc) : 0 ≤ c.page ∧ c.page < 16 ∧ c.data.length = 40)⟩
def recB (e k : Nat) (c : Ch) : List UInt8 := secW 82 e ([UInt8.ofNat k, UInt8.ofNat c.page.toNat] ++ c.data)
def markB (e k : Nat) : List UInt8 := secW 67 e [UInt8.ofNat k]
def recSteps (e : Nat) : Nat → List Ch → List St
 | k, [] => [.f, .w (34 + k) (markB e k), .f]
 | k, c :: r => .w (34 + k) (recB e k c) :: recSteps e (k + 1) r
section
variable {s : Ro} {w : World} {R : List Asn} {b bp : Nat} {d : DM} {x : Ext}
theorem Page_l {bL e h u : Nat} {ps : List UInt8} {dd : Bool} {n : Nat} (H : Holds s w (logW bL bp e h u ps dd :: R)) (hl : ps.length = 640) (hn : n < 16) : Calls Tryz.prog 88 #[.pointer (some ⟨bL, 0, none⟩), .int .i64 (n : Int)] w fun y w' => ∃ g, y = .returned (.tuple #[.slice (some ⟨g, 0, none⟩) (getP ps n).length 40, .int .i64 0]) ∧ Holds s w' (row 5 1 (.slice (some ⟨g, 0, none⟩) (getP ps n).length 40) (getP ps n).length (u8s (getP ps n)) :: logW bL bp e h u ps dd :: R) := by
 have hg := getP_len hl hn
 unfold logW at *
 refine enter Tryz.func88 rfl Tryz.ntmps88 rfl ?_
 refine Gq8 H ?_
 refine K.make (k := 40) (m := 40) H rfl rfl rfl rfl rfl (by decide) (by decide) (by decide) ?_
 clear H
 intro g1 w H
 rw [rep_flat] at H
 repeat' (first | (refine K.iaA (i := n) rfl rfl rfl rfl rfl (by omega) ?_) | refine Go8 H ?_ | (refine Gs8 H ?_; clear H; (try clear w); intro w H) | (refine Gn H ?_; clear H; (try clear w); intro _ w H))
 have hsrc := src_page (s := s) (bP := bL) (off := 4) (k := n) (pre := [.pointer (some ⟨bp, 0, none⟩), .int .u32 (e : Int), .int .i64 (h : Int), .int .i64 (u : Int)]) (post := [.bool dd]) (rs := row 5 1 (.slice (some ⟨g1, 0, none⟩) 40 40) 40 (List.replicate 40 (.int .u8 0)) :: logW bL bp e h u ps dd :: R) 1 rfl rfl hl hn
 refine K.copyR (g := g1) (m := 40) (off := 0) (dl := 40) 0 H rfl hsrc (u8s_one _) (q := 40) rfl (by decide) rfl rfl rfl ?_
 clear H
 intro w H
 have hfill : (List.replicate 40 (Value.int .u8 0)).take 0 ++ ((u8s (getP ps n)).take 40 ++ (List.replicate 40 (Value.int .u8 0)).drop (0 + 40)) = u8s (getP ps n) := by
  rw [List.take_zero, List.nil_append, List.take_of_length_le (by rw [u8s_len, hg]; decide), List.drop_eq_nil_of_le (by simp), List.append_nil]
 rw [List.set_cons_zero, hfill] at H
 refine Gq8 H ?_
 exact ⟨_, resTT rfl, g1, by rw [hg]; rfl, by rw [hg]; exact H⟩
theorem valid_l {v : Value} {cs : List Value} {l : List Ch} (H : Holds s w R) (hcS : SlS s v 2 l.length cs) (hch : ChS s cs l) (hn : l.length ≤ 1000) : Calls Tryz.prog 78 #[v] w fun y w' => y = .returned (.bool (validM l)) ∧ Holds s w' R := by
 have hc' := hcS
 obtain ⟨va, vc, rfl, _⟩ := hc'
 refine enter Tryz.func78 rfl Tryz.ntmps78 rfl ?_
 by_cases h16 : l.length ≤ 16
 ·have hvm : validM l = l.all (fun c => decide (0 ≤ c.page ∧ c.page < 16 ∧ c.data.length = 40)) := by unfold validM; rw [decide_eq_true h16, Bool.true_and]
  rw [hvm]
  refine Gq8 H ?_
  refine C.loopH H [2, 4, 10, 11, 12, 13, 14, 15, 16, 17, 18, 19, 20, 21, 22, 23, 24, 25, 26, 27, 28] [10] rfl (fun k vs => ∃ i : Nat, k = l.length - i ∧ i ≤ l.length ∧ vs = [.int .i64 (i : Int)] ∧ (l.take i).all (fun c => decide (0 ≤ c.page ∧ c.page < 16 ∧ c.data.length = 40)) = true) l.length ⟨0, rfl, Nat.zero_le _, rfl, rfl⟩ ?_
  clear H
  rintro k vs hv' w ⟨i, rfl, hi, rfl, hall⟩ H
  by_cases hlt : i < l.length
  ·obtain ⟨g, o, c', hsv, _, _, hpin⟩ := posS hcS (by omega) (by decide)
   cases hsv
   obtain ⟨h0, dv, h1, hdS⟩ := hch.at' i hlt
   have hsu : (l.take (i + 1)).all (fun c => decide (0 ≤ c.page ∧ c.page < 16 ∧ c.data.length = 40)) = decide (0 ≤ l[i].page ∧ l[i].page < 16 ∧ l[i].data.length = 40) := by rw [List.take_succ_eq_append_getElem hlt, List.all_append, hall]; simp
   have hmem : l[i] ∈ l := List.getElem_mem hlt
   generalize l[i] = ch at *
   obtain ⟨pg, dat⟩ := ch
   dsimp only at h0 hdS hsu
   have hdS' := hdS
   obtain ⟨da, dc, rfl, _⟩ := hdS'
   have pn : ∀ j y, [Value.int .i64 pg, .slice da dat.length dc][j]? = some y → Pin s g (o + i * 2 + j) y := by
    intro j y hj
    match j, hj with
    | 0, hj => cases hj; exact hpin _ _ h0
    | 1, hj => cases hj; exact hpin _ _ h1
    | (_ + 2), hj => simp at hj
   by_cases hok : 0 ≤ pg ∧ pg < 16 ∧ dat.length = 40
   ·rw [decide_eq_true hok] at hsu
    obtain ⟨ok1, ok2, ok3⟩ := hok
    (refine Gq8 H ?_; clear H; (try clear w); intro _ w H)
    exact ⟨agr, l.length - (i + 1), by omega, ⟨i + 1, rfl, by omega, rfl, hsu⟩, H.tail⟩
   ·have hf : l.all (fun c => decide (0 ≤ c.page ∧ c.page < 16 ∧ c.data.length = 40)) = false := by
     rw [List.all_eq_false]
     exact ⟨_, hmem, by simpa using hok⟩
    rw [hf]
    repeat' (first | refine Z H ?_ | (refine Zc ?_ ?_ <;> intro hc <;> first | (exfalso; omega) | skip) | (refine Y ?_; try change C _ _ _ _ _ _) | (refine Zs H ?_; clear H; (try clear w); intro w H) | (refine Zn H ?_; clear H; (try clear w); intro _ w H) | (refine Ze H ?_; clear H; (try clear w); intro gv w H))
    all_goals exact ⟨_, resT rfl, rfl, H.tail⟩
  ·have hie : i = l.length := by omega
   subst hie
   rw [List.take_length] at hall
   rw [hall]
   refine Gq8 H ?_
   exact ⟨_, resT rfl, rfl, H⟩
 ·have hvm : validM l = false := by unfold validM; rw [decide_eq_false h16, Bool.false_and]
  rw [hvm]
  refine Gq8 H ?_
  exact ⟨_, resT rfl, rfl, H⟩
theorem checkpoint_l {bL e h u : Nat} {ps : List UInt8} {dd : Bool} (hN : Nib s) (H : Holds s w (logW bL bp e h u ps dd :: dsk b d :: R)) (hp : PartS s bp b x) (he : e + 1 < 2 ^ 32) (hh : h ≤ 1) (hl : ps.length = 640) (hpl : d.pend.length ≤ 100000) : Calls Tryz.prog 80 #[.pointer (some ⟨bL, 0, none⟩)] w fun y w' => y = .returned (.int .i64 (run x (homeSteps (e + 1) (1 - h) ps) d).2) ∧ (if (run x (homeSteps (e + 1) (1 - h) ps) d).2 = 0 then Holds s w' (logW bL bp (e + 1) (1 - h) 0 ps dd :: dsk b (run x (homeSteps (e + 1) (1 - h) ps) d).1 :: R) else Holds s w' (logW bL bp e h u ps dd :: dsk b (run x (homeSteps (e + 1) (1 - h) ps) d).1 :: R)) := by
 unfold logW at *
 have h1 : ((1 - h : Nat) : Int) = 1 - (h : Int) := by omega
 refine enter Tryz.func80 rfl Tryz.ntmps80 rfl ?_
 refine Gq8 H ?_
 refine C.drawn1 [0, 0, 0, 1, 0, 0, 0, 0, 1, 0, 0, 0] [0, 1, 3, 7, 15, 0, 32, 96, 224, 480, 31, 2047] (by kernel_rfl) ?_; replace H := H.drew
 repeat' (first | (refine B.add (a := e) (b := 1) ?_) | refine Go8 H ?_ | (refine Gs8 H ?_; clear H; (try clear w); intro w H) | (refine Gn H ?_; clear H; (try clear w); intro _ w H))
 rw [← h1]
 refine C.drawn5 [0, 1, 2, 3, 4, 5, 6, 7, 8, 9, 10] [0, 0, 0, 4, 0, 0, 0, 0, 0, 3, 0] [10] [0, 1, 3, 7, 0, 0, 0, 64, 192, 511, 1023] (by kernel_rfl) ?_; replace H := H.drew; refine sgA ?_
 refine Gq8 H ?_
 have hsrc : ∀ k, k < 16 → Src s (logW bL bp e h u ps dd :: R) (.slice (some ⟨bL, 4 + k * 40, none⟩) 40 40) 1 40 (u8s (getP ps k)) := fun k hk => src_page (pre := [.pointer (some ⟨bp, 0, none⟩), .int .u32 (e : Int), .int .i64 (h : Int), .int .i64 (u : Int)]) (post := [.bool dd]) 0 rfl rfl hl hk
 replace H : Holds _ _ (dsk b _ :: _) := tp H
 (refine X.call (writeHome_w (e := e + 1) (h := 1 - h) (off := 4) (ps := ps) hN H hp he (by omega) hl hsrc hpl) ?_; (try clear H); rintro _ w ⟨rfl, H⟩; refine ⟨_, rfl, ?_⟩); refine L.nil ?_; refine ⟨rfl, rfl, q4, ?_⟩
 replace H := H.arr (rs' := logW bL bp e h u ps dd :: dsk b (run x (homeSteps (e + 1) (1 - h) ps) d).1 :: R)
 unfold logW at H
 generalize run x (homeSteps (e + 1) (1 - h) ps) d = rr at *
 obtain ⟨dj, code⟩ := rr
 dsimp only at H ⊢
 by_cases h0 : code = 0
 ·subst h0
  (refine Gq8 H ?_; clear H; (try clear w); intro w H)
  exact ⟨_, resT rfl, rfl, by rw [if_pos rfl]; exact H⟩
 ·refine Gq8 H ?_
  exact ⟨_, resT rfl, rfl, by rw [if_neg h0]; exact H⟩
theorem recordSector_e {e at' p : Nat} {m : List UInt8} {u : Value} (hN : Nib s) (H : Holds s w R) (he : e < 2 ^ 32) (ha : at' < 256) (hp : p < 256) (hu : Src s R u 1 m.length (u8s m)) (hm : m.length = 40) : Calls Tryz.prog 101 #[.int .u32 (e : Int), .int .i64 (at' : Int), .agg #[.int .i64 (p : Int), u]] w fun x w' => ∃ aa cc, x = .returned (.slice aa (secW 82 e ([UInt8.ofNat at', UInt8.ofNat p] ++ m)).length cc) ∧ Only [] w w' ∧ Holds s w' (row 5 1 (.slice aa (secW 82 e ([UInt8.ofNat at', UInt8.ofNat p] ++ m)).length cc) (secW 82 e ([UInt8.ofNat at', UInt8.ofNat p] ++ m)).length (u8s (secW 82 e ([UInt8.ofNat at', UInt8.ofNat p] ++ m))) :: R) :=
 (recordSector_w (hN.mono H.le_full) H.full he ha hp (.ro (hu.full H)) hm).mono fun x w' ⟨aa, cc, he, H'⟩ => ⟨aa, cc, he, H.pure1 H'⟩
theorem markSector_e {e h : Nat} (hN : Nib s) (H : Holds s w R) (he : e < 2 ^ 32) (hh : h < 256) : Calls Tryz.prog 103 #[.int .u32 (e : Int), .int .i64 (h : Int)] w fun x w' => ∃ aa cc, x = .returned (.slice aa (secW 67 e [UInt8.ofNat h]).length cc) ∧ Only [] w w' ∧ Holds s w' (row 5 1 (.slice aa (secW 67 e [UInt8.ofNat h]).length cc) (secW 67 e [UInt8.ofNat h]).length (u8s (secW 67 e [UInt8.ofNat h])) :: R) :=
 (markSector_w (hN.mono H.le_full) H.full he hh).mono fun x w' ⟨aa, cc, he, H'⟩ => ⟨aa, cc, he, H.pure1 H'⟩
theorem run_f (x : Ext) (d : DM) : run x [.f] d = d.flush := by
 rw [run]
 split
 ·rename_i hz; rw [run, ← hz]
 ·rfl
theorem record_l {bL e h u : Nat} {ps : List UInt8} {dd : Bool} {v : Value} {cs : List Value} {l : List Ch} (hN : Nib s) (H : Holds s w (logW bL bp e h u ps dd :: dsk b d :: R)) (hp : PartS s bp b x) (he : e < 2 ^ 32) (hl : ps.length = 640) (hcS : SlS s v 2 l.length cs) (hch : ChS s cs l) (hok : ∀ c ∈ l, c.Ok) (hu : u + l.length + 1 ≤ 18) (hpl : d.pend.length ≤ 100000) : Calls Tryz.prog 81 #[.pointer (some ⟨bL, 0, none⟩), v] w fun y w' => y = .returned (.int .i64 (run x (recSteps e u l) d).2) ∧ (if (run x (recSteps e u l) d).2 = 0 then Holds s w' (logW bL bp e h (u + l.length + 1) (applyL ps l) dd :: dsk b (run x (recSteps e u l) d).1 :: R) else Holds s w' (logW bL bp e h u ps dd :: dsk b (run x (recSteps e u l) d).1 :: R)) := by
 have hc' := hcS
 obtain ⟨va, vc, rfl, _⟩ := hc'
 unfold logW at H
 refine enter Tryz.func81 rfl Tryz.ntmps81 rfl ?_
 refine Gq8 H ?_
 refine C.loopS [4, 5, 7, 8, 18, 19, 20, 21, 22, 23, 24, 25, 26, 27, 28, 29, 30, 31, 32, 33, 34, 35, 36, 37, 38, 39, 40, 41] [5, 18] rfl (fun k vs w => ∃ i : Nat, ∃ di : DM, k = l.length - i ∧ i ≤ l.length ∧ vs = [.int .i64 ((u + i : Nat) : Int), .int .i64 (i : Int)] ∧ di.pend.length ≤ 100000 + i ∧ run x (recSteps e u l) d = run x (recSteps e (u + i) (l.drop i)) di ∧ Holds s w (logW bL bp e h u ps dd :: dsk b di :: R)) l.length ⟨0, d, rfl, Nat.zero_le _, rfl, hpl, rfl, H⟩ ?_
 clear H
 rintro k vs hv' w ⟨i, di, rfl, hi, rfl, hdi, hrun, H⟩
 unfold logW at H
 generalize run x (recSteps e u l) d = res at *
 by_cases hlt : i < l.length
 ·obtain ⟨g, o, c', hsv, _, _, hpin⟩ := posS hcS (by omega) (by decide)
  cases hsv
  obtain ⟨h0, dv, h1, hdS⟩ := hch.at' i hlt
  have hcok := hok l[i] (List.getElem_mem hlt)
  rw [List.drop_eq_getElem_cons hlt] at hrun
  generalize l[i] = ch at *
  obtain ⟨pg, dat⟩ := ch
  obtain ⟨ok1, ok2, ok3⟩ := hcok
  dsimp only at h0 hdS ok1 ok2 ok3
  obtain ⟨p, rfl⟩ := Int.eq_ofNat_of_zero_le ok1
  have hdS' := hdS
  obtain ⟨da, dc, rfl, _⟩ := hdS'
  have pn : ∀ j y, [Value.int .i64 (p : Int), .slice da dat.length dc][j]? = some y → Pin s g (o + i * 2 + j) y := by
   intro j y hj
   match j, hj with
   | 0, hj => cases hj; exact hpin _ _ h0
   | 1, hj => cases hj; exact hpin _ _ h1
   | (_ + 2), hj => simp at hj
  rw [recSteps] at hrun
  have hrb : recB e (u + i) ⟨(p : Int), dat⟩ = secW 82 e ([UInt8.ofNat (u + i), UInt8.ofNat p] ++ dat) := by unfold recB; rw [Int.toNat_natCast]
  rw [hrb] at hrun
  have hpl2 := pend_pwriteW di x ((34 + (u + i) : Nat) : Int) (secW 82 e ([UInt8.ofNat (u + i), UInt8.ofNat p] ++ dat))
  (refine Gq8 H ?_; clear H; (try clear w); intro _ w H)
  refine C.drawn5 [0, 1, 2, 3, 4, 5, 6, 7, 8, 9, 10, 11, 12, 13, 14] [0, 0, 0, 1, 0, 0, 0, 0, 0, 4, 0, 4, 2, 3, 0] [13, 1] [0, 1, 3, 7, 0, 16, 0, 64, 192, 448, 0, 0, 4032, 8191, 16383] (by kernel_rfl) ?_; replace H := H.drew; refine sgA ?_
  refine Gq8 H ?_
  rw [show (34 : Int) + ((u + i : Nat) : Int) = ((34 + (u + i) : Nat) : Int) by omega]
  (refine X.call (recordSector_e (e := e) (at' := u + i) (p := p) (m := dat) hN H he (by omega) (by omega) (.ro hdS) ok3) ?_; (try clear H); rintro _ w ⟨a1, c1, rfl, ho, H⟩; refine ⟨_, rfl, ?_⟩); refine L.nil ?_; refine ⟨rfl, rfl, q4, ?_⟩
  clear ho
  generalize hsB : secW 82 e ([UInt8.ofNat (u + i), UInt8.ofNat p] ++ dat) = sB at *
  refine Gq8 H ?_
  replace H : Holds _ _ (dsk b _ :: _) := tp H
  have hW := Write_p (a := ((34 + (u + i) : Nat) : Int)) H hp (by unfold I64; omega) (.own 0 _ rfl) (by omega)
  (refine X.call (hW) ?_; (try clear H); rintro _ w ⟨rfl, H⟩; refine ⟨_, rfl, ?_⟩); refine L.nil ?_; refine ⟨rfl, rfl, q4, ?_⟩
  clear hW
  replace H := H.arr (rs' := logW bL bp e h u ps dd :: dsk b (pwrite di x ((34 + (u + i) : Nat) : Int) sB).1 :: R)
  by_cases h0 : (pwrite di x ((34 + (u + i) : Nat) : Int) sB).2 = 0
  ·rw [run_ok x h0] at hrun
   rw [h0]
   refine Gq8 H ?_
   exact ⟨agr, l.length - (i + 1), by omega, i + 1, _, rfl, by omega, rfl, by omega, hrun, H⟩
  ·rw [run_no x h0] at hrun
   rw [hrun]
   refine Gq8 H ?_
   exact ⟨_, resT rfl, rfl, by rw [if_neg h0]; exact H⟩
 ·have hie : i = l.length := by omega
  subst hie
  rw [List.drop_length, recSteps] at hrun
  have hf := pend_flushW di
  refine Gq8 H ?_
  replace H : Holds _ _ (dsk b _ :: _) := tp H
  (refine X.call (Flush_p H hp) ?_; (try clear H); rintro _ w ⟨rfl, H⟩; refine ⟨_, rfl, ?_⟩)
  by_cases h0 : di.flush.2 = 0
  ·rw [run_fok x h0] at hrun
   rw [h0]
   generalize di.flush.1 = dj at *
   have hq := pend_pwriteW dj x ((34 + (u + l.length) : Nat) : Int) (markB e (u + l.length))
   refine Gq8 H ?_
   refine C.drawn5 [0, 1, 2, 3, 4, 5, 6, 7, 8, 9, 10, 11, 12, 13] [0, 0, 0, 1, 0, 0, 0, 0, 0, 4, 0, 2, 3, 0] [12, 1] [0, 1, 3, 7, 0, 16, 0, 64, 192, 448, 0, 1984, 4095, 8191] (by kernel_rfl) ?_; replace H := H.drew; refine sgA ?_
   refine Gq8 H ?_
   rw [show (34 : Int) + ((u + l.length : Nat) : Int) = ((34 + (u + l.length) : Nat) : Int) by omega]
   (refine X.call (markSector_e (e := e) (h := u + l.length) hN H he (by omega)) ?_; (try clear H); rintro _ w ⟨a1, c1, rfl, ho, H⟩; refine ⟨_, rfl, ?_⟩); refine L.nil ?_; refine ⟨rfl, rfl, q4, ?_⟩
   clear ho
   rw [show secW 67 e [UInt8.ofNat (u + l.length)] = markB e (u + l.length) from rfl] at *
   generalize markB e (u + l.length) = sB at *
   refine Gq8 H ?_
   replace H : Holds _ _ (dsk b _ :: _) := tp H
   have hW := Write_p (a := ((34 + (u + l.length) : Nat) : Int)) H hp (by unfold I64; omega) (.own 0 _ rfl) (by omega)
   (refine X.call (hW) ?_; (try clear H); rintro _ w ⟨rfl, H⟩; refine ⟨_, rfl, ?_⟩); refine L.nil ?_; refine ⟨rfl, rfl, q4, ?_⟩
   clear hW
   replace H := H.arr (rs' := logW bL bp e h u ps dd :: dsk b (pwrite dj x ((34 + (u + l.length) : Nat) : Int) sB).1 :: R)
   unfold logW at H
   by_cases h1 : (pwrite dj x ((34 + (u + l.length) : Nat) : Int) sB).2 = 0
   ·rw [run_ok x h1, run_f] at hrun
    rw [h1]
    generalize (pwrite dj x ((34 + (u + l.length) : Nat) : Int) sB).1 = dk at *
    refine Gq8 H ?_
    replace H : Holds _ _ (dsk b _ :: _) := tp H
    (refine X.call (Flush_p H hp) ?_; (try clear H); rintro _ w ⟨rfl, H⟩; refine ⟨_, rfl, ?_⟩)
    by_cases h2 : dk.flush.2 = 0
    ·rw [h2]
     rw [hrun, h2]
     refine Gq8 H ?_
     replace H := H.arr (rs' := logW bL bp e h u ps dd :: dsk b dk.flush.1 :: R)
     (refine X.call (apply_l H hcS hch hok hl (by omega)) ?_; (try clear H); rintro _ w ⟨rfl, H⟩; refine ⟨_, rfl, ?_⟩)
     unfold logW at H
     (refine Gq8 H ?_; clear H; (try clear w); intro w H)
     exact ⟨_, resT rfl, rfl, by rw [if_pos rfl]; exact H⟩
    ·rw [hrun]
     refine Gq8 H ?_
     exact ⟨_, resT rfl, rfl, by rw [if_neg h2]; exact H.arr⟩
   ·rw [run_no x h1] at hrun
    rw [hrun]
    refine Gq8 H ?_
    exact ⟨_, resT rfl, rfl, by rw [if_neg h1]; exact H⟩
  ·rw [run_fno x h0] at hrun
   rw [hrun]
   refine Gq8 H ?_
   exact ⟨_, resT rfl, rfl, by rw [if_neg h0]; exact H.arr⟩
end
def recM (d : DM) (x : Ext) (m : WL) (l : List Ch) : DM × WL × Int :=
 if (run x (recSteps m.epoch m.used l) d).2 = 0 then ((run x (recSteps m.epoch m.used l) d).1, ⟨m.epoch, m.home, m.used + l.length + 1, applyL m.pages l, false⟩, 0)
 else ((run x (recSteps m.epoch m.used l) d).1, ⟨m.epoch, m.home, m.used, m.pages, true⟩, (run x (recSteps m.epoch m.used l) d).2)
def commitM (d : DM) (x : Ext) (m : WL) (l : List Ch) : DM × WL × Int :=
 if m.dead = true then (d, m, 9) else if validM l = false then (d, m, 1) else if l.length = 0 then (d, m, 0)
 else if 18 < m.used + l.length + 1 then
  (if m.epoch = 4294967295 then (d, m, 5)
  else if (run x (homeSteps (m.epoch + 1) (1 - m.home) m.pages) d).2 = 0 then recM (run x (homeSteps (m.epoch + 1) (1 - m.home) m.pages) d).1 x ⟨m.epoch + 1, 1 - m.home, 0, m.pages, false⟩ l
  else ((run x (homeSteps (m.epoch + 1) (1 - m.home) m.pages) d).1, ⟨m.epoch, m.home, m.used, m.pages, true⟩, (run x (homeSteps (m.epoch + 1) (1 - m.home) m.pages) d).2))
 else recM d x m l
theorem get_dead {a b c d : Value} {ps : List UInt8} {v : Value} (hl : ps.length = 640) : (a :: b :: c :: d :: (u8s ps ++ [v]))[644]? = some v := by
 simp only [List.getElem?_cons_succ]
 rw [List.getElem?_append_right (by rw [u8s_len, hl]; decide), u8s_len, hl]
 rfl
theorem set_dead {a b c d : Value} {ps : List UInt8} {v u : Value} (hl : ps.length = 640) : (a :: b :: c :: d :: (u8s ps ++ [v])).set 644 u = a :: b :: c :: d :: (u8s ps ++ [u]) := by
 simp only [List.set_cons_succ]
 rw [List.set_append_right _ _ (by rw [u8s_len, hl]; decide), u8s_len, hl]
 rfl
theorem len_dead {a b c d : Value} {ps : List UInt8} {v : Value} (hl : ps.length = 640) : Nat.blt 644 (a :: b :: c :: d :: (u8s ps ++ [v])).length = true := by
 have : (a :: b :: c :: d :: (u8s ps ++ [v])).length = 645 := by simp only [List.length_cons, List.length_append, u8s_len, hl, List.length_nil]
 rw [this]; rfl
theorem run_pend (x : Ext) : ∀ (l : List St) (d : DM), (run x l d).1.pend.length ≤ d.pend.length + l.length
 | [], d => by simp [run]
 | .w a b :: r, d => by
  have h1 := pend_pwriteW d x (a : Int) b
  rw [List.length_cons]
  by_cases h : (pwrite d x (a : Int) b).2 = 0
  ·rw [run_ok x h]
   have := run_pend x r (pwrite d x (a : Int) b).1
   omega
  ·rw [run_no x h]; omega
 | .f :: r, d => by
  have h1 := pend_flushW d
  rw [List.length_cons]
  by_cases h : d.flush.2 = 0
  ·rw [run_fok x h]
   have := run_pend x r d.flush.1
   omega
  ·rw [run_fno x h]; omega
theorem homeFrom_len (e h : Nat) (ps : List UInt8) : ∀ n i, (homeFrom e h ps n i).length = n + 3
 | 0, _ => rfl
 | n + 1, i => by rw [homeFrom, List.length_cons, homeFrom_len]
theorem homeSteps_len (e h : Nat) (ps : List UInt8) : (homeSteps e h ps).length = 19 := homeFrom_len e h ps 16 0
section
variable {s : Ro} {w : World} {R : List Asn} {b bp : Nat} {d : DM} {x : Ext}
theorem Commit1_l {bC bX bL e h u : Nat} {ps : List UInt8} {dd : Bool} {code : Int} (H : Holds s w (var bC 31 [.int .i64 code] :: var bX 97 [.pointer (some ⟨bL, 0, none⟩)] :: logW bL bp e h u ps dd :: R)) (hl : ps.length = 640) : CallsD Tryz.prog 79 #[.pointer (some ⟨bC, 0, none⟩), .pointer (some ⟨bX, 0, none⟩)] .returning w fun y u' w' => u' = .returning ∧ (y = .returned (.tuple #[]) ∧ Holds s w' (var bC 31 [.int .i64 code] :: var bX 97 [.pointer (some ⟨bL, 0, none⟩)] :: logW bL bp e h u ps (decide (code ≠ 0)) :: R)) := by
 unfold logW at H
 refine callsD Tryz.func79 rfl Tryz.ntmps79 rfl ?_
 by_cases hc0 : code = 0
 ·rw [decide_eq_false (not_not_intro hc0)]
  repeat' (first | (refine K.store (v := .bool false) 2 H rfl rfl rfl rfl rfl (len_dead hl) ?_; rw [set_dead hl]; clear H; (try clear w); intro w H) | refine Go8 H ?_ | (refine Gs8 H ?_; clear H; (try clear w); intro w H) | (refine Gn H ?_; clear H; (try clear w); intro _ w H))
  exact ⟨_, res0 rfl, rfl, H⟩
 ·rw [decide_eq_true hc0]
  repeat' (first | (refine K.store (v := .bool true) 2 H rfl rfl rfl rfl rfl (len_dead hl) ?_; rw [set_dead hl]; clear H; (try clear w); intro w H) | refine Go8 H ?_ | (refine Gs8 H ?_; clear H; (try clear w); intro w H) | (refine Gn H ?_; clear H; (try clear w); intro _ w H))
  exact ⟨_, res0 rfl, rfl, H⟩
theorem Commit_l {bL : Nat} {m : WL} {v : Value} {cs : List Value} {l : List Ch} (hN : Nib s) (H : Holds s w (logW bL bp m.epoch m.home m.used m.pages m.dead :: dsk b d :: R)) (hp : PartS s bp b x) (he : m.epoch < 2 ^ 32) (hh : m.home ≤ 1) (hu : m.used ≤ 18) (hl : m.pages.length = 640) (hcS : SlS s v 2 l.length cs) (hch : ChS s cs l) (hn : l.length ≤ 1000) (hpl : d.pend.length ≤ 10000) : Calls Tryz.prog 51 #[.pointer (some ⟨bL, 0, none⟩), v] w fun y w' => y = .returned (.int .i64 (commitM d x m l).2.2) ∧ Holds s w' (logW bL bp (commitM d x m l).2.1.epoch (commitM d x m l).2.1.home (commitM d x m l).2.1.used (commitM d x m l).2.1.pages (commitM d x m l).2.1.dead :: dsk b (commitM d x m l).1 :: R) := by
 obtain ⟨e, h, u, ps, dd⟩ := m
 have hc' := hcS
 obtain ⟨va, vc, rfl, _⟩ := hc'
 dsimp only at *
 unfold logW at H
 unfold commitM
 dsimp only
 refine enterD Tryz.func51 rfl Tryz.ntmps51 rfl ?_
 cases dd with
 | true =>
  rw [if_pos rfl]
  repeat' (first | refine D.seq ?_ | refine D.region ?_ | (refine LD.nil ?_; change D _ _ _ _ _ _ _) | (refine D.skip ?_; change D _ _ _ _ _ _ _) | refine D.tru ?_ | refine D.fls ?_ | refine LD.not ?_ | refine LD.len ?_ | refine LD.nchk ?_ | (refine LD.one rfl ?_; repeat' (first | (refine K.load (v := .bool true) 2 H rfl rfl rfl rfl (get_dead hl) ?_) | refine Go8 H ?_ | (refine Gs8 H ?_; clear H; (try clear w); intro w H) | (refine Gn H ?_; clear H; (try clear w); intro _ w H)); all_goals (first | refine L.nil ⟨rfl, ?_⟩ | refine ⟨rfl, ?_⟩)))
  refine D.ret (leaves0 (resC1 0 H rfl rfl rfl) ⟨rfl, H.tail.tail⟩)
 | false =>
  rw [if_neg (by decide)]
  repeat' (first | refine D.seq ?_ | refine D.region ?_ | (refine LD.nil ?_; change D _ _ _ _ _ _ _) | (refine D.skip ?_; change D _ _ _ _ _ _ _) | refine D.tru ?_ | refine D.fls ?_ | refine LD.not ?_ | refine LD.len ?_ | refine LD.nchk ?_ | (refine LD.one rfl ?_; repeat' (first | (refine K.load (v := .bool false) 2 H rfl rfl rfl rfl (get_dead hl) ?_) | refine Go8 H ?_ | (refine Gs8 H ?_; clear H; (try clear w); intro w H) | (refine Gn H ?_; clear H; (try clear w); intro _ w H)); all_goals (first | refine L.nil ⟨rfl, ?_⟩ | refine ⟨rfl, ?_⟩)))
  rename_i bX bC
  refine LD.call (valid_l H hcS hch hn) ?_
  clear H
  rintro _ w ⟨rfl, H⟩
  refine ⟨_, rfl, ?_⟩
  cases hvm : validM l with
  | false =>
   rw [if_pos rfl]
   repeat' (first | refine D.seq ?_ | refine D.region ?_ | (refine LD.nil ?_; change D _ _ _ _ _ _ _) | (refine D.skip ?_; change D _ _ _ _ _ _ _) | refine D.tru ?_ | refine D.fls ?_ | refine LD.not ?_ | refine LD.len ?_ | refine LD.nchk ?_ | (refine LD.one rfl ?_; repeat' (first | refine Z H ?_ | (refine Zc ?_ ?_ <;> intro hc <;> first | (exfalso; omega) | skip) | (refine Y ?_; try change C _ _ _ _ _ _) | (refine Zs H ?_; clear H; (try clear w); intro w H) | (refine Zn H ?_; clear H; (try clear w); intro _ w H) | (refine Ze H ?_; clear H; (try clear w); intro gv w H)); all_goals (first | refine L.nil ⟨rfl, ?_⟩ | refine ⟨rfl, ?_⟩)))
   refine D.ret (leaves0 (resC1 0 H rfl rfl rfl) ⟨rfl, H.tail.tail⟩)
  | true =>
   rw [if_neg (by decide)]
   obtain ⟨hv16, hok⟩ := validM_ok hvm
   by_cases hl0 : l.length = 0
   ·rw [if_pos hl0]
    repeat' (first | refine D.seq ?_ | refine D.region ?_ | (refine LD.nil ?_; change D _ _ _ _ _ _ _) | (refine D.skip ?_; change D _ _ _ _ _ _ _) | refine D.tru ?_ | refine D.fls ?_ | refine LD.not ?_ | refine LD.len ?_ | refine LD.nchk ?_ | (refine LD.one rfl ?_; repeat' (first | refine Z H ?_ | (refine Zc ?_ ?_ <;> intro hc <;> first | (exfalso; omega) | skip) | (refine Y ?_; try change C _ _ _ _ _ _) | (refine Zs H ?_; clear H; (try clear w); intro w H) | (refine Zn H ?_; clear H; (try clear w); intro _ w H) | (refine Ze H ?_; clear H; (try clear w); intro gv w H)); all_goals (first | refine L.nil ⟨rfl, ?_⟩ | refine ⟨rfl, ?_⟩)))
    refine D.ret (leaves0 (resC1 0 H rfl rfl rfl) ⟨rfl, H.tail.tail⟩)
   ·rw [if_neg hl0]
    by_cases hfull : 18 < u + l.length + 1
    ·rw [if_pos hfull]
     by_cases hmax : e = 4294967295
     ·rw [if_pos hmax]
      repeat' (first | refine D.seq ?_ | refine D.region ?_ | (refine LD.nil ?_; change D _ _ _ _ _ _ _) | (refine D.skip ?_; change D _ _ _ _ _ _ _) | refine D.tru ?_ | refine D.fls ?_ | refine LD.not ?_ | refine LD.len ?_ | refine LD.nchk ?_ | (refine LD.one rfl ?_; repeat' (first | refine Z H ?_ | (refine Zc ?_ ?_ <;> intro hc <;> first | (exfalso; omega) | skip) | (refine Y ?_; try change C _ _ _ _ _ _) | (refine Zs H ?_; clear H; (try clear w); intro w H) | (refine Zn H ?_; clear H; (try clear w); intro _ w H) | (refine Ze H ?_; clear H; (try clear w); intro gv w H)); all_goals (first | refine L.nil ⟨rfl, ?_⟩ | refine ⟨rfl, ?_⟩)))
      refine D.ret (leaves0 (resC1 0 H rfl rfl rfl) ⟨rfl, H.tail.tail⟩)
     ·rw [if_neg hmax]
      repeat' (first | refine D.seq ?_ | refine D.region ?_ | (refine LD.nil ?_; change D _ _ _ _ _ _ _) | (refine D.skip ?_; change D _ _ _ _ _ _ _) | refine D.tru ?_ | refine D.fls ?_ | refine LD.not ?_ | refine LD.len ?_ | refine LD.nchk ?_ | (refine LD.one rfl ?_; repeat' (first |  (refine B.fn ?_) | refine Z H ?_ | (refine Zc ?_ ?_ <;> intro hc <;> first | (exfalso; omega) | skip) | (refine Y ?_; try change C _ _ _ _ _ _) | (refine Zs H ?_; clear H; (try clear w); intro w H) | (refine Zn H ?_; clear H; (try clear w); intro _ w H) | (refine Ze H ?_; clear H; (try clear w); intro gv w H)); all_goals (first | refine L.nil ⟨rfl, ?_⟩ | refine ⟨rfl, ?_⟩)))
      refine LD.defer ?_
      repeat' (first | refine D.seq ?_ | refine D.region ?_ | (refine LD.nil ?_; change D _ _ _ _ _ _ _) | (refine D.skip ?_; change D _ _ _ _ _ _ _) | refine D.tru ?_ | refine D.fls ?_ | refine LD.not ?_ | refine LD.len ?_ | refine LD.nchk ?_ | (refine LD.one rfl ?_; refine Gq8 H ?_; all_goals (first | refine L.nil ⟨rfl, ?_⟩ | refine ⟨rfl, ?_⟩)))
      refine LD.call (checkpoint_l hN (H.arr (rs' := logW bL bp e h u ps false :: dsk b d :: var bC 31 [.int .i64 0] :: var bX 97 [.pointer (some ⟨bL, 0, none⟩)] :: R)) hp (by omega) hh hl (by omega)) ?_
      clear H
      rintro _ w ⟨rfl, H⟩
      refine ⟨_, rfl, ?_⟩
      have hpr := run_pend x (homeSteps (e + 1) (1 - h) ps) d
      rw [homeSteps_len] at hpr
      by_cases h8 : (run x (homeSteps (e + 1) (1 - h) ps) d).2 = 0
      ·rw [if_pos h8] at H ⊢
       rw [h8]
       generalize (run x (homeSteps (e + 1) (1 - h) ps) d).1 = dy at *
       repeat' (first | refine D.seq ?_ | refine D.region ?_ | (refine LD.nil ?_; change D _ _ _ _ _ _ _) | (refine D.skip ?_; change D _ _ _ _ _ _ _) | refine D.tru ?_ | refine D.fls ?_ | refine LD.not ?_ | refine LD.len ?_ | refine LD.nchk ?_ | (refine LD.one rfl ?_; repeat' (first | refine Z H ?_ | (refine Zc ?_ ?_ <;> intro hc <;> first | (exfalso; omega) | skip) | (refine Y ?_; try change C _ _ _ _ _ _) | (refine Zs H ?_; clear H; (try clear w); intro w H) | (refine Zn H ?_; clear H; (try clear w); intro _ w H) | (refine Ze H ?_; clear H; (try clear w); intro gv w H)); all_goals (first | refine L.nil ⟨rfl, ?_⟩ | refine ⟨rfl, ?_⟩)))
       refine LD.call (record_l (e := e + 1) (h := 1 - h) (u := 0) hN (H.arr (rs' := logW bL bp (e + 1) (1 - h) 0 ps false :: dsk b dy :: var bC 31 [.int .i64 0] :: var bX 97 [.pointer (some ⟨bL, 0, none⟩)] :: R)) hp (by omega) hl hcS hch hok (by omega) (by omega)) ?_
       clear H
       rintro _ w ⟨rfl, H⟩
       refine ⟨_, rfl, ?_⟩
       unfold recM
       dsimp only
       by_cases h9 : (run x (recSteps (e + 1) (0) l) dy).2 = 0
       ·rw [if_pos h9] at H ⊢
        rw [h9]
        generalize (run x (recSteps (e + 1) (0) l) dy).1 = dz at *
        repeat' (first | refine D.seq ?_ | refine D.region ?_ | (refine LD.nil ?_; change D _ _ _ _ _ _ _) | (refine D.skip ?_; change D _ _ _ _ _ _ _) | refine D.tru ?_ | refine D.fls ?_ | refine LD.not ?_ | refine LD.len ?_ | refine LD.nchk ?_ | (refine LD.one rfl ?_; (refine Gq8 H ?_; clear H; (try clear w); intro w H); all_goals (first | refine L.nil ⟨rfl, ?_⟩ | refine ⟨rfl, ?_⟩)))
        have H' := H.arr (rs' := var bC 31 [.int .i64 0] :: var bX 97 [.pointer (some ⟨bL, 0, none⟩)] :: logW bL bp (e + 1) (1 - h) (0 + l.length + 1) (applyL ps l) false :: dsk b dz :: R)
        refine D.ret (leaves1 (l := []) (m := [.pointer (some ⟨bC, 0, none⟩), .pointer (some ⟨bX, 0, none⟩)]) inferInstance rfl (Commit1_l H' (by exact applyL_len hok hl)) ?_)
        rintro _ w' ⟨rfl, H2⟩
        exact ⟨_, rfl, _, resC1 0 H2 rfl rfl rfl, rfl, by exact H2.tail.tail⟩
       ·rw [if_neg h9] at H ⊢
        generalize run x (recSteps (e + 1) (0) l) dy = rr at *
        obtain ⟨dz, code⟩ := rr
        dsimp only at H h9 ⊢
        repeat' (first | refine D.seq ?_ | refine D.region ?_ | (refine LD.nil ?_; change D _ _ _ _ _ _ _) | (refine D.skip ?_; change D _ _ _ _ _ _ _) | refine D.tru ?_ | refine D.fls ?_ | refine LD.not ?_ | refine LD.len ?_ | refine LD.nchk ?_ | (refine LD.one rfl ?_; (refine Gq8 H ?_; clear H; (try clear w); intro w H); all_goals (first | refine L.nil ⟨rfl, ?_⟩ | refine ⟨rfl, ?_⟩)))
        have H' := H.arr (rs' := var bC 31 [.int .i64 code] :: var bX 97 [.pointer (some ⟨bL, 0, none⟩)] :: logW bL bp (e + 1) (1 - h) (0) ps false :: dsk b dz :: R)
        refine D.ret (leaves1 (l := []) (m := [.pointer (some ⟨bC, 0, none⟩), .pointer (some ⟨bX, 0, none⟩)]) inferInstance rfl (Commit1_l H' (by exact hl)) ?_)
        rintro _ w' ⟨rfl, H2⟩
        exact ⟨_, rfl, _, resC1 0 H2 rfl rfl rfl, rfl, by rw [decide_eq_true h9] at H2; exact H2.tail.tail⟩
      ·rw [if_neg h8] at H ⊢
       generalize run x (homeSteps (e + 1) (1 - h) ps) d = rr at *
       obtain ⟨dz, code⟩ := rr
       dsimp only at H h8 ⊢
       repeat' (first | refine D.seq ?_ | refine D.region ?_ | (refine LD.nil ?_; change D _ _ _ _ _ _ _) | (refine D.skip ?_; change D _ _ _ _ _ _ _) | refine D.tru ?_ | refine D.fls ?_ | refine LD.not ?_ | refine LD.len ?_ | refine LD.nchk ?_ | (refine LD.one rfl ?_; repeat' (first | refine Z H ?_ | (refine Zc ?_ ?_ <;> intro hc <;> first | (exfalso; omega) | skip) | (refine Y ?_; try change C _ _ _ _ _ _) | (refine Zs H ?_; clear H; (try clear w); intro w H) | (refine Zn H ?_; clear H; (try clear w); intro _ w H) | (refine Ze H ?_; clear H; (try clear w); intro gv w H)); all_goals (first | refine L.nil ⟨rfl, ?_⟩ | refine ⟨rfl, ?_⟩)))
       have H' := H.arr (rs' := var bC 31 [.int .i64 code] :: var bX 97 [.pointer (some ⟨bL, 0, none⟩)] :: logW bL bp e h u ps false :: dsk b dz :: R)
       refine D.ret (leaves1 (l := []) (m := [.pointer (some ⟨bC, 0, none⟩), .pointer (some ⟨bX, 0, none⟩)]) inferInstance rfl (Commit1_l H' (by exact hl)) ?_)
       rintro _ w' ⟨rfl, H2⟩
       exact ⟨_, rfl, _, resC1 0 H2 rfl rfl rfl, rfl, by rw [decide_eq_true h8] at H2; exact H2.tail.tail⟩
    ·rw [if_neg hfull]
     repeat' (first | refine D.seq ?_ | refine D.region ?_ | (refine LD.nil ?_; change D _ _ _ _ _ _ _) | (refine D.skip ?_; change D _ _ _ _ _ _ _) | refine D.tru ?_ | refine D.fls ?_ | refine LD.not ?_ | refine LD.len ?_ | refine LD.nchk ?_ | (refine LD.one rfl ?_; repeat' (first |  (refine B.fn ?_) | refine Z H ?_ | (refine Zc ?_ ?_ <;> intro hc <;> first | (exfalso; omega) | skip) | (refine Y ?_; try change C _ _ _ _ _ _) | (refine Zs H ?_; clear H; (try clear w); intro w H) | (refine Zn H ?_; clear H; (try clear w); intro _ w H) | (refine Ze H ?_; clear H; (try clear w); intro gv w H)); all_goals (first | refine L.nil ⟨rfl, ?_⟩ | refine ⟨rfl, ?_⟩)))
     refine LD.defer ?_
     repeat' (first | refine D.seq ?_ | refine D.region ?_ | (refine LD.nil ?_; change D _ _ _ _ _ _ _) | (refine D.skip ?_; change D _ _ _ _ _ _ _) | refine D.tru ?_ | refine D.fls ?_ | refine LD.not ?_ | refine LD.len ?_ | refine LD.nchk ?_ | (refine LD.one rfl ?_; refine Gq8 H ?_; all_goals (first | refine L.nil ⟨rfl, ?_⟩ | refine ⟨rfl, ?_⟩)))
     refine LD.call (record_l (e := e) (h := h) (u := u) hN (H.arr (rs' := logW bL bp e h u ps false :: dsk b d :: var bC 31 [.int .i64 0] :: var bX 97 [.pointer (some ⟨bL, 0, none⟩)] :: R)) hp (by omega) hl hcS hch hok (by omega) (by omega)) ?_
     clear H
     rintro _ w ⟨rfl, H⟩
     refine ⟨_, rfl, ?_⟩
     unfold recM
     dsimp only
     by_cases h9 : (run x (recSteps (e) (u) l) d).2 = 0
     ·rw [if_pos h9] at H ⊢
      rw [h9]
      generalize (run x (recSteps (e) (u) l) d).1 = dz at *
      repeat' (first | refine D.seq ?_ | refine D.region ?_ | (refine LD.nil ?_; change D _ _ _ _ _ _ _) | (refine D.skip ?_; change D _ _ _ _ _ _ _) | refine D.tru ?_ | refine D.fls ?_ | refine LD.not ?_ | refine LD.len ?_ | refine LD.nchk ?_ | (refine LD.one rfl ?_; (refine Gq8 H ?_; clear H; (try clear w); intro w H); all_goals (first | refine L.nil ⟨rfl, ?_⟩ | refine ⟨rfl, ?_⟩)))
      have H' := H.arr (rs' := var bC 31 [.int .i64 0] :: var bX 97 [.pointer (some ⟨bL, 0, none⟩)] :: logW bL bp (e) (h) (u + l.length + 1) (applyL ps l) false :: dsk b dz :: R)
      refine D.ret (leaves1 (l := []) (m := [.pointer (some ⟨bC, 0, none⟩), .pointer (some ⟨bX, 0, none⟩)]) inferInstance rfl (Commit1_l H' (by exact applyL_len hok hl)) ?_)
      rintro _ w' ⟨rfl, H2⟩
      exact ⟨_, rfl, _, resC1 0 H2 rfl rfl rfl, rfl, by exact H2.tail.tail⟩
     ·rw [if_neg h9] at H ⊢
      generalize run x (recSteps (e) (u) l) d = rr at *
      obtain ⟨dz, code⟩ := rr
      dsimp only at H h9 ⊢
      repeat' (first | refine D.seq ?_ | refine D.region ?_ | (refine LD.nil ?_; change D _ _ _ _ _ _ _) | (refine D.skip ?_; change D _ _ _ _ _ _ _) | refine D.tru ?_ | refine D.fls ?_ | refine LD.not ?_ | refine LD.len ?_ | refine LD.nchk ?_ | (refine LD.one rfl ?_; (refine Gq8 H ?_; clear H; (try clear w); intro w H); all_goals (first | refine L.nil ⟨rfl, ?_⟩ | refine ⟨rfl, ?_⟩)))
      have H' := H.arr (rs' := var bC 31 [.int .i64 code] :: var bX 97 [.pointer (some ⟨bL, 0, none⟩)] :: logW bL bp (e) (h) (u) ps false :: dsk b dz :: R)
      refine D.ret (leaves1 (l := []) (m := [.pointer (some ⟨bC, 0, none⟩), .pointer (some ⟨bX, 0, none⟩)]) inferInstance rfl (Commit1_l H' (by exact hl)) ?_)
      rintro _ w' ⟨rfl, H2⟩
      exact ⟨_, rfl, _, resC1 0 H2 rfl rfl rfl, rfl, by rw [decide_eq_true h9] at H2; exact H2.tail.tail⟩
end
theorem numI_put (v size : Nat) : ∀ i, i ≤ size → numI (putN v size) i = v % 2 ^ (8 * i)
 | 0, _ => by simp [numI, Nat.mod_one]
 | i + 1, h => by
  have hg : (putN v size)[i]?.getD 0 = byteAt v i := by simp [putN, show i < size by omega]
  have hb : (byteAt v i).toNat = v / 2 ^ (8 * i) % 2 ^ 8 := by simp [byteAt, Nat.shiftRight_eq_div_pow]
  rw [numI, hg, numI_put v size i (by omega), hb, Nat.or_comm, ← Nat.shiftLeft_add_eq_or_of_lt (Nat.mod_lt _ (Nat.two_pow_pos _)), Nat.shiftLeft_eq, Nat.mul_add, Nat.pow_add, Nat.mul_one, Nat.mod_mul, Nat.add_comm, Nat.mul_comm (v / 2 ^ (8 * i) % 2 ^ 8)]
theorem numN_put (v size : Nat) : numN (putN v size) = v % 2 ^ (8 * size) := by
 unfold numN; rw [putN_len]; exact numI_put v size size (Nat.le_refl _)
theorem open_seal (c : List UInt8) : openL (sealL c) = (c, 0) := by
 have hl : (sealL c).length = c.length + 4 := by simp [sealL, putN_len]
 have ht : (sealL c).take ((sealL c).length - 4) = c := by rw [hl, Nat.add_sub_cancel, sealL, List.take_left]
 have hd : (sealL c).drop ((sealL c).length - 4) = putN (crcOn 0 c) 4 := by rw [hl, Nat.add_sub_cancel, sealL, List.drop_left]
 unfold openL
 rw [ht, hd, if_neg (by omega), if_pos (by rw [numN_put]; exact Nat.mod_eq_of_lt (on_lt (by decide) c))]
structure Fr0 (N : Nat) (d : DM) : Prop where
 off : d.off = false
 arm : d.armed = false
 len : d.secs.length = N
theorem lay_cur0 (p : List (Nat × List UInt8)) : ∀ (s : List (List UInt8)) (k : Nat), k < s.length → (layAll s p)[k]?.getD [] = p.foldl (fun c q => if q.1 = k then q.2 else c) (s[k]?.getD []) := by
 induction p with
 | nil => intro s k _; rfl
 | cons q p ih =>
  intro s k hk
  have e : layAll s (q :: p) = layAll (s.set q.1 q.2) p := rfl
  rw [e, ih _ k (by simpa using hk), List.foldl_cons]
  congr 1
  by_cases h : q.1 = k
  ·subst h; rw [if_pos rfl, List.getElem?_set_self hk]; rfl
  ·rw [if_neg h, List.getElem?_set_ne h]
theorem Fr0.flush {N : Nat} {d : DM} (h : Fr0 N d) : d.flush.2 = 0 ∧ Fr0 N d.flush.1 ∧ d.flush.1.pend = [] ∧ ∀ k, k < N → d.flush.1.cur k = d.cur k := by
 have e : d.flush = ({ d with secs := layAll d.secs d.pend, pend := [] }, 0) := by simp [DM.flush, powered_free h.off h.arm]
 rw [e]
 refine ⟨rfl, ⟨h.off, h.arm, by simp only [layAll_len]; exact h.len⟩, rfl, fun k hk => ?_⟩
 simp only [DM.cur, DM.sec, List.foldl_nil]
 exact lay_cur0 d.pend d.secs k (by rw [h.len]; exact hk)
theorem place_inN {f c n : Nat} (hn : n < c) (h : f + c ≤ 1000) : placeM (f : Int) (c : Int) (n : Int) = (((f + n : Nat) : Int), 0) := by
 unfold placeM
 rw [if_neg (by omega), if_neg (by omega)]
 simp
theorem Fr0.pwrite {N : Nat} {d : DM} (h : Fr0 N d) {f c n : Nat} {l : List UInt8} (hn : n < c) (hf : f + c ≤ N) (hN : N ≤ 1000) (hl : l.length = 64) : pwrite d ((f : Int), (c : Int)) (n : Int) l = (wr1 d (f + n) l, 0) := by
 unfold Go.Proofs.YtgilmcpdpggikaaGreatDoor.pwrite
 simp only
 rw [place_inN hn (by omega)]
 simp only [if_true]
 have hib : d.inB ((f + n : Nat) : Int) = true := by simp only [DM.inB, decide_eq_true_eq]; rw [h.len]; omega
 unfold DM.write
 rw [if_pos hib, if_pos hl, powered_free h.off h.arm, if_pos rfl, Int.toNat_natCast]
 rfl
theorem Fr0.wr1 {N : Nat} {d : DM} (h : Fr0 N d) (k : Nat) (l : List UInt8) : Fr0 N (Go.Proofs.YtgilmcpdpggikaaGreatDoor.wr1 d k l) := ⟨h.off, h.arm, h.len⟩
theorem Fr0.new {N : Nat} : Fr0 N (DM.new N) := ⟨rfl, rfl, by simp [DM.new]⟩
def okS : St → Bool
 | .w a b => decide (a < 52) && decide (b.length = 64)
 | .f => true
def effS (f : Nat) (l : List St) (c : Nat → List UInt8) : Nat → List UInt8 := l.foldl (fun c s => match s with | .w a b => fun k => if k = f + a then b else c k | .f => c) c
theorem effS_congr (f N : Nat) : ∀ (l : List St) {c c' : Nat → List UInt8}, (∀ k, k < N → c k = c' k) → ∀ k, k < N → effS f l c k = effS f l c' k
 | [], c, c', h, k, hk => h k hk
 | .w a b :: r, c, c', h, k, hk => effS_congr f N r (c := fun k => if k = f + a then b else c k) (c' := fun k => if k = f + a then b else c' k) (fun j hj => by rw [h j hj]) k hk
 | .f :: r, c, c', h, k, hk => effS_congr f N r h k hk
theorem wr1_curW (d : DM) (n : Nat) (b : List UInt8) (j : Nat) : (wr1 d n b).cur j = if j = n then b else d.cur j := by
 unfold wr1 DM.cur
 simp only [List.foldl_append, List.foldl_cons, List.foldl_nil]
 by_cases h : n = j
 ·subst h; simp
 ·rw [if_neg h, if_neg (fun e => h e.symm)]; rfl
theorem run_free {f : Nat} (hf : f + 52 ≤ 60) : ∀ (l : List St) {d : DM}, Fr0 60 d → l.all okS = true → (run ((f : Int), 52) l d).2 = 0 ∧ Fr0 60 (run ((f : Int), 52) l d).1 ∧ ∀ k, k < 60 → (run ((f : Int), 52) l d).1.cur k = effS f l d.cur k
 | [], d, h, _ => ⟨rfl, h, fun k _ => rfl⟩
 | .w a b :: r, d, h, hok => by
  rw [List.all_cons, Bool.and_eq_true] at hok
  obtain ⟨ho, hr⟩ := hok
  unfold okS at ho
  rw [Bool.and_eq_true, decide_eq_true_eq, decide_eq_true_eq] at ho
  have hw : pwrite d ((f : Int), 52) (a : Int) b = (wr1 d (f + a) b, 0) := h.pwrite (c := 52) ho.1 hf (by decide) ho.2
  rw [run_ok _ (by rw [hw]), hw]
  obtain ⟨h1, h2, h3⟩ := run_free hf r (h.wr1 (f + a) b) hr
  refine ⟨h1, h2, fun k hk => ?_⟩
  rw [h3 k hk]
  exact effS_congr f 60 r (fun j hj => wr1_curW d (f + a) b j) k hk
 | .f :: r, d, h, hok => by
  rw [List.all_cons, Bool.and_eq_true] at hok
  obtain ⟨hf1, hf2, hf3, hf4⟩ := h.flush
  rw [run_fok _ hf1]
  obtain ⟨h1, h2, h3⟩ := run_free hf r hf2 hok.2
  refine ⟨h1, h2, fun k hk => ?_⟩
  rw [h3 k hk]
  exact effS_congr f 60 r (fun j hj => hf4 j hj) k hk
theorem fmt_ok : formatSteps.all okS = true := by decide +kernel
def fmtD (f : Nat) : DM := (run ((f : Int), 52) formatSteps (DM.new 60)).1
theorem fmt_free {f : Nat} (hf : f + 52 ≤ 60) : (run ((f : Int), 52) formatSteps (DM.new 60)).2 = 0 ∧ Fr0 60 (fmtD f) := by
 obtain ⟨h1, h2, _⟩ := run_free hf formatSteps Fr0.new fmt_ok
 exact ⟨h1, h2⟩
deriving instance DecidableEq for WL
section
variable {P : Program} {n : Nat} {ops : Array Oper} {Q : Post} {rest : List Oper} {e : Env} {w : World} {tt : Nat} {pp : String} {af : Array Edge} {g : Option (Nat × Bool)} {d : Nat}
end
section
variable {s : Ro} {w : World} {R : List Asn}
end
end Go.Proofs.YtgilmcpdpggikaaGreatDoor

/- Squeezed copy of the texts Pn. -/
import Derived.Test.YtgilmcpdpggikaaGreatDoorQPk
set_option maxRecDepth 100000
set_option maxHeartbeats 1000000
set_option linter.unusedSimpArgs false
set_option linter.unusedVariables false
namespace Go.Proofs.YtgilmcpdpggikaaGreatDoor
open Go Go.RowKit Go.Own
open Go.ChangeShapes Go.WideShapes Go.ChangeAt
theorem find_T {t : TR} {p : Str} (hc : checkM t = true) : findTM t p = findM t p := by unfold findTM; rw [if_neg (by simp [hc])]
theorem open_code {t : TR} (hc : checkM t = true) {hs : List Hd} {p : Str} (h : (readM t p 0 80).2 ≠ 0) : (openF t hs p).2.2 = (readM t p 0 80).2 := by
 rw [read_code hc] at h ⊢
 unfold openF
 rw [find_T hc]
 unfold kindOfM at h ⊢
 split
 ·rename_i h1; rfl
 ·rename_i h1
  rw [if_neg h1] at h
  split
  ·rfl
  ·rename_i h2
   rw [if_neg h2] at h
   exact absurd rfl h
theorem free_some {hs : List Hd} : ∀ (f i k : Nat), freeH hs f i = some k → i ≤ k ∧ k < i + f
 | 0, i, k, h => by cases h
 | f + 1, i, k, h => by
  rw [freeH] at h
  split at h
  ·cases h; omega
  ·have := free_some f (i + 1) k h; omega
theorem open_ok {t : TR} (ht : t.Ok) (hc : checkM t = true) {hs : List Hd} (h4 : hs.length = 4) {p : Str} (h : (readM t p 0 80).2 = 0) : ((openF t hs p).2.2 = 5 ∧ (openF t hs p).1 = hs) ∨ ∃ k : Nat, ∃ nd : Int, k < 4 ∧ (openF t hs p).2 = ((k : Int), 0) ∧ hd (openF t hs p).1 k = ⟨true, nd, 0⟩ ∧ (openF t hs p).1.length = 4 ∧ (pathM t nd).1 = p := by
 obtain ⟨_, g, hf, hg, hk⟩ := read_ok h
 have hw := (check_wf ht).1 hc
 have hin : isInnerM p = true := by
  unfold isInnerM
  have hip : isPathM p = true := by
   unfold findM at hf
   cases hq : isPathM p with
   | true => rfl
   | false => rw [hq, if_neg (by decide)] at hf; cases hf
  rw [hip, Bool.and_true, decide_eq_true_eq]
  rintro rfl
  have h0 : findM t [47] = (0, 0) := by
   unfold findM
   rw [hip, if_pos rfl]
   rfl
  rw [h0] at hf
  have hg0 : g = 0 := by have := (Prod.mk.inj hf).1; omega
  subst hg0
  rw [(check_iff.1 hc).1] at hk
  exact absurd hk (by decide)
 have hpf := path_find hw hin hf
 have hft : findTM t p = ((g : Int), 0) := (find_T hc).trans hf
 unfold openF
 rw [hft]
 dsimp only
 rw [if_neg (by simp), Int.toNat_natCast, if_neg (by simp [hk])]
 cases hfr : freeH hs 4 0 with
 | none => exact .inl ⟨rfl, rfl⟩
 | some k =>
  obtain ⟨_, hk4⟩ := free_some 4 0 k hfr
  refine .inr ⟨k, (g : Int), by omega, rfl, ?_, by rw [List.length_set, h4], by rw [hpf]⟩
  unfold hd
  dsimp only
  rw [List.getElem?_set_self (by omega)]
  rfl
theorem readF_at {t : TR} (ht : t.Ok) {hs : List Hd} {k a : Nat} {n : Int} {nd : Int} {p : Str} (hk : k < 4) (h4 : hs.length = 4) (he : hd hs k = ⟨true, nd, (a : Int)⟩) (hp : (pathM t nd).1 = p) (h : (readM t p 0 80).2 = 0) : (0 ≤ n → readF t hs (k : Int) n = (hs.set k ⟨true, nd, ((a + (((readM t p 0 80).1.drop a).take n.toNat).length : Nat) : Int)⟩, ((readM t p 0 80).1.drop a).take n.toNat, 0)) ∧ (n < 0 → (readF t hs (k : Int) n).1 = hs ∧ (readF t hs (k : Int) n).2.1 = []) := by
 have ho : OpenH hs (k : Int) := ⟨by omega, by omega, by rw [Int.toNat_natCast, he]⟩
 unfold readF
 rw [if_pos ho, Int.toNat_natCast, he]
 have hn : nameT t ⟨true, nd, (a : Int)⟩ = p := hp
 rw [hn]
 dsimp only
 refine ⟨fun h0 => ?_, fun h0 => ?_⟩
 ·rw [read_at ht h0 h, if_neg (by simp)]
  dsimp only
  rw [Int.natCast_add]
 ·have := read_neg (t := t) (p := p) (a := (a : Int)) h0
  rw [if_pos this.2]
  exact ⟨rfl, rfl⟩
section
variable {n : Nat} {ops : Array Oper} {Q : Post} {rest : List Oper} {e : Env} {w : World} {s : Ro} {rs : List Asn} {tt : Nat} {pp : String} {af : Array Edge} {g : Option (Nat × Bool)} {d : Nat} {P : Program}
theorem K.mid {t el : TypeId} {x lo hi : Operand} {a : Option Addr} {m c sz by_ l h' : Nat} {zz : List Value} {k k' : IntKind} {il ih : Int} [E : ElC P t el sz by_ zz] (hw : wg n ops g e = true) (hd : Nat.blt d n = true) (hx : ev e x = .slice a m c) (hlo : ev e lo = .int k il) (hhi : ev e hi = .int k' ih) (hl : il = (l : Int)) (hh : ih = (h' : Int)) (h1 : l ≤ h') (h2 : h' ≤ c)
  (h : L P n ops Q rest (upd e d (.slice (subAddr a c l sz) (h' - l) (c - l))) w) : L P n ops Q (⟨some d, .slice t x (some lo) (some hi) none, tt, pp, af, g⟩ :: rest) e w := by
 obtain ⟨u, E', _⟩ := E.el
 obtain ⟨i, i1, i2, i3, i4⟩ := E'.info
 refine L.val (o := ⟨some d, .slice t x (some lo) (some hi) none, tt, pp, af, g⟩) _ w hw hd (run_v (sm := Instr.sliceAt t (ev e x) (some (ev e lo)) (some (ev e hi)) none) rfl ?_) h
 rw [hx, hlo, hhi]
 simp [Instr.sliceAt, run_underlying E'.slice, Instr.slice, Instr.sliceBounds, Go.Own.run_sliceBound hh h2, Go.Own.run_sliceBound hl h1, sizeOf, typeInfo, i1, i3, subAddr]
end
section
variable {w : World} {s : Ro} {R : List Asn}
theorem files_walk {l : List A18} {p : Str} {at_ n : Int} {va : Option Addr} {vc : Nat} (hN : Nib s) (H : Holds s w []) (hl : SlS s (.slice va l.length vc) 7 l.length (l.flatMap A18.cells)) (hok : ∀ a ∈ l, a.Ok s) (hn : I64 n) : Calls Tryz.prog 3 #[.agg #[.slice va l.length vc, .string ⟨p.toArray⟩, .int .i64 at_, .int .i64 n]] w fun e w' => e = .returned (.bool true) ∧ Fin s w' := by
 unfold I64 at hn
 refine enter Tryz.func3 rfl Tryz.ntmps3 rfl ?_
 (refine Gq7 H ?_; clear H; (try clear w); intro _ w H)
 refine C.drawn1 [0, 1, 0, 1, 0, 1, 0, 1, 0, 0, 0, 0] [0, 1, 0, 4, 0, 16, 0, 64, 3, 271, 831, 2047] (by kernel_rfl) ?_; replace H := H.drew
 refine Gq7 H ?_
 (refine X.call (played_w (most := 8) hN H hl hok) ?_; (try clear H); rintro _ w ⟨s1, b, bp, bF, bL, d, m, t, hs, rfl, hs1, hp, hPI, H⟩; refine ⟨_, rfl, ?_⟩)
 rw [show quotaM 8 = 8 from rfl] at H
 have ht := hPI.ok
 have hct := hPI.chk
 have hok2 := hPI.hok
 have h4 := hok2.1
 have hNs := hN.mono hs1
 refine Gq7 H ?_
 (refine X.call (Tree_f H ht h4) ?_; (try clear H); rintro _ w ⟨rfl, H⟩; refine ⟨_, rfl, ?_⟩)
 refine Gq7 H ?_
 have hR := read_t (p := p) (at_ := 0) (n := 80) H ht
 have hO := fun {w : World} {R : List Asn} (H : Holds s1 w (fsV bF bL t 8 hs :: R)) => Open_f (p := p) H ht h4
 by_cases hre : (readM t p 0 80).2 = 0
 rotate_left
 ·have hoc := open_code hct (hs := hs) hre
  generalize (readM t p 0 80).2 = code at *
  (refine X.call (hR) ?_; (try clear H); rintro _ w ⟨a1, c1, rfl, H⟩; refine ⟨_, rfl, ?_⟩)
  clear hR
  refine Gq7 H ?_
  replace H : Holds _ _ (fsV bF bL _ _ _ :: _) := tp H
  have hO2 := hO H
  rw [hoc] at hO2
  (refine X.call (hO2) ?_; (try clear H); rintro _ w ⟨rfl, H⟩; refine ⟨_, rfl, ?_⟩)
  clear hO2
  refine Gq7 H ?_
  (refine X.call (awake18 hNs H) ?_; (try clear H); rintro _ w ⟨s2, rfl, hs2, H⟩; refine ⟨_, rfl, ?_⟩)
  refine Gq7 H ?_
  exact ⟨_, resT rfl, rfl, H.done (hs1.trans hs2)⟩
 rw [hre] at hR
 have hlen : (readM t p 0 80).1.length ≤ 80 := by have := (read_len ht (p := p) (n := 80) (Int.le_refl 0) (by decide)).2; omega
 have hop := open_ok ht hct h4 hre
 have hfa := fun {hs : List Hd} {k a : Nat} {n : Int} {nd : Int} (hk : k < 4) (h4 : hs.length = 4) (he : hd hs k = ⟨true, nd, (a : Int)⟩) (hp : (pathM t nd).1 = p) => readF_at ht (n := n) hk h4 he hp hre
 generalize (readM t p 0 80).1 = want at *
 (refine X.call (hR) ?_; (try clear H); rintro _ w ⟨a1, c1, rfl, H⟩; refine ⟨_, rfl, ?_⟩)
 clear hR
 obtain ⟨s2, hs2, H', hW⟩ := H.fixRow
 clear H
 have H := H'
 clear H'
 replace hNs := hNs.mono hs2
 have hO2 := Open_f (p := p) H ht h4
 have hHO := hok2.open (t := t) (p := p)
 generalize openF t hs p = r at *
 obtain ⟨hs', kk, code⟩ := r
 dsimp only at hop hO2 hHO
 clear hO
 refine Gq7 H ?_
 (refine X.call (hO2) ?_; (try clear H); rintro _ w ⟨rfl, H⟩; refine ⟨_, rfl, ?_⟩)
 clear hO2
 rcases hop with ⟨rfl, rfl⟩ | ⟨k, nd, hk4, hkk, hhd, h4', hpn⟩
 ·refine Gq7 H ?_
  (refine X.call (awake18 hNs H) ?_; (try clear H); rintro _ w ⟨s3, rfl, hs3, H⟩; refine ⟨_, rfl, ?_⟩)
  refine Gq7 H ?_
  exact ⟨_, resT rfl, rfl, H.done ((hs1.trans hs2).trans hs3)⟩
 cases hkk
 have hoH : OpenH hs' (k : Int) := ⟨by omega, by omega, by rw [Int.toNat_natCast, hhd]⟩
 refine Gq7 H ?_
 have hSk := Seek_f (n := (k : Int)) (a := at_) H ht h4'
 by_cases hbad : at_ < 0 ∨ 80 < at_
 ·rw [show seekF hs' (k : Int) at_ = (hs', 1) by unfold seekF; rw [if_pos hoH, if_pos hbad]] at hSk
  (refine X.call (hSk) ?_; (try clear H); rintro _ w ⟨rfl, H⟩; refine ⟨_, rfl, ?_⟩)
  clear hSk
  rcases hbad with hbad | hbad
  ·refine Gq7 H ?_
   (refine X.call (awake18 hNs H) ?_; (try clear H); rintro _ w ⟨s3, rfl, hs3, H⟩; refine ⟨_, rfl, ?_⟩)
   refine Gq7 H ?_
   exact ⟨_, resT rfl, rfl, H.done ((hs1.trans hs2).trans hs3)⟩
  ·refine Gq7 H ?_
   (refine X.call (awake18 hNs H) ?_; (try clear H); rintro _ w ⟨s3, rfl, hs3, H⟩; refine ⟨_, rfl, ?_⟩)
   refine Gq7 H ?_
   exact ⟨_, resT rfl, rfl, H.done ((hs1.trans hs2).trans hs3)⟩
 obtain ⟨a, rfl⟩ : ∃ a : Nat, at_ = a := ⟨at_.toNat, by omega⟩
 have ha80 : a ≤ 80 := by omega
 have hHS := hHO.seek (n := (k : Int)) (a := (a : Int))
 rw [show seekF hs' (k : Int) (a : Int) = (hs'.set k ⟨true, nd, (a : Int)⟩, 0) by unfold seekF; rw [if_pos hoH, if_neg hbad, Int.toNat_natCast, hhd]] at hSk hHS
 have h5 : (hs'.set k ⟨true, nd, (a : Int)⟩).length = 4 := by rw [List.length_set, h4']
 have he5 : hd (hs'.set k ⟨true, nd, (a : Int)⟩) k = ⟨true, nd, (a : Int)⟩ := by
  unfold hd
  rw [List.getElem?_set_self (by omega)]; rfl
 (refine X.call (hSk) ?_; (try clear H); rintro _ w ⟨rfl, H⟩; refine ⟨_, rfl, ?_⟩)
 clear hSk
 dsimp only at hHS
 generalize hs'.set k ⟨true, nd, (a : Int)⟩ = hs5 at *
 refine Gq7 H ?_
 obtain ⟨f1, f2⟩ := hfa (n := n) hk4 h5 he5 hpn
 -- what is read first
 have hrd : ∃ (x : Str) (hs6 : List Hd), (readF t hs5 (k : Int) n).1 = hs6 ∧ (readF t hs5 (k : Int) n).2.1 = x ∧ x = (want.drop a).take n.toNat ∧ hs6.length = 4 ∧ hd hs6 k = ⟨true, nd, ((a + x.length : Nat) : Int)⟩ := by
  by_cases h0 : 0 ≤ n
  ·refine ⟨_, _, rfl, rfl, by rw [f1 h0], by rw [f1 h0, List.length_set, h5], ?_⟩
   rw [f1 h0]
   unfold hd
   dsimp only
   rw [List.getElem?_set_self (by omega)]; rfl
  ·obtain ⟨g1, g2⟩ := f2 (by omega)
   refine ⟨[], hs5, g1, g2, ?_, h5, he5⟩
   rw [show n.toNat = 0 by omega, List.take_zero]
 obtain ⟨x, hs6, r1, r2, rx, h6, he6⟩ := hrd
 have hR1 := Read_f (n := (k : Int)) (m := n) H ht hct hHS
 have hH6 := hHS.read ht (n := (k : Int)) (m := n)
 rw [r1] at hH6
 rw [r1, r2] at hR1
 generalize (readF t hs5 (k : Int) n).2.2 = cd1 at *
 clear f1 f2 r1 r2
 (refine X.call (hR1) ?_; (try clear H); rintro _ w ⟨a2, c2, rfl, H⟩; refine ⟨_, rfl, ?_⟩)
 clear hR1
 obtain ⟨s3, hs3, H', hX⟩ := H.fixRow
 clear H
 have H := H'
 clear H'
 replace hW := hW.mono hs3
 replace hNs := hNs.mono hs3
 refine Gq7 H ?_
 obtain ⟨f1, _⟩ := hfa (n := 80) hk4 h6 he6 hpn
 have hR2 := Read_f (n := (k : Int)) (m := 80) H ht hct hH6
 rw [f1 (by decide)] at hR2
 dsimp only at hR2
 have hy : (want.drop (a + x.length)).take (80 : Int).toNat = want.drop (a + x.length) := List.take_of_length_le (by rw [List.length_drop]; omega)
 rw [hy] at hR2
 have hyl : (want.drop (a + x.length)).length = want.length - (a + x.length) := List.length_drop
 generalize hyd : want.drop (a + x.length) = y at *
 (refine X.call (hR2) ?_; (try clear H); rintro _ w ⟨a3, c3, rfl, H⟩; refine ⟨_, rfl, ?_⟩)
 clear hR2
 obtain ⟨s4, hs4, H', hY⟩ := H.fixRow
 clear H
 have H := H'
 clear H'
 replace hW := hW.mono hs4
 replace hX := hX.mono hs4
 replace hNs := hNs.mono hs4
 have hxl : x.length = min n.toNat (want.length - a) := by rw [rx, List.length_take, List.length_drop]
 have hle := ((hs1.trans hs2).trans hs3).trans hs4
 have hcap : want.length ≤ c1 := by
  obtain ⟨_, _, hv, hc, _⟩ := formS hW
  cases hv
  exact hc
 by_cases hg : want.length < a
 ·have hx0 : x.length = 0 := by omega
  have hy0 : y.length = 0 := by omega
  refine Gq7 H ?_
  (refine X.call (awake18 hNs H) ?_; (try clear H); rintro _ w ⟨s5, rfl, hs5, H⟩; refine ⟨_, rfl, ?_⟩)
  refine Gq7 H ?_
  exact ⟨_, resT rfl, rfl, H.done (hle.trans hs5)⟩
 have hx2 : (want.drop a).take x.length = x := by
  have hL : (want.drop a).length = want.length - a := List.length_drop
  by_cases hb : n.toNat ≤ want.length - a
  ·rw [show x.length = n.toNat by omega]; exact rx.symm
  ·rw [List.take_of_length_le (by omega), rx, List.take_of_length_le (by omega)]
 have hM1 : SlS s4 (.slice (subAddr a1 c1 a 1) x.length (c1 - a)) 1 x.length (u8s x) := by
  have := sls_mid (n := a) (k := x.length) hW (by omega)
  rw [hx2] at this
  exact this
 have hM2 : SlS s4 (.slice (subAddr a1 c1 (a + x.length) 1) y.length (c1 - (a + x.length))) 1 y.length (u8s y) := by
  have := sls_mid (n := a + x.length) (k := y.length) hW (by omega)
  rw [hyd, List.take_of_length_le (Nat.le_refl _)] at this
  exact this
 repeat' (first | (refine X.ldF H ?_) | (refine X.stF H ?_; clear H; (try clear w); intro w H) | (refine X.ldFq H ?_) | (refine X.lenL ?_) | (refine X.lv H ?_) | (refine X.lp H ?_) | (refine X.ldT H ?_) | (refine X.stT H ?_; clear H; (try clear w); intro w H) | (refine K.build [] _ build_tree0 rfl rfl rfl ?_) | (refine X.eqL ?_ ?_ <;> intro hc <;> first | (exfalso; first | exact absurd hc (by assumption) | exact absurd (by assumption) hc) | skip) | ((fail_if_success (with_reducible show C _ _ _ (Code.seq (Code.seq (Code.region 17 _ _) _) _) _ _)); refine Z H ?_) | (refine Zc ?_ ?_ <;> intro hc <;> first | (exfalso; omega) | skip) | (refine Y ?_; try change C _ _ _ _ _ _) | (refine Zs H ?_; clear H; (try clear w); intro w H) | (refine Zn H ?_; clear H; (try clear w); intro _ w H) | (refine Ze H ?_; clear H; (try clear w); intro gv w H))
 refine C.cut [6, 104, 105] [6] rfl (fun vs w => vs = [.int .i64 (if n < 0 then 0 else n)] ∧ Holds s4 w (fsV bF bL t 8 (hs6.set k ⟨true, nd, ((a + x.length + y.length : Nat) : Int)⟩) :: [])) ?_ ?_
 ·replace H := H.arr (rs' := fsV bF bL t 8 (hs6.set k ⟨true, nd, ((a + x.length + y.length : Nat) : Int)⟩) :: [])
  by_cases h0 : n < 0
  ·rw [if_pos h0]
   refine Gq7 H ?_
   exact ⟨agr, rfl, H⟩
  ·rw [if_neg h0]
   refine Gq7 H ?_
   exact ⟨agr, rfl, H⟩
 clear H
 rintro vs hv w ⟨rfl, H⟩
 have hn1 : x.length = min (if n < 0 then 0 else n).toNat (want.length - a) ∧ 0 ≤ (if n < 0 then 0 else n) ∧ (if n < 0 then 0 else n) ≤ 9223372036854775807 := by
  split <;> omega
 generalize (if n < 0 then 0 else n) = n1 at *
 obtain ⟨hn1, hn2, hn3⟩ := hn1
 repeat' (first | (refine X.ldF H ?_) | (refine X.stF H ?_; clear H; (try clear w); intro w H) | (refine X.ldFq H ?_) | (refine X.lenL ?_) | (refine X.lv H ?_) | (refine X.lp H ?_) | (refine X.ldT H ?_) | (refine X.stT H ?_; clear H; (try clear w); intro w H) | (refine K.build [] _ build_tree0 rfl rfl rfl ?_) | (refine X.eqL ?_ ?_ <;> intro hc <;> first | (exfalso; first | exact absurd hc (by assumption) | exact absurd (by assumption) hc) | skip) | ((fail_if_success (with_reducible show C _ _ _ (Code.seq (Code.seq (Code.region 19 _ _) _) _) _ _)); refine Z H ?_) | (refine Zc ?_ ?_ <;> intro hc <;> first | (exfalso; omega) | skip) | (refine Y ?_; try change C _ _ _ _ _ _) | (refine Zs H ?_; clear H; (try clear w); intro w H) | (refine Zn H ?_; clear H; (try clear w); intro _ w H) | (refine Ze H ?_; clear H; (try clear w); intro gv w H))
 refine C.cut [6, 106, 107, 108, 109, 110, 111, 112, 113, 114, 115] [6] rfl (fun vs w => vs = [.int .i64 (x.length : Int)] ∧ Holds s4 w (fsV bF bL t 8 (hs6.set k ⟨true, nd, ((a + x.length + y.length : Nat) : Int)⟩) :: [])) ?_ ?_
 ·by_cases hb : n1 > (want.length : Int) - (a : Int)
  ·have hxe : (x.length : Int) = (want.length : Int) - (a : Int) := by omega
   rw [hxe]
   refine Gq7 H ?_
   exact ⟨agr, rfl, H⟩
  ·have hxe : (x.length : Int) = n1 := by omega
   rw [hxe]
   refine Gq7 H ?_
   exact ⟨agr, rfl, H⟩
 clear H
 rintro vs hv2 w ⟨rfl, H⟩
 refine Gq7 H ?_
 refine C.drawn1 [0, 1, 0, 0, 0, 0, 0, 0, 1, 0, 0, 0, 1, 0, 0, 0, 0, 0, 1, 0, 0, 0, 3, 0, 0] [0, 1, 0, 0, 0, 0, 48, 124, 252, 511, 1023, 2047, 4095, 2047, 2047, 2047, 51199, 124927, 255999, 524287, 1048575, 2097151, 4194303, 8388607, 16777215] (by kernel_rfl) ?_; replace H := H.drew
 repeat' (first | (refine K.mid (l := a) (h' := a + x.length) rfl rfl rfl rfl rfl rfl (by omega) (by omega) (by omega) ?_; rw [show a + x.length - a = x.length by omega]) | (refine K.from (l := a + x.length) rfl rfl rfl rfl (by omega) (by omega) ?_; rw [← hyl]) | (refine K.str H (.ro hX) rfl rfl rfl ?_) | (refine K.str H (.ro hY) rfl rfl rfl ?_) | (refine K.str H (.ro hM1) rfl rfl rfl ?_) | (refine K.str H (.ro hM2) rfl rfl rfl ?_) | (refine X.eqL ?_ ?_ <;> intro hc <;> first | exact absurd rfl hc | skip) | refine Go7 H ?_ | (refine Gs7 H ?_; clear H; (try clear w); intro w H) | (refine Gn H ?_; clear H; (try clear w); intro _ w H))
 (refine X.call (awake18 hNs H) ?_; (try clear H); rintro _ w ⟨s5, rfl, hs5, H⟩; refine ⟨_, rfl, ?_⟩)
 refine Gq7 H ?_
 exact ⟨_, resT rfl, rfl, H.done (hle.trans hs5)⟩
theorem files_rdg {w : World} {cs : List Value} (hN : Nib (startRo w)) (hsz : cs.length = Tryz.prog.cellsOf 24) (h : Rdg Tryz.prog w 24 cs) : Calls Tryz.prog 3 #[.agg cs.toArray] w fun e w' => e = .returned (.bool true) ∧ Only [] w w' := by
 have hl4 : cs.length = 4 := hsz.trans (by kernel_rfl)
 match cs, hl4 with
 | [c0, c1, c2, c3], _ =>
  have f0 : Rdg Tryz.prog w 22 [c0] := rdg_field Tryz.underlying24 h 0 22 0 1 rfl (by kernel_rfl)
  have f1 : Rdg Tryz.prog w 9 [c1] := rdg_field Tryz.underlying24 h 1 9 1 1 rfl (by kernel_rfl)
  have f2 : Rdg Tryz.prog w 3 [c2] := rdg_field Tryz.underlying24 h 2 3 2 1 rfl (by kernel_rfl)
  have f3 : Rdg Tryz.prog w 3 [c3] := rdg_field Tryz.underlying24 h 3 3 3 1 rfl (by kernel_rfl)
  obtain ⟨l, h1, h2⟩ := acts18_of f0
  obtain ⟨va, vc, hv, _⟩ := formS h1
  obtain ⟨s1, e1, w1⟩ := rdg_str Tryz.underlying9 f1
  obtain ⟨n2, e2, w2⟩ := rdg_int Tryz.underlying3 f2
  obtain ⟨n3, e3, w3⟩ := rdg_int Tryz.underlying3 f3
  cases hv; cases e1; cases e2; cases e3
  exact (files_walk hN (Holds.start w) h1 h2 (wf_i64 w3)).mono fun e w' h => ⟨h.1, h.2.only⟩
end
end Go.Proofs.YtgilmcpdpggikaaGreatDoor

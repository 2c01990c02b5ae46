/- Squeezed copy of the texts Tw8 Tw9. -/
import Derived.Test.YtgilmcpdpggikaaGreatDoorCTw7
set_option maxRecDepth 100000
set_option maxHeartbeats 1000000
set_option linter.unusedSimpArgs false
set_option linter.unusedVariables false
namespace Go.Proofs.YtgilmcpdpggikaaGreatDoor
open Go Go.RowKit Go.Own
theorem childFrom_range {t : TR} {d : Int} {nm : Str} : ∀ (f i : Nat), childFrom t d nm f i < 0 ∨ ∃ k : Nat, k < i + f ∧ i ≤ k ∧ childFrom t d nm f i = k ∧ (t.n k).kind ≠ 0 ∧ (t.n k).parent = d ∧ (t.n k).name = nm
 | 0, i => .inl (by unfold childFrom; decide)
 | f + 1, i => by
  unfold childFrom
  split
  ·rename_i h; exact .inr ⟨i, by omega, Nat.le_refl _, rfl, h.1, h.2.1, h.2.2⟩
  ·rcases childFrom_range f (i + 1) with h | ⟨k, h1, h2, h3⟩
   ·exact .inl h
   ·exact .inr ⟨k, by omega, by omega, h3⟩
theorem childM_range {t : TR} {d : Int} {nm : Str} : childM t d nm < 0 ∨ ∃ k : Nat, k < 8 ∧ 1 ≤ k ∧ childM t d nm = k ∧ (t.n k).kind ≠ 0 ∧ (t.n k).parent = d ∧ (t.n k).name = nm := by
 rcases childFrom_range (t := t) (d := d) (nm := nm) 7 1 with h | ⟨k, h1, h2, h3⟩
 ·exact .inl h
 ·exact .inr ⟨k, by omega, h2, h3⟩
theorem walk_app {t : TR} : ∀ {l m : List Str} {a k : Int}, walkM t l a = (k, 0) → walkM t (l ++ m) a = walkM t m k
 | [], m, a, k, h => by simp [walkM] at h; subst h; rfl
 | x :: l, m, a, k, h => by
  rw [List.cons_append]
  rw [walkM] at h ⊢
  split at h
  ·cases h
  ·rename_i h1
   rw [if_neg h1]
   split at h
   ·cases h
   ·rename_i h2
    rw [if_neg h2]
    exact walk_app h
theorem walk_err {t : TR} : ∀ {l m : List Str} {a : Int}, (walkM t l a).2 ≠ 0 → walkM t (l ++ m) a = walkM t l a
 | [], m, a, h => by simp [walkM] at h
 | x :: l, m, a, h => by
  rw [List.cons_append]
  rw [walkM] at h ⊢
  rw [walkM]
  split
  ·rfl
  ·rename_i h1
   rw [if_neg h1] at h
   split
   ·rfl
   ·rename_i h2
    rw [if_neg h2] at h
    exact walk_err h
def findL (b bl1 bl2 bl3 bl4 : Nat) (t : TR) (e k : Int) : VarL := [(b, 41, t.cells), (bl1, 96, [.pointer (some ⟨b, 0, none⟩)]), (bl2, 3, [.int .i64 0]), (bl3, 31, [.int .i64 e]), (bl4, 3, [.int .i64 k])]
theorem own_ex {α β : Type} {B : Nat} {I : β → α → World → Prop} (h : ∀ k, OwnFrom B (I k)) : OwnFrom B (fun x w => ∃ k, I k x w) := fun x A A' row ⟨k, hs⟩ hg hr => ⟨k, h k x A A' row hs hg hr⟩
section
variable {s : Ro} {w : World} {R : List Asn} {p : Str} {b : Nat} {t : TR}
theorem findL_at {bl1 bl2 bl3 bl4 : Nat} {e k : Int} (H : Holds s w ((findL b bl1 bl2 bl3 bl4 t e k).asn ++ R)) : (findL b bl1 bl2 bl3 bl4 t e k).at_ w := fun y hy => by
 simp only [findL, List.mem_cons, List.not_mem_nil, or_false] at hy
 rcases hy with rfl | rfl | rfl | rfl | rfl
 ·exact H.var (i := 0) rfl
 ·exact H.var (i := 1) rfl
 ·exact H.var (i := 2) rfl
 ·exact H.var (i := 3) rfl
 ·exact H.var (i := 4) rfl
theorem resCC1 {P : Program} {e : Env} {rs : List Asn} {fn : Func} {r ty r' ty' : Nat} [T : OneC P ty] [T' : OneC P ty'] (i j : Nat) {b b' t t' : Nat} {v v' : Value} (H : Holds s w rs) (h : fn.results = #[.cell r ty, .cell r' ty']) (hr : e r = .pointer (some ⟨b, 0, none⟩)) (hr' : e r' = .pointer (some ⟨b', 0, none⟩)) (hi : rs[i]? = some (var b t [v])) (hj : rs[j]? = some (var b' t' [v'])) : ResE P fn e w (.tuple #[v, v']) := fun a ha => by
 have k1 : a.tmps.getD r undef = .pointer (some ⟨b, 0, none⟩) := by rw [← hr, ← ha]; rfl
 have k2 : a.tmps.getD r' undef = .pointer (some ⟨b', 0, none⟩) := by rw [← hr', ← ha]; rfl
 rw [Array.getD_eq_getD_getElem?] at k1 k2
 have hc : w.cell? ⟨b, 0, none⟩ = some v := by rw [cell_of_row w b 0 _ _ _ (H.var hi)]; rfl
 have hc' : w.cell? ⟨b', 0, none⟩ = some v' := by rw [cell_of_row w b' 0 _ _ _ (H.var hj)]; rfl
 obtain ⟨d, hu, hd⟩ := T.desc
 obtain ⟨d', hu', hd'⟩ := T'.desc
 have hagg : (isAgg ty).run P w = .ok false w := by
  unfold isAgg
  rw [Sem.run_bind, run_underlying hu w]
  cases d <;> simp_all
 have hagg' : (isAgg ty').run P w = .ok false w := by
  unfold isAgg
  rw [Sem.run_bind, run_underlying hu' w]
  cases d' <;> simp_all
 simp [results, h, k1, k2, asAddr, loadVar, Sem.run_bind, hagg, hagg', hc, hc']
def findR (b bl1 bl2 bl3 bl4 : Nat) (t : TR) (r e k : Int) : VarL := [(b, 41, t.cells), (bl1, 96, [.pointer (some ⟨b, 0, none⟩)]), (bl2, 3, [.int .i64 r]), (bl3, 31, [.int .i64 e]), (bl4, 3, [.int .i64 k])]
theorem findR_at {bl1 bl2 bl3 bl4 : Nat} {r e k : Int} (H : Holds s w ((findR b bl1 bl2 bl3 bl4 t r e k).asn ++ R)) : (findR b bl1 bl2 bl3 bl4 t r e k).at_ w := fun y hy => by
 simp only [findR, List.mem_cons, List.not_mem_nil, or_false] at hy
 rcases hy with rfl | rfl | rfl | rfl | rfl
 ·exact H.var (i := 0) rfl
 ·exact H.var (i := 1) rfl
 ·exact H.var (i := 2) rfl
 ·exact H.var (i := 3) rfl
 ·exact H.var (i := 4) rfl
theorem find_k {w0 : World} (H : Holds (startRo w0) w []) (hT : w0.heap[b]? = some (.cells t.cells.toArray 41 (0, 0))) (ht : t.Ok) : Calls Tryz.prog 66 #[.pointer (some ⟨b, 0, none⟩), .string ⟨p.toArray⟩] w fun e w' => e = .returned (.tuple #[.int .i64 (findM t p).1, .int .i64 (findM t p).2]) ∧ Only [] w0 w' := by
 refine enterM (args := [.pointer (some ⟨b, 0, none⟩), .string ⟨p.toArray⟩]) 10 Tryz.func66 rfl Tryz.ntmps66 rfl ?_
 repeat' (first | refine D.block ?_ | refine LD.lenL ?_ | refine D.ret ?_ | refine D.seq ?_ | refine D.region ?_ | (refine LD.nil ?_; change D _ _ _ _ _ _ _) | (refine D.skip ?_; change D _ _ _ _ _ _ _) | refine D.tru ?_ | refine D.fls ?_ | refine LD.not ?_ | refine LD.len ?_ | refine LD.nchk ?_ | (refine LD.one rfl ?_; repeat' (first |  (refine X.lenL ?_) | (refine X.lv H ?_) | (refine X.lp H ?_) | (refine X.eqL ?_ ?_ <;> intro hc <;> first | (exfalso; first | exact absurd hc (by assumption) | exact absurd (by assumption) hc) | skip) | refine Z H ?_ | (refine Zc ?_ ?_ <;> intro hc <;> first | (exfalso; omega) | skip) | (refine Y ?_; try change C _ _ _ _ _ _) | (refine Zs H ?_; clear H; (try clear w); intro w H) | (refine Zn H ?_; clear H; (try clear w); (first | ((fail_if_success (have := bl1)); intro bl1 w H) | ((fail_if_success (have := bl2)); intro bl2 w H) | ((fail_if_success (have := bl3)); intro bl3 w H) | ((fail_if_success (have := bl4)); intro bl4 w H) | intro _ w H)) | (refine Ze H ?_; clear H; (try clear w); intro gv w H)); all_goals (first | refine L.nil ⟨rfl, ?_⟩ | refine ⟨rfl, ?_⟩)))
 have hP := isPath_s (p := p) H
 by_cases hp : isPathM p = true
 rotate_left
 ·rw [show isPathM p = false by simpa using hp] at hP
  refine LD.call hP ?_
  clear H
  rintro _ w ⟨rfl, H⟩
  refine ⟨_, rfl, ?_⟩
  repeat' (first | refine D.block ?_ | refine LD.lenL ?_ | refine D.ret ?_ | refine D.seq ?_ | refine D.region ?_ | (refine LD.nil ?_; change D _ _ _ _ _ _ _) | (refine D.skip ?_; change D _ _ _ _ _ _ _) | refine D.tru ?_ | refine D.fls ?_ | refine LD.not ?_ | refine LD.len ?_ | refine LD.nchk ?_ | (refine LD.one rfl ?_; repeat' (first |  (refine X.lenL ?_) | (refine X.lv H ?_) | (refine X.lp H ?_) | (refine X.eqL ?_ ?_ <;> intro hc <;> first | (exfalso; first | exact absurd hc (by assumption) | exact absurd (by assumption) hc) | skip) | refine Z H ?_ | (refine Zc ?_ ?_ <;> intro hc <;> first | (exfalso; omega) | skip) | (refine Y ?_; try change C _ _ _ _ _ _) | (refine Zs H ?_; clear H; (try clear w); intro w H) | (refine Zn H ?_; clear H; (try clear w); (first | ((fail_if_success (have := bl1)); intro bl1 w H) | ((fail_if_success (have := bl2)); intro bl2 w H) | ((fail_if_success (have := bl3)); intro bl3 w H) | ((fail_if_success (have := bl4)); intro bl4 w H) | intro _ w H)) | (refine Ze H ?_; clear H; (try clear w); intro gv w H)); all_goals (first | refine L.nil ⟨rfl, ?_⟩ | refine ⟨rfl, ?_⟩)))
  exact retM0 (resCC1 1 0 H rfl rfl rfl rfl rfl) ⟨by rw [findM, if_neg hp], Holds.fin (Ro.Le.refl _) H⟩
 rw [hp] at hP
 refine LD.call hP ?_
 clear H
 rintro _ w ⟨rfl, H⟩
 refine ⟨_, rfl, ?_⟩
 repeat' (first | refine D.block ?_ | refine LD.lenL ?_ | refine D.ret ?_ | refine D.seq ?_ | refine D.region ?_ | (refine LD.nil ?_; change D _ _ _ _ _ _ _) | (refine D.skip ?_; change D _ _ _ _ _ _ _) | refine D.tru ?_ | refine D.fls ?_ | refine LD.not ?_ | refine LD.len ?_ | refine LD.nchk ?_ | (refine LD.one rfl ?_; repeat' (first |  (refine X.lenL ?_) | (refine X.lv H ?_) | (refine X.lp H ?_) | (refine X.eqL ?_ ?_ <;> intro hc <;> first | (exfalso; first | exact absurd hc (by assumption) | exact absurd (by assumption) hc) | skip) | refine Z H ?_ | (refine Zc ?_ ?_ <;> intro hc <;> first | (exfalso; omega) | skip) | (refine Y ?_; try change C _ _ _ _ _ _) | (refine Zs H ?_; clear H; (try clear w); intro w H) | (refine Zn H ?_; clear H; (try clear w); (first | ((fail_if_success (have := bl1)); intro bl1 w H) | ((fail_if_success (have := bl2)); intro bl2 w H) | ((fail_if_success (have := bl3)); intro bl3 w H) | ((fail_if_success (have := bl4)); intro bl4 w H) | intro _ w H)) | (refine Ze H ?_; clear H; (try clear w); intro gv w H)); all_goals (first | refine L.nil ⟨rfl, ?_⟩ | refine ⟨rfl, ?_⟩)))
 refine LD.call (names_s (p := p) H) ?_
 clear H
 rintro _ w ⟨bn, rfl, H⟩
 refine ⟨_, rfl, ?_⟩
 replace H : Holds (startRo w0) w (var bn 9 [.string ⟨p.toArray⟩] :: var bl4 3 [.int .i64 0] :: var bl3 31 [.int .i64 0] :: var bl2 3 [.int .i64 0] :: var bl1 96 [.pointer (some ⟨b, 0, none⟩)] :: []) := H
 repeat' (first | refine D.block ?_ | refine LD.lenL ?_ | refine D.ret ?_ | refine D.seq ?_ | refine D.region ?_ | (refine LD.nil ?_; change D _ _ _ _ _ _ _) | (refine D.skip ?_; change D _ _ _ _ _ _ _) | refine D.tru ?_ | refine D.fls ?_ | refine LD.not ?_ | refine LD.len ?_ | refine LD.nchk ?_ | (refine LD.one rfl ?_; repeat' (first |  (refine X.lenL ?_) | (refine X.lv H ?_) | (refine X.lp H ?_) | (refine X.eqL ?_ ?_ <;> intro hc <;> first | (exfalso; first | exact absurd hc (by assumption) | exact absurd (by assumption) hc) | skip) | refine Z H ?_ | (refine Zc ?_ ?_ <;> intro hc <;> first | (exfalso; omega) | skip) | (refine Y ?_; try change C _ _ _ _ _ _) | (refine Zs H ?_; clear H; (try clear w); intro w H) | (refine Zn H ?_; clear H; (try clear w); (first | ((fail_if_success (have := bl1)); intro bl1 w H) | ((fail_if_success (have := bl2)); intro bl2 w H) | ((fail_if_success (have := bl3)); intro bl3 w H) | ((fail_if_success (have := bl4)); intro bl4 w H) | intro _ w H)) | (refine Ze H ?_; clear H; (try clear w); intro gv w H)); all_goals (first | refine L.nil ⟨rfl, ?_⟩ | refine ⟨rfl, ?_⟩)))
 have hb := H.var (i := 0) rfl
 have hV0 : (findL b bl1 bl2 bl3 bl4 t 0 0).at_ w := fun y hy => by
  simp only [findL, List.mem_cons, List.not_mem_nil, or_false] at hy
  rcases hy with rfl | rfl | rfl | rfl | rfl
  ·exact H.fits.mem b _ hT
  ·exact H.var (i := 4) rfl
  ·exact H.var (i := 3) rfl
  ·exact H.var (i := 2) rfl
  ·exact H.var (i := 1) rfl
 have hbl := lt_of_heap hT
 have n1 := H.newB (i := 4) rfl
 have n2 := H.newB (i := 3) rfl
 have n3 := H.newB (i := 2) rfl
 have n4 := H.newB (i := 1) rfl
 have l1 := lt_of_heap (H.var (i := 4) rfl)
 have l2 := lt_of_heap (H.var (i := 3) rfl)
 have l3 := lt_of_heap (H.var (i := 2) rfl)
 have l4 := lt_of_heap (H.var (i := 1) rfl)
 have d12 := H.apart (i := 4) (j := 3) rfl rfl (by decide)
 have d13 := H.apart (i := 4) (j := 2) rfl rfl (by decide)
 have d14 := H.apart (i := 4) (j := 1) rfl rfl (by decide)
 have d23 := H.apart (i := 3) (j := 2) rfl rfl (by decide)
 have d24 := H.apart (i := 3) (j := 1) rfl rfl (by decide)
 have d34 := H.apart (i := 2) (j := 1) rfl rfl (by decide)
 have hnd : [b, bl1, bl2, bl3, bl4].Nodup := by
  have e : ∀ x, w0.heap.size ≤ x → b ≠ x := fun x hx => by omega
  simp [e bl1 n1, e bl2 n2, e bl3 n3, e bl4 n4, d12, d13, d14, d23, d24, d34]
 have hin : ∀ k ∈ [b, bl1, bl2, bl3, bl4], k < w.heap.size := fun k hk => by
  have := lt_of_heap (H.fits.mem b _ hT)
  simp only [List.mem_cons, List.not_mem_nil, or_false] at hk
  rcases hk with rfl | rfl | rfl | rfl | rfl <;> assumption
 have ho := Holds.fin (Ro.Le.refl _) H
 have hpl : p.length ≤ 1000 ∧ (p = [47] ∨ p[0]? = some 47) := by
  by_cases hr : p = [47]
  ·subst hr; exact ⟨by simp, .inl rfl⟩
  ·by_cases hok : p ≠ [] ∧ p.length ≤ 72 ∧ p[0]? = some 47
   ·exact ⟨by omega, .inr hok.2.2⟩
   ·rw [isPath_odd hr hok] at hp; cases hp
 have hp0 : p[0]? = some 47 := by
  rcases hpl.2 with h | h
  ·rw [h]; rfl
  ·exact h
 have hfm : findM t p = walkM t (namesM p) 0 := if_pos hp
 clear H
 refine D.rangeF (m := 10) (α := Str) (fun x => .string ⟨x.toArray⟩) (gf := 122) (lb := #[.pointer (some ⟨bn, 0, none⟩)]) rfl (names1_k (m := 9) hp0 hpl.1 hb) (by omega)
  (fun pre W => ∃ k : Nat, (k < 8 ∧ walkM t pre 0 = ((k : Int), 0)) ∧ (findL b bl1 bl2 bl3 bl4 t 0 k).at_ W ∧ Only [] w0 W) (fun pre W => ∃ e k : Int, (walkM t pre 0 = (0, e) ∧ e ≠ 0) ∧ (findL b bl1 bl2 bl3 bl4 t e k).at_ W ∧ Only [] w0 W)
  (own_ex fun k => own_and own_pure (own_and (at_own _) (only_own ho.size))) (own_ex fun e => own_ex fun k => own_and own_pure (own_and (at_own _) (only_own ho.size))) ⟨0, ⟨by omega, rfl⟩, hV0, ho⟩
  (fun x e => upd (upd e 14 (.string ⟨x.toArray⟩)) 7 (.string ⟨x.toArray⟩)) rfl ?_ ?_ ?_ ?_
 ·intro l x W
  have H := Holds.start W
  repeat' (first | (refine CI.seq ?_) | (refine CI.region ?_) | (refine CI.block ?_) | (refine CI.tru ?_) | (refine CI.fls ?_) | (refine CI.ret ?_) | (refine CI.skip ?_; try change CI _ _ _ _ _ _ _ _) | (refine CI.exit ?_; try change CI _ _ _ _ _ _ _ _) | (refine J.nil ?_; try change CI _ _ _ _ _ _ _ _) | (refine L.nil ?_; try change CI _ _ _ _ _ _ _ _) | refine Go2 H ?_ | (refine Gs2 H ?_; clear H; (try clear w); intro w H) | (refine Gn H ?_; clear H; (try clear w); (first | ((fail_if_success (have := bl1)); intro bl1 w H) | ((fail_if_success (have := bl2)); intro bl2 w H) | ((fail_if_success (have := bl3)); intro bl3 w H) | ((fail_if_success (have := bl4)); intro bl4 w H) | intro _ w H)))
  exact ⟨rfl, rfl⟩
 ·rintro l pre x W ⟨k, ⟨hk8, hwk⟩, hV, ho1⟩
  have H : Holds (roBut W [b, bl1, bl2, bl3, bl4]) W (var b 41 t.cells :: var bl1 96 [.pointer (some ⟨b, 0, none⟩)] :: var bl2 3 [.int .i64 0] :: var bl3 31 [.int .i64 0] :: var bl4 3 [.int .i64 (k : Int)] :: []) := Holds.but (V := findL b bl1 bl2 bl3 bl4 t 0 k) hnd hV
  have hfin : ∀ (w1 : World) (e1 k1 : Int), Holds (roBut W [b, bl1, bl2, bl3, bl4]) w1 (var b 41 t.cells :: var bl1 96 [.pointer (some ⟨b, 0, none⟩)] :: var bl2 3 [.int .i64 0] :: var bl3 31 [.int .i64 e1] :: var bl4 3 [.int .i64 k1] :: []) → KeepsFrom w.heap.size W w1 ∧ (findL b bl1 bl2 bl3 bl4 t e1 k1).at_ w1 ∧ Only [] w0 w1 := fun w1 e1 k1 H1 => by
   have hV1 := findL_at (R := []) (b := b) (t := t) (bl1 := bl1) (bl2 := bl2) (bl3 := bl3) (bl4 := bl4) (e := e1) (k := k1) (by rw [List.append_nil]; exact H1)
   have ho2 := but_only (V := findL b bl1 bl2 bl3 bl4 t 0 k) (V' := findL b bl1 bl2 bl3 bl4 t e1 k1) (Ro.Le.refl _) H1 hV rfl hV1
   have hb1 : w1.heap[b]? = w0.heap[b]? := by rw [hT]; exact hV1 (b, 41, t.cells) (by simp [findL])
   refine ⟨keeps_of_only ho2 hin, hV1, ho2.os.trans ho1.os, ho2.tape.trans ho1.tape, ho2.output.trans ho1.output, Nat.le_trans ho1.size ho2.size, fun q hq _ => ?_⟩
   by_cases hqb : q = b
   ·subst hqb; exact hb1
   ·rw [ho2.block q (Nat.lt_of_lt_of_le hq ho1.size) (by
     show q ∉ [b, bl1, bl2, bl3, bl4]
     simp only [List.mem_cons, List.not_mem_nil, or_false]
     omega)]
    exact ho1.block q hq (by simp)
  have hkc := TR.cell0 ht hk8
  repeat' (first | (refine CI.seq ?_) | (refine CI.region ?_) | (refine CI.block ?_) | (refine CI.tru ?_) | (refine CI.fls ?_) | (refine CI.ret ?_) | (refine CI.skip ?_; try change CI _ _ _ _ _ _ _ _) | (refine CI.exit ?_; try change CI _ _ _ _ _ _ _ _) | (refine J.nil ?_; try change CI _ _ _ _ _ _ _ _) | (refine L.nil ?_; try change CI _ _ _ _ _ _ _ _) | refine Go2 H ?_ | (refine Gs2 H ?_; clear H; (try clear w); intro w H) | (refine Gn H ?_; clear H; (try clear w); (first | ((fail_if_success (have := bl1)); intro bl1 w H) | ((fail_if_success (have := bl2)); intro bl2 w H) | ((fail_if_success (have := bl3)); intro bl3 w H) | ((fail_if_success (have := bl4)); intro bl4 w H) | intro _ w H)))
  by_cases hkd : (t.n k).kind = 1
  rotate_left
  ·refine CI.drawn1 [1, 1, 0, 0, 0, 0, 1, 0] [0, 0, 1, 5, 15, 31, 63, 127] (by kernel_rfl) ?_
   replace H := H.drew
   repeat' (first | (refine K.iaA (i := k) rfl rfl rfl rfl rfl hk8 ?_) | (refine CI.seq ?_) | (refine CI.region ?_) | (refine CI.block ?_) | (refine CI.tru ?_) | (refine CI.fls ?_) | (refine CI.ret ?_) | (refine CI.skip ?_; try change CI _ _ _ _ _ _ _ _) | (refine CI.exit ?_; try change CI _ _ _ _ _ _ _ _) | (refine J.nil ?_; try change CI _ _ _ _ _ _ _ _) | (refine L.nil ?_; try change CI _ _ _ _ _ _ _ _) | refine Go2 H ?_ | (refine Gs2 H ?_; clear H; (try clear w); intro w H) | (refine Gn H ?_; clear H; (try clear w); (first | ((fail_if_success (have := bl1)); intro bl1 w H) | ((fail_if_success (have := bl2)); intro bl2 w H) | ((fail_if_success (have := bl3)); intro bl3 w H) | ((fail_if_success (have := bl4)); intro bl4 w H) | intro _ w H)))
   obtain ⟨h1, h2, h3⟩ := hfin _ _ _ H
   exact ⟨h1, _, _, ⟨by rw [walk_app hwk, walkM, if_pos (by rw [Int.toNat_natCast]; exact hkd)], by decide⟩, h2, h3⟩
  refine CI.drawn1 [1, 1, 0, 0, 0, 0, 1, 0] [0, 0, 1, 5, 15, 31, 63, 127] (by kernel_rfl) ?_
  replace H := H.drew
  repeat' (first | (refine K.iaA (i := k) rfl rfl rfl rfl rfl hk8 ?_) | (refine CI.seq ?_) | (refine CI.region ?_) | (refine CI.block ?_) | (refine CI.tru ?_) | (refine CI.fls ?_) | (refine CI.ret ?_) | (refine CI.skip ?_; try change CI _ _ _ _ _ _ _ _) | (refine CI.exit ?_; try change CI _ _ _ _ _ _ _ _) | (refine J.nil ?_; try change CI _ _ _ _ _ _ _ _) | (refine L.nil ?_; try change CI _ _ _ _ _ _ _ _) | refine Go2 H ?_ | (refine Gs2 H ?_; clear H; (try clear w); intro w H) | (refine Gn H ?_; clear H; (try clear w); (first | ((fail_if_success (have := bl1)); intro bl1 w H) | ((fail_if_success (have := bl2)); intro bl2 w H) | ((fail_if_success (have := bl3)); intro bl3 w H) | ((fail_if_success (have := bl4)); intro bl4 w H) | intro _ w H)))
  have hC := child_s (dir := (k : Int)) (nm := x) H ht
  have hstep : walkM t (pre ++ [x]) 0 = if childM t k x < 0 then (0, 6) else (childM t k x, 0) := by
   rw [walk_app hwk, walkM, if_neg (by rw [Int.toNat_natCast]; simpa using hkd)]
   rfl
  rcases childM_range (t := t) (d := (k : Int)) (nm := x) with hr | ⟨k1, hk1, _, hr, _⟩
  ·rw [if_pos hr] at hstep
   generalize childM t k x = r at *
   (refine X.call (hC) ?_; (try clear H); rintro _ w ⟨rfl, H⟩; refine ⟨_, rfl, ?_⟩)
   repeat' (first | (refine CI.seq ?_) | (refine CI.region ?_) | (refine CI.block ?_) | (refine CI.tru ?_) | (refine CI.fls ?_) | (refine CI.ret ?_) | (refine CI.skip ?_; try change CI _ _ _ _ _ _ _ _) | (refine CI.exit ?_; try change CI _ _ _ _ _ _ _ _) | (refine J.nil ?_; try change CI _ _ _ _ _ _ _ _) | (refine L.nil ?_; try change CI _ _ _ _ _ _ _ _) | refine Go2 H ?_ | (refine Gs2 H ?_; clear H; (try clear w); intro w H) | (refine Gn H ?_; clear H; (try clear w); (first | ((fail_if_success (have := bl1)); intro bl1 w H) | ((fail_if_success (have := bl2)); intro bl2 w H) | ((fail_if_success (have := bl3)); intro bl3 w H) | ((fail_if_success (have := bl4)); intro bl4 w H) | intro _ w H)))
   obtain ⟨h1, h2, h3⟩ := hfin _ _ _ H
   exact ⟨h1, _, _, ⟨hstep, by decide⟩, h2, h3⟩
  ·rw [hr] at hC
   rw [hr, if_neg (by omega)] at hstep
   (refine X.call (hC) ?_; (try clear H); rintro _ w ⟨rfl, H⟩; refine ⟨_, rfl, ?_⟩)
   repeat' (first | (refine CI.seq ?_) | (refine CI.region ?_) | (refine CI.block ?_) | (refine CI.tru ?_) | (refine CI.fls ?_) | (refine CI.ret ?_) | (refine CI.skip ?_; try change CI _ _ _ _ _ _ _ _) | (refine CI.exit ?_; try change CI _ _ _ _ _ _ _ _) | (refine J.nil ?_; try change CI _ _ _ _ _ _ _ _) | (refine L.nil ?_; try change CI _ _ _ _ _ _ _ _) | refine Go2 H ?_ | (refine Gs2 H ?_; clear H; (try clear w); intro w H) | (refine Gn H ?_; clear H; (try clear w); (first | ((fail_if_success (have := bl1)); intro bl1 w H) | ((fail_if_success (have := bl2)); intro bl2 w H) | ((fail_if_success (have := bl3)); intro bl3 w H) | ((fail_if_success (have := bl4)); intro bl4 w H) | intro _ w H)))
   obtain ⟨h1, h2, h3⟩ := hfin _ _ _ H
   exact ⟨h1, k1, ⟨hk1, hstep⟩, h2, h3⟩
 ·rintro dk xs W hD rfl ⟨k, ⟨hk8, hwk⟩, hV, ho1⟩ hK
  have hDl : dk ∉ [b, bl1, bl2, bl3, bl4] := fun h => by have := hin dk h; omega
  have H : Holds (roBut W [b, bl1, bl2, bl3, bl4]) W (var b 41 t.cells :: var bl1 96 [.pointer (some ⟨b, 0, none⟩)] :: var bl2 3 [.int .i64 0] :: var bl3 31 [.int .i64 0] :: var bl4 3 [.int .i64 (k : Int)] :: []) := Holds.but (V := findL b bl1 bl2 bl3 bl4 t 0 k) hnd hV
  have hfin : ∀ (w1 : World), Holds (roBut W [b, bl1, bl2, bl3, bl4]) w1 (var b 41 t.cells :: var bl1 96 [.pointer (some ⟨b, 0, none⟩)] :: var bl2 3 [.int .i64 (k : Int)] :: var bl3 31 [.int .i64 0] :: var bl4 3 [.int .i64 (k : Int)] :: []) → w1.heap[dk]? = some (.deferred (some [])) ∧ (findR b bl1 bl2 bl3 bl4 t k 0 k).at_ (w1.putObj dk (.deferred none)) ∧ Only [] w0 (w1.putObj dk (.deferred none)) := fun w1 H1 => by
   have hV1 := findR_at (R := []) (b := b) (t := t) (bl1 := bl1) (bl2 := bl2) (bl3 := bl3) (bl4 := bl4) (r := k) (e := 0) (k := k) (by rw [List.append_nil]; exact H1)
   have ho2 := but_only (V := findL b bl1 bl2 bl3 bl4 t 0 k) (V' := findR b bl1 bl2 bl3 bl4 t k 0 k) (Ro.Le.refl _) H1 hV rfl hV1
   have hb1 : w1.heap[b]? = w0.heap[b]? := by rw [hT]; exact hV1 (b, 41, t.cells) (by simp [findR])
   have ho3 : Only [] w0 w1 := ⟨ho2.os.trans ho1.os, ho2.tape.trans ho1.tape, ho2.output.trans ho1.output, Nat.le_trans ho1.size ho2.size, fun q hq _ => by
    by_cases hqb : q = b
    ·subst hqb; exact hb1
    ·rw [ho2.block q (Nat.lt_of_lt_of_le hq ho1.size) (by
      show q ∉ [b, bl1, bl2, bl3, bl4]
      simp only [List.mem_cons, List.not_mem_nil, or_false]
      omega)]
     exact ho1.block q hq (by simp)⟩
   refine ⟨but_block (Ro.Le.refl _) H1 hDl hK, fun y hy => ?_, ho3.trans' (only_putObj (b := dk)) (fun k hk => .inr (by rw [List.mem_singleton.1 hk]; have := ho.size; omega))⟩
   rw [World.putObj_heap_other (fun h => hDl (by
    rw [← h]
    exact List.mem_map.2 ⟨y, hy, rfl⟩))]
   exact hV1 y hy
  change D _ _ _ _ _ _ _
  repeat' (first | refine D.block ?_ | refine LD.lenL ?_ | refine D.ret ?_ | refine D.seq ?_ | refine D.region ?_ | (refine LD.nil ?_; change D _ _ _ _ _ _ _) | (refine D.skip ?_; change D _ _ _ _ _ _ _) | refine D.tru ?_ | refine D.fls ?_ | refine LD.not ?_ | refine LD.len ?_ | refine LD.nchk ?_ | (refine LD.one rfl ?_; repeat' (first |  (refine X.lenL ?_) | (refine X.lv H ?_) | (refine X.lp H ?_) | (refine X.eqL ?_ ?_ <;> intro hc <;> first | (exfalso; first | exact absurd hc (by assumption) | exact absurd (by assumption) hc) | skip) | refine Z H ?_ | (refine Zc ?_ ?_ <;> intro hc <;> first | (exfalso; omega) | skip) | (refine Y ?_; try change C _ _ _ _ _ _) | (refine Zs H ?_; clear H; (try clear w); intro w H) | (refine Zn H ?_; clear H; (try clear w); (first | ((fail_if_success (have := bl1)); intro bl1 w H) | ((fail_if_success (have := bl2)); intro bl2 w H) | ((fail_if_success (have := bl3)); intro bl3 w H) | ((fail_if_success (have := bl4)); intro bl4 w H) | intro _ w H)) | (refine Ze H ?_; clear H; (try clear w); intro gv w H)); all_goals (first | refine L.nil ⟨rfl, ?_⟩ | refine ⟨rfl, ?_⟩)))
  obtain ⟨h1, h2, h3⟩ := hfin _ H
  exact retM1 h1 (resCC1 2 3 (Holds.but (V := findR b bl1 bl2 bl3 bl4 t k 0 k) hnd h2) rfl rfl rfl rfl rfl) ⟨by rw [hfm, hwk], h3⟩
 ·rintro dk pre W hD hpre ⟨e, k, ⟨hwe, he⟩, hV, ho1⟩ hK
  have hDl : dk ∉ [b, bl1, bl2, bl3, bl4] := fun h => by have := hin dk h; omega
  have h2 : (findL b bl1 bl2 bl3 bl4 t e k).at_ (W.putObj dk (.deferred none)) := fun y hy => by
   rw [World.putObj_heap_other (fun h => hDl (by
    rw [← h]
    exact List.mem_map.2 ⟨y, hy, rfl⟩))]
   exact hV y hy
  obtain ⟨m, hm⟩ := hpre
  have hwe2 : walkM t (namesM p) 0 = (0, e) := by
   rw [← hm, walk_err (by rw [hwe]; exact he), hwe]
  exact retM1 hK (resCC1 2 3 (Holds.but (V := findL b bl1 bl2 bl3 bl4 t e k) hnd h2) rfl rfl rfl rfl rfl) ⟨by rw [hfm, hwe2], ho1.trans' (only_putObj (b := dk)) (fun k hk => .inr (by rw [List.mem_singleton.1 hk]; have := ho.size; omega))⟩
theorem find_s (H : Holds s w (var b 41 t.cells :: R)) (ht : t.Ok) : Calls Tryz.prog 66 #[.pointer (some ⟨b, 0, none⟩), .string ⟨p.toArray⟩] w fun e w' => e = .returned (.tuple #[.int .i64 (findM t p).1, .int .i64 (findM t p).2]) ∧ Holds s w' (var b 41 t.cells :: R) :=
 (find_k (Holds.start w) (H.var (i := 0) rfl) ht).mono fun e w' ⟨he, ho⟩ => ⟨he, H.only0 ho⟩
theorem walk_range : ∀ (l : List Str) (a : Nat), a < 8 → (walkM t l a).2 = 0 → ∃ k : Nat, k < 8 ∧ walkM t l a = ((k : Int), 0)
 | [], a, ha, _ => ⟨a, ha, rfl⟩
 | x :: l, a, ha, h => by
  rw [walkM] at h ⊢
  split at h
  ·cases h
  ·rename_i h1
   rw [if_neg h1]
   split at h
   ·cases h
   ·rename_i h2
    rw [if_neg h2]
    rcases childM_range (t := t) (d := (a : Int)) (nm := x) with hr | ⟨k, hk, _, hr, _⟩
    ·exact absurd hr h2
    ·rw [hr] at h ⊢
     exact walk_range l k hk h
theorem findM_range (h : (findM t p).2 = 0) : ∃ k : Nat, k < 8 ∧ findM t p = ((k : Int), 0) := by
 unfold findM at h ⊢
 split at h
 ·rename_i hp
  rw [if_pos hp]
  exact walk_range _ 0 (by omega) h
 ·cases h
theorem kindOf_s {k : Int} (H : Holds s w (var b 41 t.cells :: R)) (ht : t.Ok) : Calls Tryz.prog 38 #[.pointer (some ⟨b, 0, none⟩), .string ⟨p.toArray⟩, .int .i64 k] w fun e w' => e = .returned (.tuple #[.int .i64 (kindOfM t p k).1, .int .i64 (kindOfM t p k).2]) ∧ Holds s w' (var b 41 t.cells :: R) := by
 refine enter Tryz.func38 rfl Tryz.ntmps38 rfl ?_
 refine Gq2 H ?_
 have hF := find_s (p := p) H ht
 by_cases he : (findM t p).2 = 0
 ·obtain ⟨q, hq, hf⟩ := findM_range he
  have hkc := TR.cell0 ht hq
  rw [hf] at hF
  dsimp only at hF
  (refine X.call (hF) ?_; (try clear H); rintro _ w ⟨rfl, H⟩; refine ⟨_, rfl, ?_⟩)
  clear hF
  by_cases hk : (t.n q).kind = k
  ·repeat' (first | (refine K.iaA (i := q) rfl rfl rfl rfl rfl hq ?_) | refine Go2 H ?_ | (refine Gs2 H ?_; clear H; (try clear w); intro w H) | (refine Gn H ?_; clear H; (try clear w); intro _ w H))
   exact ⟨_, resTT rfl, by rw [kindOfM, hf]; simp only [Int.toNat_natCast]; rw [if_neg (by simp), if_neg (by simpa using hk)]; rfl, H⟩
  ·repeat' (first | (refine K.iaA (i := q) rfl rfl rfl rfl rfl hq ?_) | refine Go2 H ?_ | (refine Gs2 H ?_; clear H; (try clear w); intro w H) | (refine Gn H ?_; clear H; (try clear w); intro _ w H))
   exact ⟨_, resTT rfl, by rw [kindOfM, hf]; simp only [Int.toNat_natCast]; rw [if_neg (by simp), if_pos hk]; rfl, H⟩
 ·(refine X.call (hF) ?_; (try clear H); rintro _ w ⟨rfl, H⟩; refine ⟨_, rfl, ?_⟩)
  clear hF
  refine Gq2 H ?_
  exact ⟨_, resTT rfl, by rw [kindOfM, if_pos he]; rfl, H⟩
theorem kindOfM_range {k : Int} (h : (kindOfM t p k).2 = 0) : ∃ q : Nat, q < 8 ∧ kindOfM t p k = ((q : Int), 0) ∧ (t.n q).kind = k ∧ findM t p = ((q : Int), 0) := by
 unfold kindOfM at h ⊢
 split at h
 ·rename_i he; exact absurd h he
 ·rename_i he
  obtain ⟨q, hq, hf⟩ := findM_range (by simpa using he)
  rw [if_neg he]
  rw [hf] at h ⊢
  simp only [Int.toNat_natCast] at h ⊢
  split at h
  ·cases h
  ·rename_i hk
   rw [if_neg hk]
   exact ⟨q, hq, rfl, by simpa using hk, rfl⟩
theorem isInner_s (H : Holds s w R) : Calls Tryz.prog 68 #[.string ⟨p.toArray⟩] w fun e w' => e = .returned (.bool (isInnerM p)) ∧ Holds s w' R := by
 refine enter Tryz.func68 rfl Tryz.ntmps68 rfl ?_
 by_cases hp : p = [47]
 ·subst hp
  repeat' (first | (refine X.neL (a := [47]) (b := [47]) ?_ ?_ <;> intro hc <;> first | (exfalso; exact hc rfl) | skip) | refine Go2 H ?_ | (refine Gs2 H ?_; clear H; (try clear w); intro w H) | (refine Gn H ?_; clear H; (try clear w); intro _ w H))
  exact ⟨_, resT rfl, rfl, H⟩
 ·repeat' (first | (refine X.neL (a := p) (b := [47]) ?_ ?_ <;> intro hc <;> first | (exfalso; exact hp hc) | skip) | refine Go2 H ?_ | (refine Gs2 H ?_; clear H; (try clear w); intro w H) | (refine Gn H ?_; clear H; (try clear w); intro _ w H))
  (refine X.call (isPath_s (p := p) H) ?_; (try clear H); rintro _ w ⟨rfl, H⟩; refine ⟨_, rfl, ?_⟩)
  refine Gq2 H ?_
  exact ⟨_, resT rfl, by rw [isInnerM, decide_eq_true hp]; rfl, H⟩
end
instance (priority := high) zeroT : ZeroC Tryz.prog 41 TR.zero.cells := ⟨⟨.agg TR.zero.cells.toArray, by kernel_rfl, by kernel_rfl⟩⟩
theorem check_iff {t : TR} : checkM t = true ↔ t.n 0 = Nd.root ∧ (∀ i, i < 8 → 1 ≤ i → OkAt t i) ∧ blocksFitM t = true := by
 unfold checkM
 rw [Bool.and_eq_true, Bool.and_eq_true, decide_eq_true_eq, decide_eq_true_eq, and_assoc]
theorem fits_of {t : TR} (h : checkM t = true) {i : Nat} (hi : i < 8) (h1 : 1 ≤ i) (hk : (t.n i).kind ≠ 0) : Fits t i := by
 rcases (check_iff.1 h).2.1 i hi h1 with hz | hf
 ·rw [hz] at hk; exact absurd rfl hk
 ·exact hf.1
theorem rooted_of {t : TR} (h : checkM t = true) {i : Nat} (hi : i < 8) (hk : (t.n i).kind ≠ 0) : rootedM t i = true := by
 by_cases h0 : i = 0
 ·subst h0; rfl
 ·exact (fits_of h hi (by omega) hk).2.2.2.2.1
theorem rooted_step {t : TR} {f i : Nat} (h : rootedFrom t (f + 1) i = true) (h0 : i ≠ 0) : ∃ p : Nat, p < 8 ∧ (t.n i).parent = p ∧ rootedFrom t f p = true := by
 rw [rootedFrom, if_neg (by omega), Int.toNat_natCast] at h
 split at h
 ·cases h
 ·rename_i hp
  refine ⟨(t.n i).parent.toNat, by omega, by omega, ?_⟩
  rw [show (((t.n i).parent.toNat : Nat) : Int) = (t.n i).parent by omega]
  exact h
theorem rooted_zero {t : TR} {i : Nat} (h : rootedFrom t 0 i = true) : i = 0 := by
 have : (i : Int) = 0 := by simpa [rootedFrom] using h
 omega
section
variable {n : Nat} {ops : Array Oper} {Q : Post} {rest : List Oper} {e : Env} {w : World} {s : Ro} {rs R : List Asn} {tt : Nat} {pp : String} {af : Array Edge} {g : Option (Nat × Bool)} {d : Nat}
theorem X.ldT {x : Operand} {b : Nat} {ty : TypeId} {u : TR} {f : List Value → List Asn} (H : Holds s w rs) (h : L Tryz.prog n ops Q rest (upd e d (.agg u.cells.toArray)) w) (hw : wg n ops g e = true := by rfl) (hd : Nat.blt d n = true := by rfl) (hx : ev e x = .pointer (some ⟨b, 0, none⟩) := by rfl) (T : PutV rs b ty u.cells f := by infer_instance) (hu : u.Ok := by assumption) : L Tryz.prog n ops Q (⟨some d, .load 41 x, tt, pp, af, g⟩ :: rest) e w := X.lda (k := 368) H h hw hd hx T (TR.cells_len hu)
theorem X.stT {x y : Operand} {b : Nat} {ty : TypeId} {u v : TR} {f : List Value → List Asn} (H : Holds s w rs) (h : ∀ w', Holds s w' (f v.cells) → L Tryz.prog n ops Q rest e w') (hw : wg n ops g e = true := by rfl) (hx : ev e x = .pointer (some ⟨b, 0, none⟩) := by rfl) (V : PutV rs b ty u.cells f := by infer_instance) (hy : ev e y = .agg v.cells.toArray := by rfl) (hu : u.Ok := by assumption) (hv : v.Ok := by assumption) : L Tryz.prog n ops Q (⟨none, .store 41 x y, tt, pp, af, g⟩ :: rest) e w :=
 X.sta (k := 368) H h hw hx V hy (TR.cells_all hv) (TR.cells_len hv) (TR.cells_len hu)
theorem X.stN {ty : TypeId} {x y : Operand} [T : OneC Tryz.prog ty] {b off : Nat} {tp : TypeId} {t : TR} {f : List Value → List Asn} {v : Value} (i k : Nat) (z : Nd) (ht : t.Ok) (hi : i < 8) (hk : k < 6) (hz : z.cells = (t.n i).cells.set k v) (H : Holds s w rs) (h : ∀ w', Holds s w' (f (t.set i z).cells) → L Tryz.prog n ops Q rest e w') (ho : off = 0 + i * 6 + k := by rfl) (hw : wg n ops g e = true := by rfl) (hx : ev e x = .pointer (some ⟨b, off, none⟩) := by rfl) (V : PutV rs b tp t.cells f := by infer_instance) (hy : ev e y = v := by rfl) (h1 : v.oneCell' = true := by rfl) : L Tryz.prog n ops Q (⟨none, .store ty x y, tt, pp, af, g⟩ :: rest) e w := by
 obtain ⟨j, hj, hf⟩ := V.ix
 subst ho
 exact K.store j H hw hx hj hy h1 (by rw [Nat.blt_eq, TR.cells_len ht]; omega) (fun w' H' => h w' (by rw [hf, TR.put_cell ht hi hk v z hz] at H'; exact H'))
theorem X.stM {ty : TypeId} {x y : Operand} {k0 : Nat} [T : RowC Tryz.prog ty k0] {b off : Nat} {tp : TypeId} {t : TR} {f : List Value → List Asn} {ys : List Value} (i k : Nat) (z : Nd) (ht : t.Ok) (hi : i < 8) (hk : k + ys.length ≤ 6) (hz : z.cells = putL (t.n i).cells k ys) (hn : ys.length = k0) (h1 : ys.all Value.oneCell' = true) (H : Holds s w rs) (h : ∀ w', Holds s w' (f (t.set i z).cells) → L Tryz.prog n ops Q rest e w') (ho : off = 0 + i * 6 + k := by rfl) (hw : wg n ops g e = true := by rfl) (hx : ev e x = .pointer (some ⟨b, off, none⟩) := by rfl) (V : PutV rs b tp t.cells f := by infer_instance) (hy : ev e y = .agg ys.toArray := by rfl) : L Tryz.prog n ops Q (⟨none, .store ty x y, tt, pp, af, g⟩ :: rest) e w := by
 subst ho
 refine X.stp (ys := ys) (t.set i z).cells H h hw hx V hy ?_ h1 hn (by rw [Nat.ble_eq, TR.cells_len ht]; omega)
 rw [← TR.put_part ht hi ys hk z hz, putL, hn]
variable {p : Str} {b : Nat} {t : TR}
theorem Go4 {p q : Prop} {s : Ro} {w : World} {rs : List Asn} (H : Holds s w rs) (h : q) (g : Holds s w rs → Wq q → p := by intro H h; (first | (refine X.lenL ?_) | (refine X.lv H ?_) | (refine X.lp H ?_) | (refine X.ldT H ?_) | (refine K.build [] _ build_tree0 rfl rfl rfl ?_) | (refine X.eqL ?_ ?_ <;> intro hc <;> first | (exfalso; first | exact absurd hc (by assumption) | exact absurd (by assumption) hc) | skip) | refine Z H ?_ | (refine Zc ?_ ?_ <;> intro hc <;> first | (exfalso; omega) | skip) | (refine Y ?_; try change C _ _ _ _ _ _)) <;> exact h.out) : p := g H ⟨h⟩
theorem Gs4 {p q : Prop} {s : Ro} {w : World} {rs : List Asn} (H : Holds s w rs) (h : q) (g : Holds s w rs → Wq q → p := by intro H h; (first | (refine X.stT H ?_; clear H; (try clear w); intro w H) | (refine Zs H ?_; clear H; (try clear w); intro w H)) <;> (revert w; exact h.out)) : p := g H ⟨h⟩
theorem Gq4 {p q : Prop} {s : Ro} {w : World} {rs : List Asn} (H : Holds s w rs) (h : q) (g : Holds s w rs → Wq q → p := by intro H h; (repeat' (first | refine Go4 H ?_ | (refine Gs4 H ?_; clear H; (try clear w); intro w H) | (refine Gn H ?_; clear H; (try clear w); intro b w H))) <;> (first | exact h.out | (revert w; exact h.out) | (revert w; revert b; exact h.out))) : p := g H ⟨h⟩
theorem NewT_s (H : Holds s w R) : Calls Tryz.prog 56 #[] w fun e w' => e = .returned (.agg TR.new.cells.toArray) ∧ Holds s w' R := by
 have hz := TR.ok_zero
 have hnew := TR.ok_new
 refine enter Tryz.func56 rfl Tryz.ntmps56 rfl ?_
 repeat' (first | (refine K.iaA (i := 0) rfl rfl rfl rfl rfl (by decide) ?_) | (refine X.stN 0 0 Nd.root hz (by decide) (by decide) rfl H ?_; clear H; (try clear w); intro w H) | refine Go4 H ?_ | (refine Gs4 H ?_; clear H; (try clear w); intro w H) | (refine Gn H ?_; clear H; (try clear w); intro _ w H))
 exact ⟨_, resV (cs := TR.new.cells) H rfl rfl inferInstance (TR.cells_len hnew), rfl, H.tail.tail⟩
theorem Find_s (H : Holds s w R) (ht : t.Ok) : Calls Tryz.prog 39 #[.agg t.cells.toArray, .string ⟨p.toArray⟩] w fun e w' => e = .returned (.tuple #[.int .i64 (findTM t p).1, .int .i64 (findTM t p).2]) ∧ Holds s w' R := by
 refine enter Tryz.func39 rfl Tryz.ntmps39 rfl ?_
 (refine Gq4 H ?_; clear H; (try clear w); intro _ w H)
 have hC := Check_s H ht
 by_cases hc : checkM t = true
 ·rw [hc] at hC
  (refine X.call (hC) ?_; (try clear H); rintro _ w ⟨rfl, H⟩; refine ⟨_, rfl, ?_⟩)
  clear hC
  refine Gq4 H ?_
  (refine X.call (find_s (p := p) H ht) ?_; (try clear H); rintro _ w ⟨rfl, H⟩; refine ⟨_, rfl, ?_⟩)
  refine Gq4 H ?_
  exact ⟨_, resTT rfl, by rw [findTM, hc]; rfl, H.tail⟩
 ·rw [show checkM t = false by simpa using hc] at hC
  (refine X.call (hC) ?_; (try clear H); rintro _ w ⟨rfl, H⟩; refine ⟨_, rfl, ?_⟩)
  clear hC
  refine Gq4 H ?_
  exact ⟨_, resTT rfl, by rw [findTM, show checkM t = false by simpa using hc]; rfl, H.tail⟩
theorem Path_s {nd : Int} (H : Holds s w R) (ht : t.Ok) (hnm : ∀ i, i < 8 → (t.n i).name.length ≤ 1000000) : Calls Tryz.prog 67 #[.agg t.cells.toArray, .int .i64 nd] w fun e w' => e = .returned (.tuple #[.string ⟨(pathM t nd).1.toArray⟩, .int .i64 (pathM t nd).2]) ∧ Holds s w' R := by
 refine enter Tryz.func67 rfl Tryz.ntmps67 rfl ?_
 (refine Gq4 H ?_; clear H; (try clear w); intro _ w H)
 have hC := Check_s H ht
 by_cases hchk : checkM t = true
 rotate_left
 ·rw [show checkM t = false by simpa using hchk] at hC
  (refine X.call (hC) ?_; (try clear H); rintro _ w ⟨rfl, H⟩; refine ⟨_, rfl, ?_⟩)
  clear hC
  refine Gq4 H ?_
  exact ⟨_, resTT rfl, by rw [pathM, show checkM t = false by simpa using hchk]; rfl, H.tail⟩
 rw [hchk] at hC
 (refine X.call (hC) ?_; (try clear H); rintro _ w ⟨rfl, H⟩; refine ⟨_, rfl, ?_⟩)
 clear hC
 by_cases hr : nd < 0 ∨ 8 ≤ nd
 ·repeat' (first | (refine X.lenL ?_) | (refine X.lv H ?_) | (refine X.lp H ?_) | (refine X.ldT H ?_) | (refine X.stT H ?_; clear H; (try clear w); intro w H) | (refine K.build [] _ build_tree0 rfl rfl rfl ?_) | (refine X.eqL ?_ ?_ <;> intro hc <;> first | (exfalso; first | exact absurd hc (by assumption) | exact absurd (by assumption) hc) | skip) | refine Z H ?_ | (refine Zc ?_ ?_ <;> intro hc <;> first | (exfalso; omega) | skip) | (refine Y ?_; try change C _ _ _ _ _ _) | (refine Zs H ?_; clear H; (try clear w); intro w H) | (refine Zn H ?_; clear H; (try clear w); intro _ w H) | (refine Ze H ?_; clear H; (try clear w); intro gv w H))
  all_goals exact ⟨_, resTT rfl, by rw [pathM, hchk, if_neg (by simp), if_pos hr]; rfl, H.tail⟩
 obtain ⟨i, hi⟩ : ∃ i : Nat, nd = i := ⟨nd.toNat, by omega⟩
 subst hi
 have hi8 : i < 8 := by omega
 have hkc := TR.cell0 ht hi8
 by_cases hk : (t.n i).kind = 0
 ·repeat' (first | (refine K.iaA (i := i) rfl rfl rfl rfl rfl hi8 ?_) | refine Go4 H ?_ | (refine Gs4 H ?_; clear H; (try clear w); intro w H) | (refine Gn H ?_; clear H; (try clear w); intro _ w H))
  all_goals exact ⟨_, resTT rfl, by rw [pathM, hchk, if_neg (by simp), if_neg hr, Int.toNat_natCast, if_pos hk]; rfl, H.tail⟩
 by_cases h0 : i = 0
 ·subst h0
  repeat' (first | (refine K.iaA (i := 0) rfl rfl rfl rfl rfl hi8 ?_) | refine Go4 H ?_ | (refine Gs4 H ?_; clear H; (try clear w); intro w H) | (refine Gn H ?_; clear H; (try clear w); intro _ w H))
  all_goals exact ⟨_, resTT rfl, by rw [pathM, hchk, if_neg (by simp), if_neg hr, Int.toNat_natCast, if_neg hk]; rfl, H.tail⟩
 have hpm : pathM t i = (pathFrom t 8 i [], 0) := by rw [pathM, hchk, if_neg (by simp), if_neg hr, Int.toNat_natCast, if_neg hk, if_neg (by omega)]
 rw [hpm]
 repeat' (first | (refine K.iaA (i := i) rfl rfl rfl rfl rfl hi8 ?_) | refine Go4 H ?_ | (refine Gs4 H ?_; clear H; (try clear w); intro w H) | (refine Gn H ?_; clear H; (try clear w); intro _ w H))
 have hrt := rooted_of hchk hi8 hk
 refine C.loopH H [1, 6, 26, 27, 28, 29, 30, 31, 32, 33, 34, 35, 36, 37, 38, 39, 40] [1, 6] rfl (fun k vs => ∃ (i' : Nat) (u : Str), i' < 8 ∧ vs = [.int .i64 (i' : Int), .string ⟨u.toArray⟩] ∧ rootedFrom t k i' = true ∧ u.length ≤ (8 - k) * 1000001 ∧ k ≤ 8 ∧ pathFrom t k i' u = pathFrom t 8 i []) 8 ⟨i, [], hi8, rfl, hrt, by simp, by omega, rfl⟩ ?_
 clear H hkc hk h0 hpm hr hrt
 rintro k vs hv w ⟨i', u, hi', rfl, hrk, hul, hk8, hpf⟩ H
 by_cases h0 : i' = 0
 ·subst h0
  have hu : pathFrom t k (0 : Nat) u = u := by
   cases k with
   | zero => rfl
   | succ k => rw [pathFrom, if_pos (by simp)]
  rw [hu] at hpf
  refine Gq4 H ?_
  exact ⟨_, resTT rfl, by rw [← hpf]; rfl, H.tail⟩
 cases k with
 | zero => exact absurd (rooted_zero hrk) h0
 | succ k =>
  obtain ⟨q, hq, hqp, hrq⟩ := rooted_step hrk h0
  rw [pathFrom, if_neg (by omega), Int.toNat_natCast, hqp] at hpf
  have c1 := TR.cell ht hi' 1 _ rfl
  have c2 := TR.cell ht hi' 2 _ rfl
  have hl := hnm i' hi'
  have hul2 : u.length ≤ 8000008 := by
   have : (8 - (k + 1)) * 1000001 ≤ 8 * 1000001 := Nat.mul_le_mul_right _ (by omega)
   omega
  repeat' (first | (refine K.iaA (i := i') rfl rfl rfl rfl rfl hi' ?_) | (refine X.catL (a := [47]) (b := (t.n i').name) ?_ rfl rfl rfl rfl (by simp; omega)) | (refine X.catL (a := [47] ++ (t.n i').name) (b := u) ?_ rfl rfl rfl rfl (by simp; omega)) | refine Go4 H ?_ | (refine Gs4 H ?_; clear H; (try clear w); intro w H) | (refine Gn H ?_; clear H; (try clear w); intro _ w H))
  refine ⟨agr, k, by omega, ⟨q, [47] ++ (t.n i').name ++ u, hq, ?_, hrq, ?_, by omega, ?_⟩, H⟩
  ·show [Value.int .i64 (t.n i').parent, _] = _
   rw [hqp]
   rfl
  ·have : (8 - k) * 1000001 = (8 - (k + 1)) * 1000001 + 1000001 := by
    rw [show 8 - k = (8 - (k + 1)) + 1 by omega, Nat.add_mul]
   simp only [List.length_append, List.length_cons, List.length_nil]
   omega
  ·rw [← hpf]; rfl
end
end Go.Proofs.YtgilmcpdpggikaaGreatDoor

/- Regions that draw their order, in which two operations that make memory may come in either order: two walks. package tree, walked: Check. -/
import Derived.Test.YtlchnabnhimlcaaTlK3
import Derived.Test.YtlchnabnhimlcaaTlTw4
set_option linter.unusedSimpArgs false
set_option linter.unusedVariables false
namespace Go.Reg
open Go
section
variable {P : Program}
def ok7 (P : Program) (l : List Oper) (ks cls ns ks' cls' ns' ms : List Nat) (i0 j0 : Nat) : Bool :=
  decide (cls.length = l.length) && permB l.length ks && decide (cls'.length = l.length) && permB l.length ks' && decide (i0 < l.length) && decide (j0 < l.length) && decide (i0 ≠ j0) && lowB l.toArray && masksOk l.toArray ms && pairsX false l.toArray ms i0 j0 (ks.zip cls) && pairsX false l.toArray ms j0 i0 (ks'.zip cls') &&
  ((ks.zip cls).all fun x => (ks'.zip cls').contains x) && ((ks'.zip cls').all fun x => (ks.zip cls).contains x) &&
  ((ks.zip cls).all fun x => x.1 == i0 || x.1 == j0 || decide (x.2 ≤ 1) || (ms.getD x.1 0).testBit i0 || (ms.getD x.1 0).testBit j0) &&
  sOk4 P l.toArray ns cls (pick l.toArray ks) && sOk4 P l.toArray ns' cls' (pick l.toArray ks') && P.follows .mixedOrders
/-- MODE 7: two walks, in the orders ks and ks'. -/
theorem region7d {id : Nat} {l : List Oper} {Q : Exit → Act → World → Prop} {a : Act} {w : World} (ks cls ns ks' cls' ns' ms : List Nat) (i0 j0 : Nat) (hok : ok7 P l ks cls ns ks' cls' ns' ms i0 j0 = true)
    (h : seg4 P l.toArray (Q .normal) ns cls (pick l.toArray ks) a w.drew) (h' : seg4 P l.toArray (Q .normal) ns' cls' (pick l.toArray ks') a w.drew) : (Code.region id l.toArray true).wp P Q a w := by
  simp only [ok7, permB, Bool.and_eq_true, decide_eq_true_eq, List.all_eq_true, Nat.blt_eq] at hok
  obtain ⟨⟨⟨⟨⟨⟨⟨⟨⟨⟨⟨⟨⟨⟨⟨⟨c1, ⟨⟨p1, p2⟩, p3⟩, p4⟩, c1'⟩, ⟨⟨p1', p2'⟩, p3'⟩, p4'⟩, hi⟩, hj⟩, hne⟩, hlow⟩, hms⟩, hpA⟩, hpB⟩, hab⟩, hba⟩, hcl⟩, hsA⟩, hsB⟩, hmx⟩ := hok
  have hlt : ∀ k ∈ ks, k < l.toArray.size := fun k hk => by simpa using p2 k hk
  have hlt' : ∀ k ∈ ks', k < l.toArray.size := fun k hk => by simpa using p2' k hk
  obtain ⟨q1, q2, q3⟩ := pick_spec l.toArray ks cls hlt (by omega)
  obtain ⟨q1', q2', q3'⟩ := pick_spec l.toArray ks' cls' hlt' (by omega)
  have hsq := sq_segsP ns cls (pick l.toArray ks) ks a _ (by omega) q2 hsA h
  have hsq' := sq_segsP ns' cls' (pick l.toArray ks') ks' a _ (by omega) q2' hsB h'
  rw [q3] at hsq
  rw [q3'] at hsq'
  have hfst : (ks.zip cls).map Prod.fst = ks := List.map_fst_zip (by omega)
  have hfst' : (ks'.zip cls').map Prod.fst = ks' := List.map_fst_zip (by omega)
  have hall : ∀ i, i < l.length → i ∈ ks := fun i hi => by simpa using p4 i (List.mem_range.2 hi)
  have hsz : l.toArray.size = l.length := by simp
  rw [← hsz] at hall p1 c1 p1' c1' hi hj
  generalize l.toArray = ops at *
  refine wp_region_any hmx ?_
  refine any_of_sq2 likes_ext hlow hms i0 j0 hne ops.size (ks.zip cls) (ks'.zip cls') _ a _ (by simp; omega) (by simp; omega) (fun x => ⟨fun hx => by simpa using hab x hx, fun hx => by simpa using hba x hx⟩) ?_ (by simp) ?_ (by rw [hfst]; exact p3) (by rw [hfst']; exact p3') (by rw [hfst]; exact hall i0 hi) (by rw [hfst]; exact hall j0 hj) (fun x hx => ?_) (pairsX_pw hpA) (pairsX_pw hpB) hsq hsq'
  · intro j o _ hj
    exfalso
    rcases Nat.lt_or_ge j ops.size with h' | h'
    · simp [h'] at hj
    · simp [h'] at hj
  · intro i
    rw [hfst]
    rcases Nat.lt_or_ge i ops.size with h' | h'
    · simp [h', hall i h']
    · have : i ∉ ks := fun hi => by have := hlt i hi; omega
      simp [h', this]
  · have := hcl x hx
    simpa [or_assoc] using this
end
end Go.Reg
namespace Go.Own
open Go Go.RowKit
section
variable {P : Program} {n : Nat} {Q : Post} {e : Env} {w : World}
theorem C.drawn7 {id : Nat} {l : List Oper} (ks cls ns ks' cls' ns' ms : List Nat) (i0 j0 : Nat) (hok : Reg.ok7 P l ks cls ns ks' cls' ns' ms i0 j0 = true) (h : segN P n l.toArray (Q .normal) ns cls (Reg.pick l.toArray ks) e w.drew) (h' : segN P n l.toArray (Q .normal) ns' cls' (Reg.pick l.toArray ks') e w.drew) : C P n Q (.region id l.toArray true) e w :=
  ⟨fun a ha => Reg.region7d ks cls ns ks' cls' ns' ms i0 j0 hok (seg4_of ns cls _ e _ a ha h) (seg4_of ns' cls' _ e _ a ha h')⟩
end
end Go.Own
set_option linter.unusedSimpArgs false
set_option linter.unusedVariables false
namespace Go.Proofs.Ytlchnabnhimlcaa
open Go Go.RowKit Go.Own
/-- the places of nodes from 1 up to i -/
def keysTo (t : TR) (i : Nat) : List (Key × Int) := ((List.range' 1 (i - 1)).filter fun j => decide (t.n j ≠ Nd.zero)).map fun j => (((t.n j).parent, (t.n j).name), 1)
theorem keysTo_next {t : TR} {i : Nat} (h1 : 1 ≤ i) : keysTo t (i + 1) = if t.n i = Nd.zero then keysTo t i else keysTo t i ++ [(((t.n i).parent, (t.n i).name), 1)] := by
  unfold keysTo
  rw [show i + 1 - 1 = (i - 1) + 1 by omega, List.range'_concat, List.filter_append, List.map_append, show 1 + 1 * (i - 1) = i by omega]
  by_cases h : t.n i = Nd.zero
  · rw [if_pos h]; simp [h]
  · rw [if_neg h]; simp [h]
theorem keysTo_mem {t : TR} {i : Nat} {x : Key × Int} : x ∈ keysTo t i ↔ ∃ j, 1 ≤ j ∧ j < i ∧ t.n j ≠ Nd.zero ∧ x = (((t.n j).parent, (t.n j).name), 1) := by
  unfold keysTo
  simp only [List.mem_map, List.mem_filter, List.mem_range'_1, decide_eq_true_eq]
  constructor
  · rintro ⟨j, ⟨⟨h1, h2⟩, h3⟩, rfl⟩; exact ⟨j, h1, by omega, h3, rfl⟩
  · rintro ⟨j, h1, h2, h3, rfl⟩; exact ⟨j, ⟨⟨h1, by omega⟩, h3⟩, rfl⟩
theorem find_keys {t : TR} {i : Nat} : findFrom ((t.n i).parent, (t.n i).name) 0 (keysTo t i) = none ↔ Lone t i := by
  rw [findFrom_none]
  constructor
  · intro h j hj h1 hz hs
    exact h _ (keysTo_mem.2 ⟨j, h1, hj, hz, rfl⟩) (Prod.ext hs.1 hs.2)
  · intro h x hx
    obtain ⟨j, h1, hj, hz, rfl⟩ := keysTo_mem.1 hx
    intro he
    exact h j hj h1 hz ⟨congrArg Prod.fst he, congrArg Prod.snd he⟩
theorem find_keys1 {t : TR} {i j : Nat} {v : Value} {k : Key} (h : findFrom k 0 (keysTo t i) = some (j, v)) : v = .int .i64 1 ∧ j < (keysTo t i).length ∧ (keysTo t i)[j]? = some (k, 1) := by
  obtain ⟨q, c, h1, h2, h3⟩ := findFrom_some h
  rw [Nat.zero_add] at h1
  subst h1
  have hm := List.mem_of_getElem? h2
  obtain ⟨j', _, _, _, he⟩ := keysTo_mem.1 hm
  have hc : c = 1 := congrArg Prod.snd he
  subst hc
  exact ⟨h3, (List.getElem?_eq_some_iff.1 h2).1, h2⟩
theorem find_modify {k : Key} {c : Int} : ∀ {l : List (Key × Int)} {i j : Nat} {v : Value}, findFrom k i l = some (i + j, v) → findFrom k i (l.modify j fun x => (x.1, c)) = some (i + j, .int .i64 c)
  | [], i, j, v, h => by simp [findFrom] at h
  | x :: l, i, 0, v, h => by
    unfold findFrom at h
    split at h
    · rename_i hx
      rw [List.modify_zero_cons, findFrom, if_pos hx, Nat.add_zero]
    · obtain ⟨q, c', h1, _⟩ := findFrom_some h
      omega
  | x :: l, i, j + 1, v, h => by
    unfold findFrom at h
    split at h
    · cases h
    · rename_i hx
      rw [List.modify_succ_cons, findFrom, if_neg hx, show i + (j + 1) = (i + 1) + j by omega]
      rw [show i + (j + 1) = (i + 1) + j by omega] at h
      exact find_modify h
theorem find_app {k : Key} {c : Int} : ∀ {l : List (Key × Int)} {i : Nat}, findFrom k i l = none → findFrom k i (l ++ [(k, c)]) = some (i + l.length, .int .i64 c)
  | [], i, _ => by simp [findFrom]
  | x :: l, i, h => by
    unfold findFrom at h
    split at h
    · cases h
    · rename_i hx
      rw [List.cons_append, findFrom, if_neg hx, find_app h, List.length_cons, show i + 1 + l.length = i + (l.length + 1) by omega]
theorem modify_app {l : List (Key × Int)} {k : Key} {c : Int} : (l ++ [(k, 0)]).modify l.length (fun x => (x.1, c)) = l ++ [(k, c)] := by
  induction l with
  | nil => rfl
  | cons x l ih => rw [List.cons_append, List.length_cons, List.modify_succ_cons, ih]; rfl
section
variable {s : Ro} {w : World} {R : List Asn} {t : TR}
theorem cnt_none {l : List (Key × Int)} {k : Key} (h : findFrom k 0 l = none) : cntV l k = .int .i64 0 := by unfold cntV; rw [h]
theorem cnt_some {l : List (Key × Int)} {k : Key} {j : Nat} {v : Value} (h : findFrom k 0 l = some (j, v)) : cntV l k = v := by unfold cntV; rw [h]
set_option maxRecDepth 100000 in
set_option maxHeartbeats 1000000 in
theorem Check_s (H : Holds s w R) (ht : t.Ok) : Calls Try.prog 13 #[.agg t.cells.toArray] w fun e w' => e = .returned (.bool (checkM t)) ∧ Holds s w' R := by
  refine enter Try.func13 rfl Try.ntmps13 rfl ?_
  have h0 := TR.node ht (i := 0) (by omega)
  by_cases hroot : t.n 0 = Nd.root
  rotate_left
  · have hdn : decide (t.n 0 = Nd.root) = false := decide_eq_false hroot
    repeat' (first | (refine K.iaA (i := 0) rfl rfl rfl rfl rfl (by decide) ?_) | (refine K.build [(0, .int .i64 1)] _ build_root rfl rfl rfl ?_) | (refine X.neA (eq_node 9997 (t.n 0) Nd.root) guard_node ?_; rw [hdn]) | (refine X.lenL ?_) | (refine X.lv H ?_) | (refine X.lp H ?_) | (refine X.eqL ?_ ?_ <;> intro hc <;> first | (exfalso; first | exact absurd hc (by assumption) | exact absurd (by assumption) hc) | skip) | refine Z H ?_ | (refine Zc ?_ ?_ <;> intro hc <;> first | (exfalso; omega) | skip) | (refine Y ?_; try change C _ _ _ _ _ _) | (refine Zs H ?_; clear H; (try clear w); intro w H) | (refine Zn H ?_; clear H; (try clear w); (first | ((fail_if_success (have := bl1)); intro bl1 w H) | ((fail_if_success (have := bl2)); intro bl2 w H) | ((fail_if_success (have := bl3)); intro bl3 w H) | intro _ w H)) | (refine Ze H ?_; clear H; (try clear w); intro gv w H))
    exact ⟨_, resT rfl, by rw [checkM, hdn]; rfl, H.tail⟩
  have hdn : decide (t.n 0 = Nd.root) = true := decide_eq_true hroot
  repeat' (first | (refine K.iaA (i := 0) rfl rfl rfl rfl rfl (by decide) ?_) | (refine K.build [(0, .int .i64 1)] _ build_root rfl rfl rfl ?_) | (refine X.neA (eq_node 9997 (t.n 0) Nd.root) guard_node ?_; rw [hdn]) | (refine X.mmk H ?_; clear H; (try clear w); intro bm w H) | (refine X.lenL ?_) | (refine X.lv H ?_) | (refine X.lp H ?_) | (refine X.eqL ?_ ?_ <;> intro hc <;> first | (exfalso; first | exact absurd hc (by assumption) | exact absurd (by assumption) hc) | skip) | refine Z H ?_ | (refine Zc ?_ ?_ <;> intro hc <;> first | (exfalso; omega) | skip) | (refine Y ?_; try change C _ _ _ _ _ _) | (refine Zs H ?_; clear H; (try clear w); intro w H) | (refine Zn H ?_; clear H; (try clear w); (first | ((fail_if_success (have := bl1)); intro bl1 w H) | ((fail_if_success (have := bl2)); intro bl2 w H) | ((fail_if_success (have := bl3)); intro bl3 w H) | intro _ w H)) | (refine Ze H ?_; clear H; (try clear w); intro gv w H))
  refine C.loopS [2, 4, 5, 6, 13, 14, 15, 16, 17, 18, 19, 20, 21, 22, 23, 24, 25, 26, 27, 28, 29, 30, 31, 32, 33, 34, 35, 36, 37, 38, 39, 40, 41] [4] rfl (fun k vs w => ∃ i : Nat, k = 8 - i ∧ 1 ≤ i ∧ i ≤ 8 ∧ vs = [.int .i64 (i : Int)] ∧ (∀ j, 1 ≤ j → j < i → OkAt t j) ∧ Holds s w (mapA bm (keysTo t i) :: var bl1 34 t.cells :: R)) 7 ⟨1, rfl, by omega, by omega, rfl, fun j h1 h2 => by omega, H⟩ ?_
  clear H
  rintro k vs hv w ⟨i, rfl, hi1, hi, rfl, hok, H⟩
  by_cases hlt : i < 8
  rotate_left
  · obtain rfl : i = 8 := by omega
    have hall : decide (∀ i : Nat, i < 8 → 1 ≤ i → OkAt t i) = true := decide_eq_true (fun j h1 h2 => hok j h2 h1)
    repeat' (first | (refine X.lenL ?_) | (refine X.lv H ?_) | (refine X.lp H ?_) | (refine X.eqL ?_ ?_ <;> intro hc <;> first | (exfalso; first | exact absurd hc (by assumption) | exact absurd (by assumption) hc) | skip) | refine Z H ?_ | (refine Zc ?_ ?_ <;> intro hc <;> first | (exfalso; omega) | skip) | (refine Y ?_; try change C _ _ _ _ _ _) | (refine Zs H ?_; clear H; (try clear w); intro w H) | (refine Zn H ?_; clear H; (try clear w); (first | ((fail_if_success (have := bl1)); intro bl1 w H) | ((fail_if_success (have := bl2)); intro bl2 w H) | ((fail_if_success (have := bl3)); intro bl3 w H) | intro _ w H)) | (refine Ze H ?_; clear H; (try clear w); intro gv w H))
    first | (have hT : Holds _ _ (var bl1 _ _ :: _) := H; clear hT) | (replace H := H.up 1 rfl; (try simp only [List.set_cons_zero, List.set_cons_succ, List.eraseIdx_cons_zero, List.eraseIdx_cons_succ] at H); have hT : Holds _ _ (var bl1 _ _ :: _) := H; clear hT) | (replace H := H.up 2 rfl; (try simp only [List.set_cons_zero, List.set_cons_succ, List.eraseIdx_cons_zero, List.eraseIdx_cons_succ] at H); have hT : Holds _ _ (var bl1 _ _ :: _) := H; clear hT) | (replace H := H.up 3 rfl; (try simp only [List.set_cons_zero, List.set_cons_succ, List.eraseIdx_cons_zero, List.eraseIdx_cons_succ] at H); have hT : Holds _ _ (var bl1 _ _ :: _) := H; clear hT) | (replace H := H.up 4 rfl; (try simp only [List.set_cons_zero, List.set_cons_succ, List.eraseIdx_cons_zero, List.eraseIdx_cons_succ] at H); have hT : Holds _ _ (var bl1 _ _ :: _) := H; clear hT) | (replace H := H.up 5 rfl; (try simp only [List.set_cons_zero, List.set_cons_succ, List.eraseIdx_cons_zero, List.eraseIdx_cons_succ] at H); have hT : Holds _ _ (var bl1 _ _ :: _) := H; clear hT) | (replace H := H.up 6 rfl; (try simp only [List.set_cons_zero, List.set_cons_succ, List.eraseIdx_cons_zero, List.eraseIdx_cons_succ] at H); have hT : Holds _ _ (var bl1 _ _ :: _) := H; clear hT)
    (refine X.call (blocksFit_s H ht (fun j hj => by
      by_cases hj0 : j = 0
      · subst hj0; right; rw [hroot]; exact .inl ⟨rfl, rfl, rfl, rfl⟩
      · rcases hok j (by omega) hj with h | h
        · exact .inl h
        · exact .inr h.1.2.2.2.2.2)) ?_; (try clear H); rintro _ w ⟨rfl, H⟩; refine ⟨_, rfl, ?_⟩)
    repeat' (first | (refine X.lenL ?_) | (refine X.lv H ?_) | (refine X.lp H ?_) | (refine X.eqL ?_ ?_ <;> intro hc <;> first | (exfalso; first | exact absurd hc (by assumption) | exact absurd (by assumption) hc) | skip) | refine Z H ?_ | (refine Zc ?_ ?_ <;> intro hc <;> first | (exfalso; omega) | skip) | (refine Y ?_; try change C _ _ _ _ _ _) | (refine Zs H ?_; clear H; (try clear w); intro w H) | (refine Zn H ?_; clear H; (try clear w); (first | ((fail_if_success (have := bl1)); intro bl1 w H) | ((fail_if_success (have := bl2)); intro bl2 w H) | ((fail_if_success (have := bl3)); intro bl3 w H) | intro _ w H)) | (refine Ze H ?_; clear H; (try clear w); intro gv w H))
    exact ⟨_, resT rfl, by rw [checkM, hdn, hall]; rfl, (H.tail).tail⟩
  have hn := TR.node ht hlt
  have hbad : ∀ {x : Bool}, ¬ OkAt t i → checkM t = false := fun h => by
    rw [checkM, decide_eq_false (fun h2 : ∀ i : Nat, i < 8 → 1 ≤ i → OkAt t i => h (h2 i hlt hi1)), Bool.and_false, Bool.false_and]
  have hnext : OkAt t i → ∀ j, 1 ≤ j → j < i + 1 → OkAt t j := fun h j h1 h2 => by
    by_cases hj : j = i
    · subst hj; exact h
    · exact hok j h1 (by omega)
  have hkn := keysTo_next (t := t) hi1
  by_cases hz : t.n i = Nd.zero
  · have hzd : decide (t.n i = Nd.zero) = true := decide_eq_true hz
    rw [if_pos hz] at hkn
    repeat' (first | (refine K.iaA (i := i) rfl rfl rfl rfl rfl hlt ?_) | (refine K.build [] _ build_node0 rfl rfl rfl ?_) | (refine X.eqA (eq_node 9997 (t.n i) Nd.zero) guard_node ?_; rw [hzd]) | (refine X.lenL ?_) | (refine X.lv H ?_) | (refine X.lp H ?_) | (refine X.eqL ?_ ?_ <;> intro hc <;> first | (exfalso; first | exact absurd hc (by assumption) | exact absurd (by assumption) hc) | skip) | refine Z H ?_ | (refine Zc ?_ ?_ <;> intro hc <;> first | (exfalso; omega) | skip) | (refine Y ?_; try change C _ _ _ _ _ _) | (refine Zs H ?_; clear H; (try clear w); intro w H) | (refine Zn H ?_; clear H; (try clear w); (first | ((fail_if_success (have := bl1)); intro bl1 w H) | ((fail_if_success (have := bl2)); intro bl2 w H) | ((fail_if_success (have := bl3)); intro bl3 w H) | intro _ w H)) | (refine Ze H ?_; clear H; (try clear w); intro gv w H))
    exact ⟨by (repeat (first | exact Agr.refl | exact Agr.hav | refine Agr.upd rfl ?_ | refine Agr.in rfl ?_)), 8 - (i + 1), by omega, i + 1, rfl, by omega, by omega, rfl, hnext (.inl hz), by rw [hkn]; exact H.tail⟩
  have hzd : decide (t.n i = Nd.zero) = false := decide_eq_false hz
  rw [if_neg hz] at hkn
  repeat' (first | (refine K.iaA (i := i) rfl rfl rfl rfl rfl hlt ?_) | (refine K.build [] _ build_node0 rfl rfl rfl ?_) | (refine X.eqA (eq_node 9997 (t.n i) Nd.zero) guard_node ?_; rw [hzd]) | (refine X.lenL ?_) | (refine X.lv H ?_) | (refine X.lp H ?_) | (refine X.eqL ?_ ?_ <;> intro hc <;> first | (exfalso; first | exact absurd hc (by assumption) | exact absurd (by assumption) hc) | skip) | refine Z H ?_ | (refine Zc ?_ ?_ <;> intro hc <;> first | (exfalso; omega) | skip) | (refine Y ?_; try change C _ _ _ _ _ _) | (refine Zs H ?_; clear H; (try clear w); intro w H) | (refine Zn H ?_; clear H; (try clear w); (first | ((fail_if_success (have := bl1)); intro bl1 w H) | ((fail_if_success (have := bl2)); intro bl2 w H) | ((fail_if_success (have := bl3)); intro bl3 w H) | intro _ w H)) | (refine Ze H ?_; clear H; (try clear w); intro gv w H))
  first | (have hT : Holds _ _ (var bl1 _ _ :: _) := H; clear hT) | (replace H := H.up 1 rfl; (try simp only [List.set_cons_zero, List.set_cons_succ, List.eraseIdx_cons_zero, List.eraseIdx_cons_succ] at H); have hT : Holds _ _ (var bl1 _ _ :: _) := H; clear hT) | (replace H := H.up 2 rfl; (try simp only [List.set_cons_zero, List.set_cons_succ, List.eraseIdx_cons_zero, List.eraseIdx_cons_succ] at H); have hT : Holds _ _ (var bl1 _ _ :: _) := H; clear hT) | (replace H := H.up 3 rfl; (try simp only [List.set_cons_zero, List.set_cons_succ, List.eraseIdx_cons_zero, List.eraseIdx_cons_succ] at H); have hT : Holds _ _ (var bl1 _ _ :: _) := H; clear hT) | (replace H := H.up 4 rfl; (try simp only [List.set_cons_zero, List.set_cons_succ, List.eraseIdx_cons_zero, List.eraseIdx_cons_succ] at H); have hT : Holds _ _ (var bl1 _ _ :: _) := H; clear hT) | (replace H := H.up 5 rfl; (try simp only [List.set_cons_zero, List.set_cons_succ, List.eraseIdx_cons_zero, List.eraseIdx_cons_succ] at H); have hT : Holds _ _ (var bl1 _ _ :: _) := H; clear hT) | (replace H := H.up 6 rfl; (try simp only [List.set_cons_zero, List.set_cons_succ, List.eraseIdx_cons_zero, List.eraseIdx_cons_succ] at H); have hT : Holds _ _ (var bl1 _ _ :: _) := H; clear hT)
  have hF := nodeFits_s (i := i) H ht hlt
  by_cases hfit : Fits t i
  rotate_left
  · rw [decide_eq_false hfit] at hF
    (refine X.call (hF) ?_; (try clear H); rintro _ w ⟨rfl, H⟩; refine ⟨_, rfl, ?_⟩)
    clear hF
    repeat' (first | (refine X.lenL ?_) | (refine X.lv H ?_) | (refine X.lp H ?_) | (refine X.eqL ?_ ?_ <;> intro hc <;> first | (exfalso; first | exact absurd hc (by assumption) | exact absurd (by assumption) hc) | skip) | refine Z H ?_ | (refine Zc ?_ ?_ <;> intro hc <;> first | (exfalso; omega) | skip) | (refine Y ?_; try change C _ _ _ _ _ _) | (refine Zs H ?_; clear H; (try clear w); intro w H) | (refine Zn H ?_; clear H; (try clear w); (first | ((fail_if_success (have := bl1)); intro bl1 w H) | ((fail_if_success (have := bl2)); intro bl2 w H) | ((fail_if_success (have := bl3)); intro bl3 w H) | intro _ w H)) | (refine Ze H ?_; clear H; (try clear w); intro gv w H))
    exact ⟨_, resT rfl, by rw [hbad (x := true) (fun h => h.elim hz (fun h => hfit h.1))]; rfl, ((H.tail).tail).tail⟩
  rw [decide_eq_true hfit] at hF
  (refine X.call (hF) ?_; (try clear H); rintro _ w ⟨rfl, H⟩; refine ⟨_, rfl, ?_⟩)
  clear hF
  repeat' (first | (refine K.build [(0, .int .i64 _), (1, .string _)] _ (build_place _ _) rfl rfl rfl ?_) | (refine X.lenL ?_) | (refine X.lv H ?_) | (refine X.lp H ?_) | (refine X.eqL ?_ ?_ <;> intro hc <;> first | (exfalso; first | exact absurd hc (by assumption) | exact absurd (by assumption) hc) | skip) | refine Z H ?_ | (refine Zc ?_ ?_ <;> intro hc <;> first | (exfalso; omega) | skip) | (refine Y ?_; try change C _ _ _ _ _ _) | (refine Zs H ?_; clear H; (try clear w); intro w H) | (refine Zn H ?_; clear H; (try clear w); (first | ((fail_if_success (have := bl1)); intro bl1 w H) | ((fail_if_success (have := bl2)); intro bl2 w H) | ((fail_if_success (have := bl3)); intro bl3 w H) | intro _ w H)) | (refine Ze H ?_; clear H; (try clear w); intro gv w H))
  by_cases hl : Lone t i
  · have hf := find_keys.2 hl
    have hc0 := cnt_none hf
    have hf1 := find_app (c := 0) hf
    have hc1 := cnt_some hf1
    rw [Nat.zero_add] at hf1
    have hf2 := find_app (c := 1) hf
    have hc2 := cnt_some hf2
    have hHX : ∀ w, Holds s w (mapA bm ((keysTo t i ++ [(((t.n i).parent, (t.n i).name), 0)]).modify (keysTo t i).length fun x => (x.1, 1)) :: var bl3 89 [.int .i64 (t.n i).parent, .string ⟨(t.n i).name.toArray⟩] :: var bl1 34 t.cells :: var bl2 29 (t.n i).cells :: R) → Holds s w (mapA bm (keysTo t (i + 1)) :: var bl3 89 [.int .i64 (t.n i).parent, .string ⟨(t.n i).name.toArray⟩] :: var bl1 34 t.cells :: var bl2 29 (t.n i).cells :: R) := fun w H => by rw [hkn, ← modify_app]; exact H
    have H1 : Holds s w (mapA bm (keysTo t i) :: var bl3 89 [.int .i64 (t.n i).parent, .string ⟨(t.n i).name.toArray⟩] :: var bl1 34 t.cells :: var bl2 29 (t.n i).cells :: R) := H.up 3 rfl
    clear H
    have H := H1
    clear H1
    refine C.drawn7 [0, 1, 2, 3, 4, 5, 6] [0, 1, 3, 0, 3, 0, 3] [3, 2, 2] [0, 1, 4, 5, 2, 3, 6] [0, 1, 3, 0, 3, 0, 3] [3, 2, 2] [0, 0, 3, 7, 3, 19, 63] 2 4 (by kernel_rfl) ?_ ?_
    · replace H := H.drew; simp only [Reg.pick, List.filterMap_cons, List.filterMap_nil, List.getElem?_toArray, List.getElem?_cons_zero, List.getElem?_cons_succ, segN, List.take_succ_cons, List.take_zero, List.drop_succ_cons, List.drop_zero]
      repeat' (first | (refine X.lenL ?_) | (refine X.lv H ?_) | (refine X.lp H ?_) | (refine X.eqL ?_ ?_ <;> intro hc <;> first | (exfalso; first | exact absurd hc (by assumption) | exact absurd (by assumption) hc) | skip) | refine Z H ?_ | (refine Zc ?_ ?_ <;> intro hc <;> first | (exfalso; omega) | skip) | (refine Y ?_; try change C _ _ _ _ _ _) | (refine Zs H ?_; clear H; (try clear w); intro w H) | (refine Zn H ?_; clear H; (try clear w); (first | ((fail_if_success (have := bl1)); intro bl1 w H) | ((fail_if_success (have := bl2)); intro bl2 w H) | ((fail_if_success (have := bl3)); intro bl3 w H) | intro _ w H)) | (refine Ze H ?_; clear H; (try clear w); intro gv w H))
      refine X.mlk 0 ((t.n i).parent, (t.n i).name) H rfl ?_
      rw [hc0]
      refine L.nil ?_; refine ⟨rfl, rfl, (by first | exact fun h => Bool.noConfusion (show false = true from h) | exact fun _ => ext_same | exact fun _ => ext_only (by assumption)), ?_⟩
      repeat' (first | (refine X.lenL ?_) | (refine X.lv H ?_) | (refine X.lp H ?_) | (refine X.eqL ?_ ?_ <;> intro hc <;> first | (exfalso; first | exact absurd hc (by assumption) | exact absurd (by assumption) hc) | skip) | refine Z H ?_ | (refine Zc ?_ ?_ <;> intro hc <;> first | (exfalso; omega) | skip) | (refine Y ?_; try change C _ _ _ _ _ _) | (refine Zs H ?_; clear H; (try clear w); intro w H) | (refine Zn H ?_; clear H; (try clear w); (first | ((fail_if_success (have := bl1)); intro bl1 w H) | ((fail_if_success (have := bl2)); intro bl2 w H) | ((fail_if_success (have := bl3)); intro bl3 w H) | intro _ w H)) | (refine Ze H ?_; clear H; (try clear w); intro gv w H))
      refine X.mentN 0 ((t.n i).parent, (t.n i).name) hf H rfl ?_
      clear H
      intro w H
      refine L.nil ?_; refine ⟨rfl, rfl, (by first | exact fun h => Bool.noConfusion (show false = true from h) | exact fun _ => ext_same | exact fun _ => ext_only (by assumption)), ?_⟩
      repeat' (first | (refine X.lenL ?_) | (refine X.lv H ?_) | (refine X.lp H ?_) | (refine X.eqL ?_ ?_ <;> intro hc <;> first | (exfalso; first | exact absurd hc (by assumption) | exact absurd (by assumption) hc) | skip) | refine Z H ?_ | (refine Zc ?_ ?_ <;> intro hc <;> first | (exfalso; omega) | skip) | (refine Y ?_; try change C _ _ _ _ _ _) | (refine Zs H ?_; clear H; (try clear w); intro w H) | (refine Zn H ?_; clear H; (try clear w); (first | ((fail_if_success (have := bl1)); intro bl1 w H) | ((fail_if_success (have := bl2)); intro bl2 w H) | ((fail_if_success (have := bl3)); intro bl3 w H) | intro _ w H)) | (refine Ze H ?_; clear H; (try clear w); intro gv w H))
      refine X.mst (c := 1) 0 (keysTo t i).length H rfl (by simp) ?_
      clear H
      intro w H
      replace H := hHX _ H
      refine L.nil ?_; refine ⟨rfl, rfl, (by first | exact fun h => Bool.noConfusion (show false = true from h) | exact fun _ => ext_same | exact fun _ => ext_only (by assumption)), ?_⟩
      repeat' (first | (refine X.lenL ?_) | (refine X.lv H ?_) | (refine X.lp H ?_) | (refine X.eqL ?_ ?_ <;> intro hc <;> first | (exfalso; first | exact absurd hc (by assumption) | exact absurd (by assumption) hc) | skip) | refine Z H ?_ | (refine Zc ?_ ?_ <;> intro hc <;> first | (exfalso; omega) | skip) | (refine Y ?_; try change C _ _ _ _ _ _) | (refine Zs H ?_; clear H; (try clear w); intro w H) | (refine Zn H ?_; clear H; (try clear w); (first | ((fail_if_success (have := bl1)); intro bl1 w H) | ((fail_if_success (have := bl2)); intro bl2 w H) | ((fail_if_success (have := bl3)); intro bl3 w H) | intro _ w H)) | (refine Ze H ?_; clear H; (try clear w); intro gv w H))
      refine X.mlk 0 ((t.n i).parent, (t.n i).name) H rfl ?_
      rw [hkn, hc2]
      repeat' (first | (refine X.lenL ?_) | (refine X.lv H ?_) | (refine X.lp H ?_) | (refine X.eqL ?_ ?_ <;> intro hc <;> first | (exfalso; first | exact absurd hc (by assumption) | exact absurd (by assumption) hc) | skip) | refine Z H ?_ | (refine Zc ?_ ?_ <;> intro hc <;> first | (exfalso; omega) | skip) | (refine Y ?_; try change C _ _ _ _ _ _) | (refine Zs H ?_; clear H; (try clear w); intro w H) | (refine Zn H ?_; clear H; (try clear w); (first | ((fail_if_success (have := bl1)); intro bl1 w H) | ((fail_if_success (have := bl2)); intro bl2 w H) | ((fail_if_success (have := bl3)); intro bl3 w H) | intro _ w H)) | (refine Ze H ?_; clear H; (try clear w); intro gv w H))
      exact ⟨by (repeat (first | exact Agr.refl | exact Agr.hav | refine Agr.upd rfl ?_ | refine Agr.in rfl ?_)), 8 - (i + 1), by omega, i + 1, rfl, by omega, by omega, rfl, hnext (.inr ⟨hfit, hl⟩), ((H.up 1 rfl).tail.up 2 rfl).tail⟩
    · replace H := H.drew; simp only [Reg.pick, List.filterMap_cons, List.filterMap_nil, List.getElem?_toArray, List.getElem?_cons_zero, List.getElem?_cons_succ, segN, List.take_succ_cons, List.take_zero, List.drop_succ_cons, List.drop_zero]
      repeat' (first | (refine X.lenL ?_) | (refine X.lv H ?_) | (refine X.lp H ?_) | (refine X.eqL ?_ ?_ <;> intro hc <;> first | (exfalso; first | exact absurd hc (by assumption) | exact absurd (by assumption) hc) | skip) | refine Z H ?_ | (refine Zc ?_ ?_ <;> intro hc <;> first | (exfalso; omega) | skip) | (refine Y ?_; try change C _ _ _ _ _ _) | (refine Zs H ?_; clear H; (try clear w); intro w H) | (refine Zn H ?_; clear H; (try clear w); (first | ((fail_if_success (have := bl1)); intro bl1 w H) | ((fail_if_success (have := bl2)); intro bl2 w H) | ((fail_if_success (have := bl3)); intro bl3 w H) | intro _ w H)) | (refine Ze H ?_; clear H; (try clear w); intro gv w H))
      refine X.mentN 0 ((t.n i).parent, (t.n i).name) hf H rfl ?_
      clear H
      intro w H
      refine L.nil ?_; refine ⟨rfl, rfl, (by first | exact fun h => Bool.noConfusion (show false = true from h) | exact fun _ => ext_same | exact fun _ => ext_only (by assumption)), ?_⟩
      repeat' (first | (refine X.lenL ?_) | (refine X.lv H ?_) | (refine X.lp H ?_) | (refine X.eqL ?_ ?_ <;> intro hc <;> first | (exfalso; first | exact absurd hc (by assumption) | exact absurd (by assumption) hc) | skip) | refine Z H ?_ | (refine Zc ?_ ?_ <;> intro hc <;> first | (exfalso; omega) | skip) | (refine Y ?_; try change C _ _ _ _ _ _) | (refine Zs H ?_; clear H; (try clear w); intro w H) | (refine Zn H ?_; clear H; (try clear w); (first | ((fail_if_success (have := bl1)); intro bl1 w H) | ((fail_if_success (have := bl2)); intro bl2 w H) | ((fail_if_success (have := bl3)); intro bl3 w H) | intro _ w H)) | (refine Ze H ?_; clear H; (try clear w); intro gv w H))
      refine X.mlk 0 ((t.n i).parent, (t.n i).name) H rfl ?_
      rw [hc1]
      refine L.nil ?_; refine ⟨rfl, rfl, (by first | exact fun h => Bool.noConfusion (show false = true from h) | exact fun _ => ext_same | exact fun _ => ext_only (by assumption)), ?_⟩
      repeat' (first | (refine X.lenL ?_) | (refine X.lv H ?_) | (refine X.lp H ?_) | (refine X.eqL ?_ ?_ <;> intro hc <;> first | (exfalso; first | exact absurd hc (by assumption) | exact absurd (by assumption) hc) | skip) | refine Z H ?_ | (refine Zc ?_ ?_ <;> intro hc <;> first | (exfalso; omega) | skip) | (refine Y ?_; try change C _ _ _ _ _ _) | (refine Zs H ?_; clear H; (try clear w); intro w H) | (refine Zn H ?_; clear H; (try clear w); (first | ((fail_if_success (have := bl1)); intro bl1 w H) | ((fail_if_success (have := bl2)); intro bl2 w H) | ((fail_if_success (have := bl3)); intro bl3 w H) | intro _ w H)) | (refine Ze H ?_; clear H; (try clear w); intro gv w H))
      refine X.mst (c := 1) 0 (keysTo t i).length H rfl (by simp) ?_
      clear H
      intro w H
      replace H := hHX _ H
      refine L.nil ?_; refine ⟨rfl, rfl, (by first | exact fun h => Bool.noConfusion (show false = true from h) | exact fun _ => ext_same | exact fun _ => ext_only (by assumption)), ?_⟩
      repeat' (first | (refine X.lenL ?_) | (refine X.lv H ?_) | (refine X.lp H ?_) | (refine X.eqL ?_ ?_ <;> intro hc <;> first | (exfalso; first | exact absurd hc (by assumption) | exact absurd (by assumption) hc) | skip) | refine Z H ?_ | (refine Zc ?_ ?_ <;> intro hc <;> first | (exfalso; omega) | skip) | (refine Y ?_; try change C _ _ _ _ _ _) | (refine Zs H ?_; clear H; (try clear w); intro w H) | (refine Zn H ?_; clear H; (try clear w); (first | ((fail_if_success (have := bl1)); intro bl1 w H) | ((fail_if_success (have := bl2)); intro bl2 w H) | ((fail_if_success (have := bl3)); intro bl3 w H) | intro _ w H)) | (refine Ze H ?_; clear H; (try clear w); intro gv w H))
      refine X.mlk 0 ((t.n i).parent, (t.n i).name) H rfl ?_
      rw [hkn, hc2]
      repeat' (first | (refine X.lenL ?_) | (refine X.lv H ?_) | (refine X.lp H ?_) | (refine X.eqL ?_ ?_ <;> intro hc <;> first | (exfalso; first | exact absurd hc (by assumption) | exact absurd (by assumption) hc) | skip) | refine Z H ?_ | (refine Zc ?_ ?_ <;> intro hc <;> first | (exfalso; omega) | skip) | (refine Y ?_; try change C _ _ _ _ _ _) | (refine Zs H ?_; clear H; (try clear w); intro w H) | (refine Zn H ?_; clear H; (try clear w); (first | ((fail_if_success (have := bl1)); intro bl1 w H) | ((fail_if_success (have := bl2)); intro bl2 w H) | ((fail_if_success (have := bl3)); intro bl3 w H) | intro _ w H)) | (refine Ze H ?_; clear H; (try clear w); intro gv w H))
      exact ⟨by (repeat (first | exact Agr.refl | exact Agr.hav | refine Agr.upd rfl ?_ | refine Agr.in rfl ?_)), 8 - (i + 1), by omega, i + 1, rfl, by omega, by omega, rfl, hnext (.inr ⟨hfit, hl⟩), ((H.up 1 rfl).tail.up 2 rfl).tail⟩
  · obtain ⟨⟨j, v⟩, hf⟩ : ∃ p, findFrom ((t.n i).parent, (t.n i).name) 0 (keysTo t i) = some p := by
      cases hq : findFrom ((t.n i).parent, (t.n i).name) 0 (keysTo t i) with
      | none => exact absurd (find_keys.1 hq) hl
      | some p => exact ⟨p, rfl⟩
    obtain ⟨rfl, hjl, _⟩ := find_keys1 hf
    have hc0 := cnt_some hf
    have hf2 := find_modify (c := 2) (i := 0) (j := j) (by rw [Nat.zero_add]; exact hf)
    have hc2 := cnt_some hf2
    have H1 : Holds s w (mapA bm (keysTo t i) :: var bl3 89 [.int .i64 (t.n i).parent, .string ⟨(t.n i).name.toArray⟩] :: var bl1 34 t.cells :: var bl2 29 (t.n i).cells :: R) := H.up 3 rfl
    clear H
    have H := H1
    clear H1
    refine C.drawn7 [0, 1, 2, 3, 4, 5, 6] [0, 1, 3, 0, 3, 0, 3] [3, 2, 2] [0, 1, 4, 5, 2, 3, 6] [0, 1, 3, 0, 3, 0, 3] [3, 2, 2] [0, 0, 3, 7, 3, 19, 63] 2 4 (by kernel_rfl) ?_ ?_
    · replace H := H.drew; simp only [Reg.pick, List.filterMap_cons, List.filterMap_nil, List.getElem?_toArray, List.getElem?_cons_zero, List.getElem?_cons_succ, segN, List.take_succ_cons, List.take_zero, List.drop_succ_cons, List.drop_zero]
      repeat' (first | (refine X.lenL ?_) | (refine X.lv H ?_) | (refine X.lp H ?_) | (refine X.eqL ?_ ?_ <;> intro hc <;> first | (exfalso; first | exact absurd hc (by assumption) | exact absurd (by assumption) hc) | skip) | refine Z H ?_ | (refine Zc ?_ ?_ <;> intro hc <;> first | (exfalso; omega) | skip) | (refine Y ?_; try change C _ _ _ _ _ _) | (refine Zs H ?_; clear H; (try clear w); intro w H) | (refine Zn H ?_; clear H; (try clear w); (first | ((fail_if_success (have := bl1)); intro bl1 w H) | ((fail_if_success (have := bl2)); intro bl2 w H) | ((fail_if_success (have := bl3)); intro bl3 w H) | intro _ w H)) | (refine Ze H ?_; clear H; (try clear w); intro gv w H))
      refine X.mlk 0 ((t.n i).parent, (t.n i).name) H rfl ?_
      rw [hc0]
      refine L.nil ?_; refine ⟨rfl, rfl, (by first | exact fun h => Bool.noConfusion (show false = true from h) | exact fun _ => ext_same | exact fun _ => ext_only (by assumption)), ?_⟩
      repeat' (first | (refine X.lenL ?_) | (refine X.lv H ?_) | (refine X.lp H ?_) | (refine X.eqL ?_ ?_ <;> intro hc <;> first | (exfalso; first | exact absurd hc (by assumption) | exact absurd (by assumption) hc) | skip) | refine Z H ?_ | (refine Zc ?_ ?_ <;> intro hc <;> first | (exfalso; omega) | skip) | (refine Y ?_; try change C _ _ _ _ _ _) | (refine Zs H ?_; clear H; (try clear w); intro w H) | (refine Zn H ?_; clear H; (try clear w); (first | ((fail_if_success (have := bl1)); intro bl1 w H) | ((fail_if_success (have := bl2)); intro bl2 w H) | ((fail_if_success (have := bl3)); intro bl3 w H) | intro _ w H)) | (refine Ze H ?_; clear H; (try clear w); intro gv w H))
      refine X.mentT 0 ((t.n i).parent, (t.n i).name) hf H rfl ?_
      clear H
      intro w H
      refine L.nil ?_; refine ⟨rfl, rfl, (by first | exact fun h => Bool.noConfusion (show false = true from h) | exact fun _ => ext_same | exact fun _ => ext_only (by assumption)), ?_⟩
      repeat' (first | (refine X.lenL ?_) | (refine X.lv H ?_) | (refine X.lp H ?_) | (refine X.eqL ?_ ?_ <;> intro hc <;> first | (exfalso; first | exact absurd hc (by assumption) | exact absurd (by assumption) hc) | skip) | refine Z H ?_ | (refine Zc ?_ ?_ <;> intro hc <;> first | (exfalso; omega) | skip) | (refine Y ?_; try change C _ _ _ _ _ _) | (refine Zs H ?_; clear H; (try clear w); intro w H) | (refine Zn H ?_; clear H; (try clear w); (first | ((fail_if_success (have := bl1)); intro bl1 w H) | ((fail_if_success (have := bl2)); intro bl2 w H) | ((fail_if_success (have := bl3)); intro bl3 w H) | intro _ w H)) | (refine Ze H ?_; clear H; (try clear w); intro gv w H))
      refine X.mst (c := 2) 0 j H rfl hjl ?_
      clear H
      intro w H
      (try simp only [List.set_cons_zero, List.set_cons_succ, List.eraseIdx_cons_zero, List.eraseIdx_cons_succ] at H)
      refine L.nil ?_; refine ⟨rfl, rfl, (by first | exact fun h => Bool.noConfusion (show false = true from h) | exact fun _ => ext_same | exact fun _ => ext_only (by assumption)), ?_⟩
      repeat' (first | (refine X.lenL ?_) | (refine X.lv H ?_) | (refine X.lp H ?_) | (refine X.eqL ?_ ?_ <;> intro hc <;> first | (exfalso; first | exact absurd hc (by assumption) | exact absurd (by assumption) hc) | skip) | refine Z H ?_ | (refine Zc ?_ ?_ <;> intro hc <;> first | (exfalso; omega) | skip) | (refine Y ?_; try change C _ _ _ _ _ _) | (refine Zs H ?_; clear H; (try clear w); intro w H) | (refine Zn H ?_; clear H; (try clear w); (first | ((fail_if_success (have := bl1)); intro bl1 w H) | ((fail_if_success (have := bl2)); intro bl2 w H) | ((fail_if_success (have := bl3)); intro bl3 w H) | intro _ w H)) | (refine Ze H ?_; clear H; (try clear w); intro gv w H))
      refine X.mlk 0 ((t.n i).parent, (t.n i).name) H rfl ?_
      rw [hc2]
      repeat' (first | (refine X.lenL ?_) | (refine X.lv H ?_) | (refine X.lp H ?_) | (refine X.eqL ?_ ?_ <;> intro hc <;> first | (exfalso; first | exact absurd hc (by assumption) | exact absurd (by assumption) hc) | skip) | refine Z H ?_ | (refine Zc ?_ ?_ <;> intro hc <;> first | (exfalso; omega) | skip) | (refine Y ?_; try change C _ _ _ _ _ _) | (refine Zs H ?_; clear H; (try clear w); intro w H) | (refine Zn H ?_; clear H; (try clear w); (first | ((fail_if_success (have := bl1)); intro bl1 w H) | ((fail_if_success (have := bl2)); intro bl2 w H) | ((fail_if_success (have := bl3)); intro bl3 w H) | intro _ w H)) | (refine Ze H ?_; clear H; (try clear w); intro gv w H))
      exact ⟨_, resT rfl, by rw [hbad (x := true) (fun h => h.elim hz (fun h => hl h.2))]; rfl, (((H.tail).tail).tail).tail⟩
    · replace H := H.drew; simp only [Reg.pick, List.filterMap_cons, List.filterMap_nil, List.getElem?_toArray, List.getElem?_cons_zero, List.getElem?_cons_succ, segN, List.take_succ_cons, List.take_zero, List.drop_succ_cons, List.drop_zero]
      repeat' (first | (refine X.lenL ?_) | (refine X.lv H ?_) | (refine X.lp H ?_) | (refine X.eqL ?_ ?_ <;> intro hc <;> first | (exfalso; first | exact absurd hc (by assumption) | exact absurd (by assumption) hc) | skip) | refine Z H ?_ | (refine Zc ?_ ?_ <;> intro hc <;> first | (exfalso; omega) | skip) | (refine Y ?_; try change C _ _ _ _ _ _) | (refine Zs H ?_; clear H; (try clear w); intro w H) | (refine Zn H ?_; clear H; (try clear w); (first | ((fail_if_success (have := bl1)); intro bl1 w H) | ((fail_if_success (have := bl2)); intro bl2 w H) | ((fail_if_success (have := bl3)); intro bl3 w H) | intro _ w H)) | (refine Ze H ?_; clear H; (try clear w); intro gv w H))
      refine X.mentT 0 ((t.n i).parent, (t.n i).name) hf H rfl ?_
      clear H
      intro w H
      refine L.nil ?_; refine ⟨rfl, rfl, (by first | exact fun h => Bool.noConfusion (show false = true from h) | exact fun _ => ext_same | exact fun _ => ext_only (by assumption)), ?_⟩
      repeat' (first | (refine X.lenL ?_) | (refine X.lv H ?_) | (refine X.lp H ?_) | (refine X.eqL ?_ ?_ <;> intro hc <;> first | (exfalso; first | exact absurd hc (by assumption) | exact absurd (by assumption) hc) | skip) | refine Z H ?_ | (refine Zc ?_ ?_ <;> intro hc <;> first | (exfalso; omega) | skip) | (refine Y ?_; try change C _ _ _ _ _ _) | (refine Zs H ?_; clear H; (try clear w); intro w H) | (refine Zn H ?_; clear H; (try clear w); (first | ((fail_if_success (have := bl1)); intro bl1 w H) | ((fail_if_success (have := bl2)); intro bl2 w H) | ((fail_if_success (have := bl3)); intro bl3 w H) | intro _ w H)) | (refine Ze H ?_; clear H; (try clear w); intro gv w H))
      refine X.mlk 0 ((t.n i).parent, (t.n i).name) H rfl ?_
      rw [hc0]
      refine L.nil ?_; refine ⟨rfl, rfl, (by first | exact fun h => Bool.noConfusion (show false = true from h) | exact fun _ => ext_same | exact fun _ => ext_only (by assumption)), ?_⟩
      repeat' (first | (refine X.lenL ?_) | (refine X.lv H ?_) | (refine X.lp H ?_) | (refine X.eqL ?_ ?_ <;> intro hc <;> first | (exfalso; first | exact absurd hc (by assumption) | exact absurd (by assumption) hc) | skip) | refine Z H ?_ | (refine Zc ?_ ?_ <;> intro hc <;> first | (exfalso; omega) | skip) | (refine Y ?_; try change C _ _ _ _ _ _) | (refine Zs H ?_; clear H; (try clear w); intro w H) | (refine Zn H ?_; clear H; (try clear w); (first | ((fail_if_success (have := bl1)); intro bl1 w H) | ((fail_if_success (have := bl2)); intro bl2 w H) | ((fail_if_success (have := bl3)); intro bl3 w H) | intro _ w H)) | (refine Ze H ?_; clear H; (try clear w); intro gv w H))
      refine X.mst (c := 2) 0 j H rfl hjl ?_
      clear H
      intro w H
      (try simp only [List.set_cons_zero, List.set_cons_succ, List.eraseIdx_cons_zero, List.eraseIdx_cons_succ] at H)
      refine L.nil ?_; refine ⟨rfl, rfl, (by first | exact fun h => Bool.noConfusion (show false = true from h) | exact fun _ => ext_same | exact fun _ => ext_only (by assumption)), ?_⟩
      repeat' (first | (refine X.lenL ?_) | (refine X.lv H ?_) | (refine X.lp H ?_) | (refine X.eqL ?_ ?_ <;> intro hc <;> first | (exfalso; first | exact absurd hc (by assumption) | exact absurd (by assumption) hc) | skip) | refine Z H ?_ | (refine Zc ?_ ?_ <;> intro hc <;> first | (exfalso; omega) | skip) | (refine Y ?_; try change C _ _ _ _ _ _) | (refine Zs H ?_; clear H; (try clear w); intro w H) | (refine Zn H ?_; clear H; (try clear w); (first | ((fail_if_success (have := bl1)); intro bl1 w H) | ((fail_if_success (have := bl2)); intro bl2 w H) | ((fail_if_success (have := bl3)); intro bl3 w H) | intro _ w H)) | (refine Ze H ?_; clear H; (try clear w); intro gv w H))
      refine X.mlk 0 ((t.n i).parent, (t.n i).name) H rfl ?_
      rw [hc2]
      repeat' (first | (refine X.lenL ?_) | (refine X.lv H ?_) | (refine X.lp H ?_) | (refine X.eqL ?_ ?_ <;> intro hc <;> first | (exfalso; first | exact absurd hc (by assumption) | exact absurd (by assumption) hc) | skip) | refine Z H ?_ | (refine Zc ?_ ?_ <;> intro hc <;> first | (exfalso; omega) | skip) | (refine Y ?_; try change C _ _ _ _ _ _) | (refine Zs H ?_; clear H; (try clear w); intro w H) | (refine Zn H ?_; clear H; (try clear w); (first | ((fail_if_success (have := bl1)); intro bl1 w H) | ((fail_if_success (have := bl2)); intro bl2 w H) | ((fail_if_success (have := bl3)); intro bl3 w H) | intro _ w H)) | (refine Ze H ?_; clear H; (try clear w); intro gv w H))
      exact ⟨_, resT rfl, by rw [hbad (x := true) (fun h => h.elim hz (fun h => hl h.2))]; rfl, (((H.tail).tail).tail).tail⟩
end
end Go.Proofs.Ytlchnabnhimlcaa

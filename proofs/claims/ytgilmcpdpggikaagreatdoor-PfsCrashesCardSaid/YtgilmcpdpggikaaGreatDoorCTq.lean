/- Squeezed copy of the texts Tq K7 Tw5 Kd. -/
import Derived.Test.YtgilmcpdpggikaaGreatDoorCTw3
import Derived.RangeFuncRecord
import Derived.Test.YtgilmcpdpggikaaGreatDoorCK3
import Derived.Test.YtgilmcpdpggikaaGreatDoorCK4
import Derived.Defers
set_option maxRecDepth 100000
set_option maxHeartbeats 1000000
set_option linter.unusedSimpArgs false
set_option linter.unusedVariables false
namespace Go.Proofs.YtgilmcpdpggikaaGreatDoor
open Go Go.RowKit Go.Own
def cntV (l : List (Key × Int)) (k : Key) : Value := match findFrom k 0 l with
 | some p => p.2
 | none => .int .i64 0
section
variable {n : Nat} {ops : Array Oper} {Q : Post} {rest : List Oper} {e : Env} {w : World} {s : Ro} {rs : List Asn} {tt : Nat} {pp : String} {af : Array Edge} {g : Option (Nat × Bool)} {d : Nat}
theorem X.mmk {t : TypeId} (H : Holds s w rs) (h : ∀ b w', Holds s w' (mapA b [] :: rs) → L Tryz.prog n ops Q rest (upd e d (.map (some b))) w') (hw : wg n ops g e = true := by rfl) (hd : Nat.blt d n = true := by rfl) : L Tryz.prog n ops Q (⟨some d, .makeMap t none, tt, pp, af, g⟩ :: rest) e w :=
 L.val (o := ⟨some d, .makeMap t none, tt, pp, af, g⟩) (.map (some w.heap.size)) (w.alloc (.map #[] 0)) hw hd (by
  unfold execOp
  simp only [Option.map_none, Sem.run_bind, run_makeMap, Result.andThen_ok, Sem.run_pure]) (h w.heap.size _ (H.add (F1 := [w.heap.size]) ⟨rfl, heap_alloc_new _ _⟩ (only_alloc _ _ _) (by simp)))
theorem ents_toList (l : List (Key × Int)) : (ents l).toList = entsFrom 0 l := rfl
theorem X.mlk {b : Nat} {l : List (Key × Int)} {x y : Operand} (i : Nat) (k : Key) (H : Holds s w rs) (hi : rs[i]? = some (mapA b l)) (h : L Tryz.prog n ops Q rest (upd e d (cntV l k)) w) (hw : wg n ops g e = true := by rfl) (hd : Nat.blt d n = true := by rfl) (hx : ev e x = .map (some b) := by rfl) (hy : ev e y = keyV k := by rfl) : L Tryz.prog n ops Q (⟨some d, .lookup 113 x y false, tt, pp, af, g⟩ :: rest) e w :=
 L.val (o := ⟨some d, .lookup 113 x y false, tt, pp, af, g⟩) _ w hw hd (by
  obtain ⟨F, hF, hb⟩ := H.get hi
  have h1 := MapKept.run_getObj_map (P := Tryz.prog) hb
  have h2 := checkKey_place (ents l).isEmpty k w
  have h3 := findKey_place k l w
  have hz := Tryz.zeroValue3 w
  unfold execOp
  simp only [hx, hy, Instr.lookup, Sem.run_bind, run_underlying Tryz.underlying113, Result.andThen_ok, h1, Sem.run_pure, h2, ents_toList, h3, cntV]
  cases findFrom k 0 l with
  | none => simp [hz]
  | some p => simp) h
theorem entryThere {b : Nat} {l : List (Key × Int)} {k : Key} {j : Nat} {v : Value} (hf : findFrom k 0 l = some (j, v)) (hb : w.heap[b]? = some (.map (ents l) l.length)) : (Instr.mapEntry 113 (.map (some b)) (keyV k)).run Tryz.prog w = .ok (.tuple #[v, .int .i64 (j : Int)]) (w.putObj b (.map (ents l) l.length)) := by
 have h1 := MapKept.run_getObj_map (P := Tryz.prog) hb
 have h2 := checkKey_place false k w
 have h3 := findKey_place k l w
 obtain ⟨q, c, hj, hq, hv⟩ := findFrom_some hf
 rw [Nat.zero_add] at hj
 subst hj
 have hg : (entsFrom 0 l)[j]? = some (ent j (k, c)) := by rw [entsFrom_get, hq, Nat.zero_add]; rfl
 have hk : (Instr.keyThatStays (keyV k) (keyV k)).run Tryz.prog w = .ok (keyV k) w := by
  unfold Instr.keyThatStays
  rw [if_pos (sameBits_key k)]
  simp
 have hm : (ents l).modify j (fun e => { e with key := keyV k }) = ents l := by
  apply Array.toList_inj.1
  rw [Array.toList_modify, ents_toList]
  exact entsFrom_key l 0 j k c hq
 have hs := MapKept.run_setObj_map (P := Tryz.prog) (.map (ents l) l.length) hb
 have hgo : (ents l)[j]? = some (ent j (k, c)) := by rw [← Array.getElem?_toList]; exact hg
 unfold Instr.mapEntry
 simp only [Sem.run_bind, run_underlying Tryz.underlying113, Result.andThen_ok, h1, h2, ents_toList, h3, hf, hgo, Option.map_some, Option.getD_some]
 show ((Instr.keyThatStays (keyV k) (keyV k)).run Tryz.prog w).andThen _ = _
 rw [hk]
 simp only [Result.andThen_ok, Sem.run_bind]
 rw [hm, hs]
 rfl
theorem entryNew {b : Nat} {l : List (Key × Int)} {k : Key} (hf : findFrom k 0 l = none) (hb : w.heap[b]? = some (.map (ents l) l.length)) : (Instr.mapEntry 113 (.map (some b)) (keyV k)).run Tryz.prog w = .ok (.tuple #[.int .i64 0, .int .i64 (l.length : Int)]) (w.putObj b (.map (ents (l ++ [(k, 0)])) (l ++ [(k, 0)]).length)) := by
 have h1 := MapKept.run_getObj_map (P := Tryz.prog) hb
 have h2 := checkKey_place false k w
 have h3 := findKey_place k l w
 have hz := Tryz.zeroValue3 w
 have hm : (ents l).push { key := keyV k, val := .int .i64 0, born := l.length } = ents (l ++ [(k, 0)]) := by
  apply Array.toList_inj.1
  rw [Array.toList_push, ents_toList, ents_toList, entsFrom_app, Nat.zero_add]
  rfl
 have hs := MapKept.run_setObj_map (P := Tryz.prog) (.map (ents (l ++ [(k, 0)])) (l.length + 1)) hb
 unfold Instr.mapEntry
 simp only [Sem.run_bind, run_underlying Tryz.underlying113, Result.andThen_ok, h1, h2, ents_toList, h3, hf, hz, hm, hs]
 simp [World.putObj, goInt]
theorem storeEntry {b q : Nat} {l : List (Key × Int)} {c : Int} (hq : q < l.length) (hb : w.heap[b]? = some (.map (ents l) l.length)) : (Instr.entryStore 113 (.map (some b)) (.int .i64 (q : Int)) (.int .i64 c)).run Tryz.prog w = .ok () (w.putObj b (.map (ents (l.modify q fun x => (x.1, c))) l.length)) := by
 have h1 := MapKept.run_getObj_map (P := Tryz.prog) hb
 have hf : (ents l).findIdx? (fun e => (e.born : Int) == (q : Int)) = some q := by
  show ((entsFrom 0 l).toArray).findIdx? _ = _
  rw [List.findIdx?_toArray]
  have := findIdx_born l 0 q hq
  rw [Nat.zero_add] at this
  exact this
 have hm : (ents l).modify q (fun e => { e with val := .int .i64 c }) = ents (l.modify q fun x => (x.1, c)) := by
  apply Array.toList_inj.1
  rw [Array.toList_modify, ents_toList, ents_toList]
  exact entsFrom_set l 0 q (0, []) c
 have hs := MapKept.run_setObj_map (P := Tryz.prog) (.map (ents (l.modify q fun x => (x.1, c))) l.length) hb
 unfold Instr.entryStore
 simp [Sem.run_bind, h1, asInt, asIntOf, hf, hm, hs, World.putObj]
theorem only_putObj {b : Nat} {o : Obj} {w : World} : Only [b] w (w.putObj b o) :=
 ⟨rfl, rfl, rfl, by simp [World.putObj], fun k _ hk => World.putObj_heap_other (fun h => hk (by simp [h]))⟩
theorem Holds.mapTo {b i : Nat} {l l' : List (Key × Int)} (H : Holds s w rs) (hi : rs[i]? = some (mapA b l)) : Holds s (w.putObj b (.map (ents l') l'.length)) (rs.set i (mapA b l')) := by
 obtain ⟨F, ⟨rfl, hb⟩, _, _, h3⟩ := H.upd hi
 exact h3 (mapA b l') _ [b] ⟨rfl, World.putObj_heap_same (lt_of_heap hb)⟩ only_putObj (fun k hk => .inl hk)
theorem X.mentT {b j : Nat} {l : List (Key × Int)} {x y : Operand} {v : Value} (i : Nat) (k : Key) (hf : findFrom k 0 l = some (j, v)) (H : Holds s w rs) (hi : rs[i]? = some (mapA b l)) (h : ∀ w', Holds s w' (rs.set i (mapA b l)) → L Tryz.prog n ops Q rest (upd e d (.tuple #[v, .int .i64 (j : Int)])) w') (hw : wg n ops g e = true := by rfl) (hd : Nat.blt d n = true := by rfl) (hx : ev e x = .map (some b) := by rfl) (hy : ev e y = keyV k := by rfl) : L Tryz.prog n ops Q (⟨some d, .mapEntry 113 x y, tt, pp, af, g⟩ :: rest) e w := by
 obtain ⟨F, hF, hb⟩ := H.get hi
 refine L.val (o := ⟨some d, .mapEntry 113 x y, tt, pp, af, g⟩) _ _ hw hd (by
  unfold execOp
  simp only [hx, hy, Sem.run_bind, entryThere hf hb, Result.andThen_ok, Sem.run_pure]) (h _ (Holds.mapTo H hi))
theorem X.mentN {b : Nat} {l : List (Key × Int)} {x y : Operand} (i : Nat) (k : Key) (hf : findFrom k 0 l = none) (H : Holds s w rs) (hi : rs[i]? = some (mapA b l)) (h : ∀ w', Holds s w' (rs.set i (mapA b (l ++ [(k, 0)]))) → L Tryz.prog n ops Q rest (upd e d (.tuple #[.int .i64 0, .int .i64 (l.length : Int)])) w') (hw : wg n ops g e = true := by rfl) (hd : Nat.blt d n = true := by rfl) (hx : ev e x = .map (some b) := by rfl) (hy : ev e y = keyV k := by rfl) : L Tryz.prog n ops Q (⟨some d, .mapEntry 113 x y, tt, pp, af, g⟩ :: rest) e w := by
 obtain ⟨F, hF, hb⟩ := H.get hi
 refine L.val (o := ⟨some d, .mapEntry 113 x y, tt, pp, af, g⟩) _ _ hw hd (by
  unfold execOp
  simp only [hx, hy, Sem.run_bind, entryNew hf hb, Result.andThen_ok, Sem.run_pure]) (h _ (Holds.mapTo H hi))
theorem X.mst {b : Nat} {l : List (Key × Int)} {x y z : Operand} {c : Int} (i q : Nat) (H : Holds s w rs) (hi : rs[i]? = some (mapA b l)) (hq : q < l.length) (h : ∀ w', Holds s w' (rs.set i (mapA b (l.modify q fun x => (x.1, c)))) → L Tryz.prog n ops Q rest e w') (hw : wg n ops g e = true := by rfl) (hx : ev e x = .map (some b) := by rfl) (hy : ev e y = .int .i64 (q : Int) := by rfl) (hz : ev e z = .int .i64 c := by rfl) : L Tryz.prog n ops Q (⟨none, .entryStore 113 x y z, tt, pp, af, g⟩ :: rest) e w := by
 obtain ⟨F, hF, hb⟩ := H.get hi
 have hl : (l.modify q fun x => (x.1, c)).length = l.length := by simp
 have H' := Holds.mapTo (l' := l.modify q fun x => (x.1, c)) H hi
 rw [hl] at H'
 refine L.eff (o := ⟨none, .entryStore 113 x y z, tt, pp, af, g⟩) _ hw rfl (by
  unfold execOp
  simp only [hx, hy, hz, Sem.run_bind, storeEntry hq hb, Result.andThen_ok, Sem.run_pure]) (h _ H')
end
end Go.Proofs.YtgilmcpdpggikaaGreatDoor
namespace Go.Reg
open Go
section
variable {P : Program}
def ok7 (P : Program) (l : List Oper) (ks cls ns ks' cls' ns' ms : List Nat) (i0 j0 : Nat) : Bool :=
 decide (cls.length = l.length) && permB l.length ks && decide (cls'.length = l.length) && permB l.length ks' && decide (i0 < l.length) && decide (j0 < l.length) && decide (i0 ≠ j0) && lowB l.toArray && masksOk l.toArray ms && pairsX false l.toArray ms i0 j0 (ks.zip cls) && pairsX false l.toArray ms j0 i0 (ks'.zip cls') &&
 ((ks.zip cls).all fun x => (ks'.zip cls').contains x) && ((ks'.zip cls').all fun x => (ks.zip cls).contains x) &&
 ((ks.zip cls).all fun x => x.1 == i0 || x.1 == j0 || decide (x.2 ≤ 1) || (ms.getD x.1 0).testBit i0 || (ms.getD x.1 0).testBit j0) &&
 sOk4 P l.toArray ns cls (pick l.toArray ks) && sOk4 P l.toArray ns' cls' (pick l.toArray ks') && P.follows .mixedOrders
theorem region7d {id : Nat} {l : List Oper} {Q : Exit → Act → World → Prop} {a : Act} {w : World} (ks cls ns ks' cls' ns' ms : List Nat) (i0 j0 : Nat) (hok : ok7 P l ks cls ns ks' cls' ns' ms i0 j0 = true)
  (h : seg4 P l.toArray (Q .normal) ns cls (pick l.toArray ks) a w.drew) (h' : seg4 P l.toArray (Q .normal) ns' cls' (pick l.toArray ks') a w.drew) : (Code.region id l.toArray true).wp P Q a w := by
 simp only [ok7, permB, Bool.and_eq_true, decide_eq_true_eq, List.all_eq_true, Nat.blt_eq] at hok
 obtain ⟨⟨⟨⟨⟨⟨⟨⟨⟨⟨⟨⟨⟨⟨⟨⟨c1, ⟨⟨p1, p2⟩, p3⟩, p4⟩, c1'⟩, ⟨⟨p1', p2'⟩, p3'⟩, p4'⟩, hi⟩, hj⟩, hne⟩, hlow⟩, hms⟩, hpA⟩, hpB⟩, hab⟩, hba⟩, hcl⟩, hsA⟩, hsB⟩, hmx⟩ := hok
 have hlt : ∀ k ∈ ks, k < l.toArray.size := fun k hk => by simpa using p2 k hk
 have hlt' : ∀ k ∈ ks', k < l.toArray.size := fun k hk => by simpa using p2' k hk
 obtain ⟨q1, q2, q3⟩ := pick_spec l.toArray ks cls hlt (by omega)
 obtain ⟨q1', q2', q3'⟩ := pick_spec l.toArray ks' cls' hlt' (by omega)
 have hsq := sq_segsP ns cls (pick l.toArray ks) ks a _ (by omega) q2 hsA h
 have hsq' := sq_segsP ns' cls' (pick l.toArray ks') ks' a _ (by omega) q2' hsB h'
 rw [q3] at hsq
 rw [q3'] at hsq'
 have hfst : (ks.zip cls).map Prod.fst = ks := List.map_fst_zip (by omega)
 have hfst' : (ks'.zip cls').map Prod.fst = ks' := List.map_fst_zip (by omega)
 have hall : ∀ i, i < l.length → i ∈ ks := fun i hi => by simpa using p4 i (List.mem_range.2 hi)
 have hsz : l.toArray.size = l.length := by simp
 rw [← hsz] at hall p1 c1 p1' c1' hi hj
 generalize l.toArray = ops at *
 refine wp_region_any hmx ?_
 refine any_of_sq2 likes_ext hlow hms i0 j0 hne ops.size (ks.zip cls) (ks'.zip cls') _ a _ (by simp; omega) (by simp; omega) (fun x => ⟨fun hx => by simpa using hab x hx, fun hx => by simpa using hba x hx⟩) ?_ (by simp) ?_ (by rw [hfst]; exact p3) (by rw [hfst']; exact p3') (by rw [hfst]; exact hall i0 hi) (by rw [hfst]; exact hall j0 hj) (fun x hx => ?_) (pairsX_pw hpA) (pairsX_pw hpB) hsq hsq'
 ·intro j o _ hj
  exfalso
  rcases Nat.lt_or_ge j ops.size with h' | h'
  ·simp [h'] at hj
  ·simp [h'] at hj
 ·intro i
  rw [hfst]
  rcases Nat.lt_or_ge i ops.size with h' | h'
  ·simp [h', hall i h']
  ·have : i ∉ ks := fun hi => by have := hlt i hi; omega
   simp [h', this]
 ·have := hcl x hx
  simpa [or_assoc] using this
end
end Go.Reg
namespace Go.Own
open Go Go.RowKit
section
variable {P : Program} {n : Nat} {Q : Post} {e : Env} {w : World}
theorem C.drawn7 {id : Nat} {l : List Oper} (ks cls ns ks' cls' ns' ms : List Nat) (i0 j0 : Nat) (hok : Reg.ok7 P l ks cls ns ks' cls' ns' ms i0 j0 = true) (h : segN P n l.toArray (Q .normal) ns cls (Reg.pick l.toArray ks) e w.drew) (h' : segN P n l.toArray (Q .normal) ns' cls' (Reg.pick l.toArray ks') e w.drew) : C P n Q (.region id l.toArray true) e w :=
 ⟨fun a ha => Reg.region7d ks cls ns ks' cls' ns' ms i0 j0 hok (seg4_of ns cls _ e _ a ha h) (seg4_of ns' cls' _ e _ a ha h')⟩
end
end Go.Own
namespace Go.Proofs.YtgilmcpdpggikaaGreatDoor
open Go Go.RowKit Go.Own
def keysTo (t : TR) (i : Nat) : List (Key × Int) := ((List.range' 1 (i - 1)).filter fun j => decide (t.n j ≠ Nd.zero)).map fun j => (((t.n j).parent, (t.n j).name), 1)
theorem keysTo_next {t : TR} {i : Nat} (h1 : 1 ≤ i) : keysTo t (i + 1) = if t.n i = Nd.zero then keysTo t i else keysTo t i ++ [(((t.n i).parent, (t.n i).name), 1)] := by
 unfold keysTo
 rw [show i + 1 - 1 = (i - 1) + 1 by omega, List.range'_concat, List.filter_append, List.map_append, show 1 + 1 * (i - 1) = i by omega]
 by_cases h : t.n i = Nd.zero
 ·rw [if_pos h]; simp [h]
 ·rw [if_neg h]; simp [h]
theorem keysTo_mem {t : TR} {i : Nat} {x : Key × Int} : x ∈ keysTo t i ↔ ∃ j, 1 ≤ j ∧ j < i ∧ t.n j ≠ Nd.zero ∧ x = (((t.n j).parent, (t.n j).name), 1) := by
 unfold keysTo
 simp only [List.mem_map, List.mem_filter, List.mem_range'_1, decide_eq_true_eq]
 constructor
 ·rintro ⟨j, ⟨⟨h1, h2⟩, h3⟩, rfl⟩; exact ⟨j, h1, by omega, h3, rfl⟩
 ·rintro ⟨j, h1, h2, h3, rfl⟩; exact ⟨j, ⟨⟨h1, by omega⟩, h3⟩, rfl⟩
theorem find_keys {t : TR} {i : Nat} : findFrom ((t.n i).parent, (t.n i).name) 0 (keysTo t i) = none ↔ Lone t i := by
 rw [findFrom_none]
 constructor
 ·intro h j hj h1 hz hs
  exact h _ (keysTo_mem.2 ⟨j, h1, hj, hz, rfl⟩) (Prod.ext hs.1 hs.2)
 ·intro h x hx
  obtain ⟨j, h1, hj, hz, rfl⟩ := keysTo_mem.1 hx
  intro he
  exact h j hj h1 hz ⟨congrArg Prod.fst he, congrArg Prod.snd he⟩
theorem find_keys1 {t : TR} {i j : Nat} {v : Value} {k : Key} (h : findFrom k 0 (keysTo t i) = some (j, v)) : v = .int .i64 1 ∧ j < (keysTo t i).length ∧ (keysTo t i)[j]? = some (k, 1) := by
 obtain ⟨q, c, h1, h2, h3⟩ := findFrom_some h
 rw [Nat.zero_add] at h1
 subst h1
 have hm := List.mem_of_getElem? h2
 obtain ⟨j', _, _, _, he⟩ := keysTo_mem.1 hm
 have hc : c = 1 := congrArg Prod.snd he
 subst hc
 exact ⟨h3, (List.getElem?_eq_some_iff.1 h2).1, h2⟩
theorem find_modify {k : Key} {c : Int} : ∀ {l : List (Key × Int)} {i j : Nat} {v : Value}, findFrom k i l = some (i + j, v) → findFrom k i (l.modify j fun x => (x.1, c)) = some (i + j, .int .i64 c)
 | [], i, j, v, h => by simp [findFrom] at h
 | x :: l, i, 0, v, h => by
  unfold findFrom at h
  split at h
  ·rename_i hx
   rw [List.modify_zero_cons, findFrom, if_pos hx, Nat.add_zero]
  ·obtain ⟨q, c', h1, _⟩ := findFrom_some h
   omega
 | x :: l, i, j + 1, v, h => by
  unfold findFrom at h
  split at h
  ·cases h
  ·rename_i hx
   rw [List.modify_succ_cons, findFrom, if_neg hx, show i + (j + 1) = (i + 1) + j by omega]
   rw [show i + (j + 1) = (i + 1) + j by omega] at h
   exact find_modify h
theorem find_app {k : Key} {c : Int} : ∀ {l : List (Key × Int)} {i : Nat}, findFrom k i l = none → findFrom k i (l ++ [(k, c)]) = some (i + l.length, .int .i64 c)
 | [], i, _ => by simp [findFrom]
 | x :: l, i, h => by
  unfold findFrom at h
  split at h
  ·cases h
  ·rename_i hx
   rw [List.cons_append, findFrom, if_neg hx, find_app h, List.length_cons, show i + 1 + l.length = i + (l.length + 1) by omega]
theorem modify_app {l : List (Key × Int)} {k : Key} {c : Int} : (l ++ [(k, 0)]).modify l.length (fun x => (x.1, c)) = l ++ [(k, c)] := by
 induction l with
 | nil => rfl
 | cons x l ih => rw [List.cons_append, List.length_cons, List.modify_succ_cons, ih]; rfl
section
variable {s : Ro} {w : World} {R : List Asn} {t : TR}
theorem cnt_none {l : List (Key × Int)} {k : Key} (h : findFrom k 0 l = none) : cntV l k = .int .i64 0 := by unfold cntV; rw [h]
theorem cnt_some {l : List (Key × Int)} {k : Key} {j : Nat} {v : Value} (h : findFrom k 0 l = some (j, v)) : cntV l k = v := by unfold cntV; rw [h]
theorem Check_s (H : Holds s w R) (ht : t.Ok) : Calls Tryz.prog 21 #[.agg t.cells.toArray] w fun e w' => e = .returned (.bool (checkM t)) ∧ Holds s w' R := by
 refine enter Tryz.func21 rfl Tryz.ntmps21 rfl ?_
 have h0 := TR.node ht (i := 0) (by omega)
 by_cases hroot : t.n 0 = Nd.root
 rotate_left
 ·have hdn : decide (t.n 0 = Nd.root) = false := decide_eq_false hroot
  repeat' (first | (refine K.iaA (i := 0) rfl rfl rfl rfl rfl (by decide) ?_) | (refine K.build [(0, .int .i64 1)] _ build_root rfl rfl rfl ?_) | (refine X.neA (eq_node 9997 (t.n 0) Nd.root) guard_node ?_; rw [hdn]) | refine Go2 H ?_ | (refine Gs2 H ?_; clear H; (try clear w); intro w H) | (refine Gn H ?_; clear H; (try clear w); (first | ((fail_if_success (have := bl1)); intro bl1 w H) | ((fail_if_success (have := bl2)); intro bl2 w H) | ((fail_if_success (have := bl3)); intro bl3 w H) | intro _ w H)))
  exact ⟨_, resT rfl, by rw [checkM, hdn]; rfl, H.tail⟩
 have hdn : decide (t.n 0 = Nd.root) = true := decide_eq_true hroot
 repeat' (first | (refine K.iaA (i := 0) rfl rfl rfl rfl rfl (by decide) ?_) | (refine K.build [(0, .int .i64 1)] _ build_root rfl rfl rfl ?_) | (refine X.neA (eq_node 9997 (t.n 0) Nd.root) guard_node ?_; rw [hdn]) | (refine X.mmk H ?_; clear H; (try clear w); intro bm w H) | refine Go2 H ?_ | (refine Gs2 H ?_; clear H; (try clear w); intro w H) | (refine Gn H ?_; clear H; (try clear w); (first | ((fail_if_success (have := bl1)); intro bl1 w H) | ((fail_if_success (have := bl2)); intro bl2 w H) | ((fail_if_success (have := bl3)); intro bl3 w H) | intro _ w H)))
 refine C.loopS [2, 4, 5, 6, 13, 14, 15, 16, 17, 18, 19, 20, 21, 22, 23, 24, 25, 26, 27, 28, 29, 30, 31, 32, 33, 34, 35, 36, 37, 38, 39, 40, 41] [4] rfl (fun k vs w => ∃ i : Nat, k = 8 - i ∧ 1 ≤ i ∧ i ≤ 8 ∧ vs = [.int .i64 (i : Int)] ∧ (∀ j, 1 ≤ j → j < i → OkAt t j) ∧ Holds s w (mapA bm (keysTo t i) :: var bl1 41 t.cells :: R)) 7 ⟨1, rfl, by omega, by omega, rfl, fun j h1 h2 => by omega, H⟩ ?_
 clear H
 rintro k vs hv w ⟨i, rfl, hi1, hi, rfl, hok, H⟩
 by_cases hlt : i < 8
 rotate_left
 ·obtain rfl : i = 8 := by omega
  have hall : decide (∀ i : Nat, i < 8 → 1 ≤ i → OkAt t i) = true := decide_eq_true (fun j h1 h2 => hok j h2 h1)
  refine Gq2 H ?_
  replace H : Holds _ _ (var bl1 _ _ :: _) := tp H
  (refine X.call (blocksFit_s H ht (fun j hj => by
   by_cases hj0 : j = 0
   ·subst hj0; right; rw [hroot]; exact .inl ⟨rfl, rfl, rfl, rfl⟩
   ·rcases hok j (by omega) hj with h | h
    ·exact .inl h
    ·exact .inr h.1.2.2.2.2.2)) ?_; (try clear H); rintro _ w ⟨rfl, H⟩; refine ⟨_, rfl, ?_⟩)
  refine Gq2 H ?_
  exact ⟨_, resT rfl, by rw [checkM, hdn, hall]; rfl, (H.tail).tail⟩
 have hn := TR.node ht hlt
 have hbad : ∀ {x : Bool}, ¬ OkAt t i → checkM t = false := fun h => by
  rw [checkM, decide_eq_false (fun h2 : ∀ i : Nat, i < 8 → 1 ≤ i → OkAt t i => h (h2 i hlt hi1)), Bool.and_false, Bool.false_and]
 have hnext : OkAt t i → ∀ j, 1 ≤ j → j < i + 1 → OkAt t j := fun h j h1 h2 => by
  by_cases hj : j = i
  ·subst hj; exact h
  ·exact hok j h1 (by omega)
 have hkn := keysTo_next (t := t) hi1
 by_cases hz : t.n i = Nd.zero
 ·have hzd : decide (t.n i = Nd.zero) = true := decide_eq_true hz
  rw [if_pos hz] at hkn
  repeat' (first | (refine K.iaA (i := i) rfl rfl rfl rfl rfl hlt ?_) | (refine K.build [] _ build_node0 rfl rfl rfl ?_) | (refine X.eqA (eq_node 9997 (t.n i) Nd.zero) guard_node ?_; rw [hzd]) | refine Go2 H ?_ | (refine Gs2 H ?_; clear H; (try clear w); intro w H) | (refine Gn H ?_; clear H; (try clear w); (first | ((fail_if_success (have := bl1)); intro bl1 w H) | ((fail_if_success (have := bl2)); intro bl2 w H) | ((fail_if_success (have := bl3)); intro bl3 w H) | intro _ w H)))
  exact ⟨agr, 8 - (i + 1), by omega, i + 1, rfl, by omega, by omega, rfl, hnext (.inl hz), by rw [hkn]; exact H.tail⟩
 have hzd : decide (t.n i = Nd.zero) = false := decide_eq_false hz
 rw [if_neg hz] at hkn
 repeat' (first | (refine K.iaA (i := i) rfl rfl rfl rfl rfl hlt ?_) | (refine K.build [] _ build_node0 rfl rfl rfl ?_) | (refine X.eqA (eq_node 9997 (t.n i) Nd.zero) guard_node ?_; rw [hzd]) | refine Go2 H ?_ | (refine Gs2 H ?_; clear H; (try clear w); intro w H) | (refine Gn H ?_; clear H; (try clear w); (first | ((fail_if_success (have := bl1)); intro bl1 w H) | ((fail_if_success (have := bl2)); intro bl2 w H) | ((fail_if_success (have := bl3)); intro bl3 w H) | intro _ w H)))
 replace H : Holds _ _ (var bl1 _ _ :: _) := tp H
 have hF := nodeFits_s (i := i) H ht hlt
 by_cases hfit : Fits t i
 rotate_left
 ·rw [decide_eq_false hfit] at hF
  (refine X.call (hF) ?_; (try clear H); rintro _ w ⟨rfl, H⟩; refine ⟨_, rfl, ?_⟩)
  clear hF
  refine Gq2 H ?_
  exact ⟨_, resT rfl, by rw [hbad (x := true) (fun h => h.elim hz (fun h => hfit h.1))]; rfl, ((H.tail).tail).tail⟩
 rw [decide_eq_true hfit] at hF
 (refine X.call (hF) ?_; (try clear H); rintro _ w ⟨rfl, H⟩; refine ⟨_, rfl, ?_⟩)
 clear hF
 repeat' (first | (refine K.build [(0, .int .i64 _), (1, .string _)] _ (build_place _ _) rfl rfl rfl ?_) | refine Go2 H ?_ | (refine Gs2 H ?_; clear H; (try clear w); intro w H) | (refine Gn H ?_; clear H; (try clear w); (first | ((fail_if_success (have := bl1)); intro bl1 w H) | ((fail_if_success (have := bl2)); intro bl2 w H) | ((fail_if_success (have := bl3)); intro bl3 w H) | intro _ w H)))
 by_cases hl : Lone t i
 ·have hf := find_keys.2 hl
  have hc0 := cnt_none hf
  have hf1 := find_app (c := 0) hf
  have hc1 := cnt_some hf1
  rw [Nat.zero_add] at hf1
  have hf2 := find_app (c := 1) hf
  have hc2 := cnt_some hf2
  have hHX : ∀ w, Holds s w (mapA bm ((keysTo t i ++ [(((t.n i).parent, (t.n i).name), 0)]).modify (keysTo t i).length fun x => (x.1, 1)) :: var bl3 116 [.int .i64 (t.n i).parent, .string ⟨(t.n i).name.toArray⟩] :: var bl1 41 t.cells :: var bl2 36 (t.n i).cells :: R) → Holds s w (mapA bm (keysTo t (i + 1)) :: var bl3 116 [.int .i64 (t.n i).parent, .string ⟨(t.n i).name.toArray⟩] :: var bl1 41 t.cells :: var bl2 36 (t.n i).cells :: R) := fun w H => by rw [hkn, ← modify_app]; exact H
  have H1 : Holds s w (mapA bm (keysTo t i) :: var bl3 116 [.int .i64 (t.n i).parent, .string ⟨(t.n i).name.toArray⟩] :: var bl1 41 t.cells :: var bl2 36 (t.n i).cells :: R) := H.up 3 rfl
  clear H
  have H := H1
  clear H1
  refine C.drawn7 [0, 1, 2, 3, 4, 5, 6] [0, 1, 3, 0, 3, 0, 3] [3, 2, 2] [0, 1, 4, 5, 2, 3, 6] [0, 1, 3, 0, 3, 0, 3] [3, 2, 2] [0, 0, 3, 7, 3, 19, 63] 2 4 (by kernel_rfl) ?_ ?_
  ·replace H := H.drew; refine sgA ?_
   refine Gq2 H ?_
   refine X.mlk 0 ((t.n i).parent, (t.n i).name) H rfl ?_
   rw [hc0]
   refine L.nil ?_; refine ⟨rfl, rfl, q4, ?_⟩
   refine Gq2 H ?_
   refine X.mentN 0 ((t.n i).parent, (t.n i).name) hf H rfl ?_
   clear H
   intro w H
   refine L.nil ?_; refine ⟨rfl, rfl, q4, ?_⟩
   refine Gq2 H ?_
   refine X.mst (c := 1) 0 (keysTo t i).length H rfl (by simp) ?_
   clear H
   intro w H
   replace H := hHX _ H
   refine L.nil ?_; refine ⟨rfl, rfl, q4, ?_⟩
   refine Gq2 H ?_
   refine X.mlk 0 ((t.n i).parent, (t.n i).name) H rfl ?_
   rw [hkn, hc2]
   refine Gq2 H ?_
   exact ⟨agr, 8 - (i + 1), by omega, i + 1, rfl, by omega, by omega, rfl, hnext (.inr ⟨hfit, hl⟩), ((H.up 1 rfl).tail.up 2 rfl).tail⟩
  ·replace H := H.drew; refine sgA ?_
   refine Gq2 H ?_
   refine X.mentN 0 ((t.n i).parent, (t.n i).name) hf H rfl ?_
   clear H
   intro w H
   refine L.nil ?_; refine ⟨rfl, rfl, q4, ?_⟩
   refine Gq2 H ?_
   refine X.mlk 0 ((t.n i).parent, (t.n i).name) H rfl ?_
   rw [hc1]
   refine L.nil ?_; refine ⟨rfl, rfl, q4, ?_⟩
   refine Gq2 H ?_
   refine X.mst (c := 1) 0 (keysTo t i).length H rfl (by simp) ?_
   clear H
   intro w H
   replace H := hHX _ H
   refine L.nil ?_; refine ⟨rfl, rfl, q4, ?_⟩
   refine Gq2 H ?_
   refine X.mlk 0 ((t.n i).parent, (t.n i).name) H rfl ?_
   rw [hkn, hc2]
   refine Gq2 H ?_
   exact ⟨agr, 8 - (i + 1), by omega, i + 1, rfl, by omega, by omega, rfl, hnext (.inr ⟨hfit, hl⟩), ((H.up 1 rfl).tail.up 2 rfl).tail⟩
 ·obtain ⟨⟨j, v⟩, hf⟩ : ∃ p, findFrom ((t.n i).parent, (t.n i).name) 0 (keysTo t i) = some p := by
   cases hq : findFrom ((t.n i).parent, (t.n i).name) 0 (keysTo t i) with
   | none => exact absurd (find_keys.1 hq) hl
   | some p => exact ⟨p, rfl⟩
  obtain ⟨rfl, hjl, _⟩ := find_keys1 hf
  have hc0 := cnt_some hf
  have hf2 := find_modify (c := 2) (i := 0) (j := j) (by rw [Nat.zero_add]; exact hf)
  have hc2 := cnt_some hf2
  have H1 : Holds s w (mapA bm (keysTo t i) :: var bl3 116 [.int .i64 (t.n i).parent, .string ⟨(t.n i).name.toArray⟩] :: var bl1 41 t.cells :: var bl2 36 (t.n i).cells :: R) := H.up 3 rfl
  clear H
  have H := H1
  clear H1
  refine C.drawn7 [0, 1, 2, 3, 4, 5, 6] [0, 1, 3, 0, 3, 0, 3] [3, 2, 2] [0, 1, 4, 5, 2, 3, 6] [0, 1, 3, 0, 3, 0, 3] [3, 2, 2] [0, 0, 3, 7, 3, 19, 63] 2 4 (by kernel_rfl) ?_ ?_
  ·replace H := H.drew; refine sgA ?_
   refine Gq2 H ?_
   refine X.mlk 0 ((t.n i).parent, (t.n i).name) H rfl ?_
   rw [hc0]
   refine L.nil ?_; refine ⟨rfl, rfl, q4, ?_⟩
   refine Gq2 H ?_
   refine X.mentT 0 ((t.n i).parent, (t.n i).name) hf H rfl ?_
   clear H
   intro w H
   refine L.nil ?_; refine ⟨rfl, rfl, q4, ?_⟩
   refine Gq2 H ?_
   refine X.mst (c := 2) 0 j H rfl hjl ?_
   clear H
   intro w H
   (try simp only [List.set_cons_zero, List.set_cons_succ, List.eraseIdx_cons_zero, List.eraseIdx_cons_succ] at H)
   refine L.nil ?_; refine ⟨rfl, rfl, q4, ?_⟩
   refine Gq2 H ?_
   refine X.mlk 0 ((t.n i).parent, (t.n i).name) H rfl ?_
   rw [hc2]
   refine Gq2 H ?_
   exact ⟨_, resT rfl, by rw [hbad (x := true) (fun h => h.elim hz (fun h => hl h.2))]; rfl, (((H.tail).tail).tail).tail⟩
  ·replace H := H.drew; refine sgA ?_
   refine Gq2 H ?_
   refine X.mentT 0 ((t.n i).parent, (t.n i).name) hf H rfl ?_
   clear H
   intro w H
   refine L.nil ?_; refine ⟨rfl, rfl, q4, ?_⟩
   refine Gq2 H ?_
   refine X.mlk 0 ((t.n i).parent, (t.n i).name) H rfl ?_
   rw [hc0]
   refine L.nil ?_; refine ⟨rfl, rfl, q4, ?_⟩
   refine Gq2 H ?_
   refine X.mst (c := 2) 0 j H rfl hjl ?_
   clear H
   intro w H
   (try simp only [List.set_cons_zero, List.set_cons_succ, List.eraseIdx_cons_zero, List.eraseIdx_cons_succ] at H)
   refine L.nil ?_; refine ⟨rfl, rfl, q4, ?_⟩
   refine Gq2 H ?_
   refine X.mlk 0 ((t.n i).parent, (t.n i).name) H rfl ?_
   rw [hc2]
   refine Gq2 H ?_
   exact ⟨_, resT rfl, by rw [hbad (x := true) (fun h => h.elim hz (fun h => hl h.2))]; rfl, (((H.tail).tail).tail).tail⟩
end
end Go.Proofs.YtgilmcpdpggikaaGreatDoor
namespace Go.Own
open Go Go.RowKit
structure FrD (n : Nat) (ds : List Deferred) (a : Act) (e : Env) : Prop where
 size : a.tmps.size = n
 defers : a.defers = ds
 env : envOf a = e
theorem FrD.eval {n : Nat} {ds : List Deferred} {a : Act} {e : Env} (h : FrD n ds a e) : a.eval = ev e :=
 Fr.eval (n := n) (a := { a with defers := [] }) ⟨h.size, rfl, h.env⟩
theorem FrD.wn {n : Nat} {ds : List Deferred} {a : Act} {e : Env} (h : FrD n ds a e) (ops : Array Oper) (o : Oper) : Region.wanted o (yielded ops a.tmps) = Own.wn n ops o e :=
 Fr.wn (n := n) (a := { a with defers := [] }) ⟨h.size, rfl, h.env⟩ ops o
theorem FrD.put {n : Nat} {ds : List Deferred} {a : Act} {e : Env} (h : FrD n ds a e) {d : Option Nat} (hd : okD n d = true) (v : Value) : FrD n ds (a.put d v) (Own.put e d v) := by
 have := Fr.put (n := n) (a := { a with defers := [] }) ⟨h.size, rfl, h.env⟩ hd v
 cases d with
 | none => exact h
 | some d => exact ⟨this.size, by simpa [Act.put] using h.defers, this.env⟩
abbrev PostD := Exit → List Deferred → Env → World → Prop
def liftD (n : Nat) (Q : PostD) : Exit → Act → World → Prop := fun x a w => ∃ e ds, FrD n ds a e ∧ Q x ds e w
structure D (P : Program) (n : Nat) (ds : List Deferred) (Q : PostD) (c : Code) (e : Env) (w : World) : Prop where
 go : ∀ a, FrD n ds a e → c.wp P (liftD n Q) a w
structure LD (P : Program) (n : Nat) (ds : List Deferred) (ops : Array Oper) (Q : PostD) (l : List Oper) (e : Env) (w : World) : Prop where
 go : ∀ a, FrD n ds a e → wpList P ops (liftD n Q) l a w
def thenD (K : List Deferred → Env → World → Prop) (Q : PostD) : PostD := fun x => match x with
 | .normal => K
 | x => Q x
def plain1 : Op → Bool
 | .move _ | .assign _ | .load _ _ | .store _ _ _ | .binOp _ _ _ _ _ | .fieldAddr _ _ _ | .makeFunc _ _ _ | .unOp _ _ _ | .box _ _ | .alloc _ | .pick _ _ _ | .index _ _ _ => true
 | _ => false
section
variable {P : Program} {n : Nat} {ds : List Deferred} {ops : Array Oper} {Q : PostD} {rest : List Oper} {e : Env} {w : World}
theorem D.seq {x y : Code} (h : D P n ds (thenD (fun ds e w => D P n ds Q y e w) Q) x e w) : D P n ds Q (.seq x y) e w :=
 ⟨fun a ha => wp_seq (Code.wp_mono (fun ex a' w' ⟨e', ds', fr, hq⟩ => by
  cases ex <;> first | exact hq.go a' fr | exact ⟨e', ds', fr, hq⟩) (h.go a ha))⟩
theorem D.skip (h : Q .normal ds e w) : D P n ds Q .skip e w := ⟨fun a ha => wp_skip ⟨e, ds, ha, h⟩⟩
theorem D.ret (h : Q .ret ds e w) : D P n ds Q .ret e w := ⟨fun a ha => wp_ret ⟨e, ds, ha, h⟩⟩
theorem D.ite {c : Operand} {x y : Code} {t : Bool} (hc : ev e c = .bool t) (h1 : t = true → D P n ds Q x e w) (h2 : t = false → D P n ds Q y e w) : D P n ds Q (.cond c x y) e w := by
 cases t with
 | true => exact ⟨fun a ha => wp_cond_true (by rw [ha.eval]; exact hc) ((h1 rfl).go a ha)⟩
 | false => exact ⟨fun a ha => wp_cond_false (by rw [ha.eval]; exact hc) ((h2 rfl).go a ha)⟩
theorem D.tru {c : Operand} {x y : Code} (h : D P n ds Q x e w) (hc : ev e c = .bool true := by rfl) : D P n ds Q (.cond c x y) e w := D.ite hc (fun _ => h) (fun h => by cases h)
theorem D.fls {c : Operand} {x y : Code} (h : D P n ds Q y e w) (hc : ev e c = .bool false := by rfl) : D P n ds Q (.cond c x y) e w := D.ite hc (fun h => by cases h) (fun _ => h)
theorem D.region {id : Nat} {l : List Oper} (h : LD P n ds l.toArray Q l e w) : D P n ds Q (.region id l.toArray false) e w := ⟨fun a ha => wp_region_lit (h.go a ha)⟩
theorem LD.nil (h : Q .normal ds e w) : LD P n ds ops Q [] e w := ⟨fun a ha => ⟨e, ds, ha, h⟩⟩
theorem plain1_run {o : Oper} {ρ : Operand → Value} {nx : Next} {w w' : World} (hp : plain1 o.op = true) (hr : (execOp ρ o).run P w = .ok nx w') : (∃ v, nx = .value v) ∨ nx = .skip := by
 have hv : ∀ {α : Type} {k : α → Value} {s : Sem α}, (do let x ← s; pure (Next.value (k x)) : Sem Next).run P w = .ok nx w' → (∃ v, nx = .value v) ∨ nx = .skip := by
  intro α k s h
  rw [Sem.run_bind] at h
  cases hs : s.run P w with
  | ok v w1 => rw [hs] at h; simp only [Result.andThen_ok, Sem.run_pure] at h; cases h; exact .inl ⟨_, rfl⟩
  | halt x w1 => rw [hs] at h; cases h
 have hu : ∀ {s : Sem Unit}, (do s; pure Next.skip : Sem Next).run P w = .ok nx w' → (∃ v, nx = .value v) ∨ nx = .skip := by
  intro s h
  rw [Sem.run_bind] at h
  cases hs : s.run P w with
  | ok v w1 => rw [hs] at h; simp only [Result.andThen_ok, Sem.run_pure] at h; cases h; exact .inr rfl
  | halt x w1 => rw [hs] at h; cases h
 unfold execOp at hr
 cases ho : o.op <;> rw [ho] at hp hr <;> first
  | (cases hp; done)
  | exact hv hr
  | exact hu hr
  | (simp only [Sem.run_pure] at hr; cases hr; exact .inl ⟨_, rfl⟩)
theorem LD.one {o : Oper} (hp : plain1 o.op = true) (h : L P n ops (fun x e' w' => x = .normal ∧ LD P n ds ops Q rest e' w') [o] e w) : LD P n ds ops Q (o :: rest) e w := by
 refine ⟨fun a ha => ?_⟩
 have h0 := h.go { a with defers := [] } ⟨ha.size, rfl, ha.env⟩
 have hfr : ∀ {b b0 : Act} {w' : World}, b0.tmps = b.tmps → b.defers = ds → lift n (fun x e' w' => x = Exit.normal ∧ LD P n ds ops Q rest e' w') .normal b0 w' → wpList P ops (liftD n Q) rest b w' := by
  rintro b b0 w' ht hb ⟨e', fr, _, hl⟩
  exact hl.go b ⟨by rw [← ht]; exact fr.size, hb, by rw [← fr.env]; unfold envOf; rw [ht]⟩
 unfold wpList at h0 ⊢
 simp only at h0
 split at h0
 ·rename_i hw
  rw [if_pos hw]
  rcases h0 with h0 | ⟨_, a1, w1, e1, _, hx, _⟩
  ·left
   unfold Oper.wp at h0 ⊢
   have he : (Act.eval { a with defers := [] }) = a.eval := rfl
   rw [he] at h0
   cases hr : (execOp a.eval o).run P w with
   | ok nx w' =>
    rw [hr] at h0
    rcases plain1_run hp hr with ⟨v, rfl⟩ | rfl
    ·refine hfr (b0 := Act.put { a with defers := [] } o.dst v) ?_ ?_ h0
     ·cases o.dst <;> rfl
     ·cases o.dst <;> exact ha.defers
    ·refine hfr (b0 := Act.put { a with defers := [] } o.dst undef) ?_ ?_ h0
     ·cases o.dst <;> rfl
     ·cases o.dst <;> exact ha.defers
   | halt x w' =>
    rw [hr] at h0
    cases x <;> simp only [Oper.upon] at h0 <;> first
     | exact h0.elim
     | (obtain ⟨_, _, hx, _⟩ := h0; cases hx)
  ·cases hx
 ·rename_i hw
  rw [if_neg hw]
  refine hfr (b0 := Act.put { a with defers := [] } o.dst undef) ?_ ?_ h0
  ·cases o.dst <;> rfl
  ·cases o.dst <;> exact ha.defers
theorem LD.val {o : Oper} (v : Value) (w' : World) (hw : Own.wn n ops o e = true) (hd : okD n o.dst = true) (hr : (execOp (ev e) o).run P w = .ok (.value v) w') (h : LD P n ds ops Q rest (Own.put e o.dst v) w') : LD P n ds ops Q (o :: rest) e w := by
 refine ⟨fun a ha => wpList_step fun K hK => ?_⟩
 rw [ha.wn ops o, if_pos hw]
 unfold Oper.wp
 rw [ha.eval, hr]
 exact hK _ _ (h.go _ (ha.put hd v))
theorem LD.len {x : Operand} {t : TypeId} {a : Option Addr} {m c d : Nat} {el : TypeId} {sz by_ : Nat} {zz : List Value} {tt : Nat} {pp : String} {af : Array Edge} {g : Option (Nat × Bool)} [E : ElC P t el sz by_ zz] (h : LD P n ds ops Q rest (upd e d (.int .i64 (m : Int))) w) (hw : wg n ops g e = true := by rfl) (hd : Nat.blt d n = true := by rfl) (hx : ev e x = .slice a m c := by rfl) : LD P n ds ops Q (⟨some d, .call { callee := .builtin .len, args := #[x], argTypes := #[t] }, tt, pp, af, g⟩ :: rest) e w := by
 obtain ⟨v, E', _⟩ := E.el
 exact LD.val (o := ⟨some d, .call { callee := .builtin .len, args := #[x], argTypes := #[t] }, tt, pp, af, g⟩) _ w hw hd (by
  unfold execOp
  simp [resolve, invoke, builtin, Builtin.len_, hx, run_underlying E'.slice, goInt]) h
theorem LD.nchk {x : Operand} {a : Addr} {d tt : Nat} {pp : String} {af : Array Edge} {g : Option (Nat × Bool)} (h : LD P n ds ops Q rest (upd e d (.pointer (some a))) w) (hw : wg n ops g e = true := by rfl) (hd : Nat.blt d n = true := by rfl) (hx : ev e x = .pointer (some a) := by rfl) : LD P n ds ops Q (⟨some d, .nilCheck x, tt, pp, af, g⟩ :: rest) e w :=
 LD.val (o := ⟨some d, .nilCheck x, tt, pp, af, g⟩) _ w hw hd (by
  unfold execOp
  simp [hx]) h
theorem LD.no {o : Oper} (hw : Own.wn n ops o e = false) (hd : okD n o.dst = true) (h : LD P n ds ops Q rest (Own.put e o.dst undef) w) : LD P n ds ops Q (o :: rest) e w := by
 refine ⟨fun a ha => wpList_step fun K hK => ?_⟩
 rw [ha.wn ops o, if_neg (by rw [hw]; decide)]
 exact hK _ _ (h.go _ (ha.put hd undef))
theorem LD.not {op : Op} {d tt : Nat} {pp : String} {af : Array Edge} {g : Option (Nat × Bool)} (h : LD P n ds ops Q rest (upd e d undef) w) (hw : wg n ops g e = false := by rfl) (hd : Nat.blt d n = true := by rfl) : LD P n ds ops Q (⟨some d, op, tt, pp, af, g⟩ :: rest) e w :=
 LD.no (o := ⟨some d, op, tt, pp, af, g⟩) hw hd h
theorem LD.call {f : FuncId} {xs : Array Operand} {ts : Array TypeId} {args : List Value} {R : Ending → World → Prop} {tt : Nat} {pp : String} {af : Array Edge} {g : Option (Nat × Bool)} {d : Nat} [F : FunC P f] (hc : Calls P f args.toArray w R) (h : ∀ x w', R x w' → ∃ v, x = .returned v ∧ LD P n ds ops Q rest (upd e d v) w') (hw : wg n ops g e = true := by rfl) (hd : Nat.blt d n = true := by rfl) (hx : xs.toList.map (ev e) = args := by rfl) : LD P n ds ops Q (⟨some d, .call { callee := .value (.func f), args := xs, argTypes := ts }, tt, pp, af, g⟩ :: rest) e w := by
 obtain ⟨fn, c, h1, h2, h3⟩ := F.fn
 refine ⟨fun a ha => wpList_step fun K hK => ?_⟩
 have hwn := ha.wn ops ⟨some d, .call { callee := .value (.func f), args := xs, argTypes := ts }, tt, pp, af, g⟩
 rw [hwn, if_pos (by exact hw)]
 have hargs : xs.map a.eval = args.toArray := by
  apply Array.toList_inj.1
  rw [Array.toList_map, ha.eval, hx]
 have hr : (execOp a.eval ⟨some d, .call { callee := .value (.func f), args := xs, argTypes := ts }, tt, pp, af, g⟩).run P w = .ok (.enter f args.toArray) w := by
  unfold execOp
  simp only [resolve, Act.eval, Deferred.ofValue, Sem.run_bind, Sem.run_pure, Result.andThen_ok, invoke, callFunc]
  have : xs.map (fun x => a.eval x) = args.toArray := hargs
  simp [h1, h2, h3, hargs]
  simpa using h2
 unfold Oper.wp
 rw [hr]
 exact hc.mono fun x w' hR => by
  obtain ⟨v, hx', hl⟩ := h x w' hR
  subst hx'; exact hK _ _ (hl.go _ (ha.put (d := some d) hd v))
theorem LD.defer {f : Fn} {c : Operand} {l m : List Value} {ty : TypeId} {pp : String} {af : Array Edge} {g : Option (Nat × Bool)} (h : LD P n (⟨.fn f m.toArray, l.toArray⟩ :: ds) ops Q rest e w) (hw : wg n ops g e = true := by rfl) (hf : ev e c = .func f l.toArray m.toArray := by rfl) : LD P n ds ops Q (⟨none, .defer { callee := .value c, args := #[], argTypes := #[] }, ty, pp, af, g⟩ :: rest) e w := by
 refine ⟨fun a ha => wpList_step fun K hK => ?_⟩
 have hwn := ha.wn ops ⟨none, .defer { callee := .value c, args := #[], argTypes := #[] }, ty, pp, af, g⟩
 rw [hwn, if_pos (by exact hw)]
 have hcv : a.eval c = .func f l.toArray m.toArray := by rw [ha.eval]; exact hf
 unfold Oper.wp
 have hr : (execOp a.eval ⟨none, .defer { callee := .value c, args := #[], argTypes := #[] }, ty, pp, af, g⟩).run P w = .ok (.defer ⟨.fn f m.toArray, l.toArray⟩) w := by
  unfold execOp
  simp [resolve, hcv, Deferred.ofValue]
 rw [hr]
 exact hK _ _ (h.go _ ⟨ha.size, by simp [Act.put, ha.defers], ha.env⟩)
def bodyD (P : Program) (fn : Func) (R : Ending → World → Prop) : PostD := fun x ds e w => match x with
 | .normal => ∀ a, envOf a = e → Leaves P fn a.tmps R ds .returning w
 | .ret => ∀ a, envOf a = e → Leaves P fn a.tmps R ds .returning w
 | _ => False
theorem frD0 {fn : Func} {args : List Value} (hn : fn.ntmps = n) (ha : Nat.ble args.length n = true) : FrD n [] { tmps := args.toArray ++ Array.replicate (fn.ntmps - args.toArray.size) undef, defers := [] } (env0 args) := by
 have hle : args.length ≤ n := Nat.le_of_ble_eq_true ha
 refine ⟨by simp [hn]; omega, rfl, ?_⟩
 funext t
 rw [env0_get]
 simp only [envOf, Array.getD_eq_getD_getElem?, Array.getElem?_append, List.size_toArray, List.getElem?_toArray]
 by_cases ht : t < args.length
 ·simp [ht]
 ·rw [if_neg ht, List.getElem?_eq_none (by omega)]
  simp only [Array.getElem?_replicate]
  split <;> rfl
theorem enterD {f : FuncId} {fn : Func} {c : Code} {args : List Value} {R : Ending → World → Prop} (hf : P.funcs[f]? = some fn) (hb : fn.body = some c) (hn : fn.ntmps = n) (ha : Nat.ble args.length n = true) (h : D P n [] (bodyD P fn R) c (env0 args) w) : Calls P f args.toArray w R := by
 refine calls_of_wp_defers hf hb ?_
 refine Code.wp_mono (fun x a w' ⟨e', ds, fr, hq⟩ => ?_) (h.go _ (frD0 hn ha))
 cases x <;> first
  | (have := hq a fr.env; rw [← fr.defers] at this; exact this)
  | exact hq.elim
theorem resC1 {s : Ro} {rs : List Asn} {fn : Func} {r ty : Nat} [T : OneC P ty] (i : Nat) {b t : Nat} {v : Value} (H : Holds s w rs) (h : fn.results = #[.cell r ty]) (hr : e r = .pointer (some ⟨b, 0, none⟩)) (hi : rs[i]? = some (var b t [v])) : ResE P fn e w v := fun a ha => by
 have hr' : a.tmps.getD r undef = .pointer (some ⟨b, 0, none⟩) := by rw [← hr, ← ha]; rfl
 rw [Array.getD_eq_getD_getElem?] at hr'
 have hc : w.cell? ⟨b, 0, none⟩ = some v := by rw [cell_of_row w b 0 _ _ _ (H.var hi)]; rfl
 obtain ⟨d, hu, hd⟩ := T.desc
 have hagg : (isAgg ty).run P w = .ok false w := by
  unfold isAgg
  rw [Sem.run_bind, run_underlying hu w]
  cases d <;> simp_all
 simp [results, h, hr', asAddr, loadVar, Sem.run_bind, hagg, hc]
theorem leaves0 {fn : Func} {R : Ending → World → Prop} {v : Value} (hv : ResE P fn e w v) (h : R (.returned v) w) : ∀ a, envOf a = e → Leaves P fn a.tmps R [] .returning w := fun a ha => ⟨v, hv a ha, h⟩
theorem leaves1 {fn : Func} {R R1 : Ending → World → Prop} {f : FuncId} {l m all : List Value} (F : FunC P f) (hall : l ++ m = all) (hc : CallsD P f all.toArray .returning w fun x u' w' => u' = .returning ∧ R1 x w')
  (h : ∀ x w', R1 x w' → ∃ v, x = .returned v ∧ ∃ v', ResE P fn e w' v' ∧ R (.returned v') w') : ∀ a, envOf a = e → Leaves P fn a.tmps R [⟨.fn (.func f) m.toArray, l.toArray⟩] .returning w := by
 intro a ha
 obtain ⟨fn2, c2, h1, h2, h3⟩ := F.fn
 refine leaves_cons (f := f) (args := all.toArray) (by simp) ?_ (hc.mono fun x u' w' ⟨hu, hR⟩ => ?_)
 ·simp only [invoke, callFunc]
  have h2' : ¬ fn2.name = "runtime.NumGoroutine" := by simpa using h2
  simp [h1, h2', h3, ← hall]
 ·obtain ⟨v, rfl, v', hv', hR'⟩ := h x w' hR
  subst hu
  exact ⟨v', hv' a ha, hR'⟩
theorem callsD {f : FuncId} {fn : Func} {c : Code} {args : List Value} {R : Ending → World → Prop} {u : FrameMode} (hf : P.funcs[f]? = some fn) (hb : fn.body = some c) (hn : fn.ntmps = n) (ha : Nat.ble args.length n = true) (h : C P n (bodyQ P fn R) c (env0 args) w) : CallsD P f args.toArray u w fun x u' w' => u' = u ∧ R x w' := by
 refine callsD_of_wp hf hb ?_
 have fr0 := frD0 (n := n) (args := args) hn ha
 refine Code.wp_mono (fun x a w' ⟨e', fr, hq⟩ => ?_) (h.go _ ⟨fr0.size, rfl, fr0.env⟩)
 cases x <;> first
   | (obtain ⟨v, h1, h2⟩ := hq; exact ⟨fr.defers, v, h1 a fr.env, h2⟩)
   | exact hq.elim
end
end Go.Own

/- Squeezed copy of the texts K8f Wi. -/
import Derived.Test.YtgilmcpdpggikaaGreatDoorCK3
import Derived.Test.YtgilmcpdpggikaaGreatDoorCWb
import Derived.Test.YtgilmcpdpggikaaGreatDoorCK4
import Derived.Test.YtgilmcpdpggikaaGreatDoorCRf
set_option maxRecDepth 100000
set_option maxHeartbeats 1000000
set_option linter.unusedSimpArgs false
set_option linter.unusedVariables false
namespace Go.Reg
open Go
section
variable {P : Program} {ops : Array Oper}
theorem wpOp_of_stp {Q : Exit → Act → World → Prop} {i : Nat} {K : Act → World → Prop} {a : Act} {w : World} (h : stp P ops i K a w) : wpOp P ops Q i K a w := by
 unfold stp at h
 unfold wpOp
 split
 ·rename_i ho; simp [ho] at h
 ·rename_i o ho
  simp only [ho] at h
  split
  ·rename_i hw; rw [if_pos hw] at h; exact .inl (wp_mono_nope (fun _ _ h => h) h)
  ·rename_i hw; rw [if_neg hw] at h; exact h
theorem any_of_inv (hlow : lowB ops = true) {Q : Exit → Act → World → Prop} (J : Array Bool → Act → World → Prop)
  (step : ∀ (listed : Array Bool) i o a w, ops[i]? = some o → listed.size = ops.size → listed.getD i true = false → Closed ops listed → (∀ e ∈ o.after, Region.binds .any e = true → listed.getD e.on false = true) → J listed a w → wpOp P ops Q i (J (listed.setIfInBounds i true)) a w)
  (hend : ∀ (listed : Array Bool) a w, (∀ i, i < ops.size → listed.getD i false = true) → J listed a w → Q .normal a w) :
  ∀ (n : Nat) (l : List Nat) (listed : Array Bool) (a : Act) (w : World), l.length = n → Closed ops listed → listed.size = ops.size → (∀ i, listed.getD i true = false ↔ i ∈ l) → l.Nodup → J listed a w → wpAny P .any ops Q n listed a w := by
 obtain ⟨low, hns⟩ := low_spec hlow
 have fin : ∀ (listed : Array Bool) (a : Act) (w : World), listed.size = ops.size → (∀ i, ¬ listed.getD i true = false) → J listed a w → Q .normal a w := by
  intro listed a w hsz hno h
  refine hend listed a w (fun i hi => ?_) h
  have hs : i < listed.size := by omega
  have := hno i
  simp only [Array.getD_eq_getD_getElem?, Array.getElem?_eq_getElem hs, Option.getD_some] at this ⊢
  simpa using this
 intro n
 induction n with
 | zero =>
  intro l listed a w hl hc hsz hmem hnd h
  obtain rfl : l = [] := List.eq_nil_of_length_eq_zero hl
  have hno : ∀ i, ¬ listed.getD i true = false := fun i hi => by simpa using (hmem i).1 hi
  refine ⟨?_, fin listed a w hsz hno h⟩
  rw [List.eq_nil_iff_forall_not_mem]
  intro i hi
  exact hno i (mem_ready.1 hi).1
 | succ n ih =>
  intro l listed a w hl hc hsz hmem hnd h
  refine ⟨fun hr => ?_, fun i hi => ?_⟩
  ·exfalso
   have hex : ∃ m, listed.getD m true = false := by
    match l, hl with
    | x :: r, _ => exact ⟨x, (hmem x).2 (by simp)⟩
   obtain ⟨m, hm, hmin⟩ : ∃ m, listed.getD m true = false ∧ ∀ k < m, ¬ listed.getD k true = false := by
    obtain ⟨m0, hm0⟩ := hex
    induction m0 using Nat.strongRecOn with
    | _ m ihm =>
     by_cases hk : ∃ k < m, listed.getD k true = false
     ·obtain ⟨k, hk1, hk2⟩ := hk; exact ihm k hk1 hk2
     ·exact ⟨m, hm0, fun k hk1 hk2 => hk ⟨k, hk1, hk2⟩⟩
   have hms : m < ops.size := by
    rcases Nat.lt_or_ge m listed.size with h' | h'
    ·omega
    ·simp [Array.getElem?_eq_none h'] at hm
   have : m ∈ Region.ready .any ops listed := mem_ready.2 ⟨hm, ops[m], by simp [hms], fun e he hb => by
    have hlt := low m ops[m] (by simp [hms]) e he hb
    have h1 := hmin e.on hlt
    have h2 : e.on < listed.size := by omega
    simp [h2] at h1 ⊢; exact h1⟩
   rw [hr] at this
   cases this
  ·obtain ⟨hun, o, ho, hall⟩ := mem_ready.1 hi
   have hil := (hmem i).1 hun
   have hst := step listed i o a w ho hsz hun hc hall h
   have his : i < listed.size := by
    rcases Nat.lt_or_ge i listed.size with h' | h'
    ·exact h'
    ·simp [Array.getElem?_eq_none h'] at hun
   refine wpOp_mono (fun a' w' hk => ih (l.erase i) (listed.setIfInBounds i true) a' w' ?_ ?_ (by simp [hsz]) ?_ (hnd.erase i) hk) hst
   ·rw [List.length_erase_of_mem hil]; omega
   ·intro j oj hoj hlj e he hbd
    have hset : ∀ k, listed.getD k false = true → (listed.setIfInBounds i true).getD k false = true := by
     intro k hk
     by_cases hkx : i = k
     ·subst hkx; simp [his]
     ·simpa [Array.getElem?_setIfInBounds_ne hkx] using hk
    by_cases hjx : i = j
    ·subst hjx
     rw [ho] at hoj; cases hoj
     exact hset _ (hall e he hbd)
    ·have : listed.getD j false = true := by simpa [Array.getElem?_setIfInBounds_ne hjx] using hlj
     exact hset _ (hc j oj hoj this e he hbd)
   ·intro k
    rw [hnd.mem_erase_iff]
    by_cases hkx : i = k
    ·subst hkx
     simp only [Array.getD_eq_getD_getElem?, Array.getElem?_setIfInBounds_self, his, if_true, Option.getD_some]
     simp
    ·have h1 := hmem k
     simp only [Array.getD_eq_getD_getElem?, Array.getElem?_setIfInBounds_ne hkx] at h1 ⊢
     rw [h1]
     exact ⟨fun h => ⟨fun hh => hkx hh.symm, h⟩, fun h => h.2⟩
theorem rep_f (m i : Nat) : (Array.replicate m false).getD i false = false := by
 rw [Array.getD_eq_getD_getElem?, Array.getElem?_replicate]
 split <;> rfl
theorem rep_t (m i : Nat) : (Array.replicate m false).getD i true = false ↔ i < m := by
 rw [Array.getD_eq_getD_getElem?, Array.getElem?_replicate]
 split <;> simp [*]
theorem region8 {id : Nat} {l : List Oper} {Q : Exit → Act → World → Prop} {a : Act} {w : World} (hm : P.follows .mixedOrders = true) (hlow : lowB l.toArray = true) (J : Array Bool → Act → World → Prop) (h0 : J (Array.replicate l.length false) a w.drew)
  (step : ∀ (listed : Array Bool) i o a w, l.toArray[i]? = some o → listed.size = l.toArray.size → listed.getD i true = false → Closed l.toArray listed → (∀ e ∈ o.after, Region.binds .any e = true → listed.getD e.on false = true) → J listed a w → wpOp P l.toArray Q i (J (listed.setIfInBounds i true)) a w)
  (hend : ∀ (listed : Array Bool) a w, (∀ i, i < l.toArray.size → listed.getD i false = true) → J listed a w → Q .normal a w) : (Code.region id l.toArray true).wp P Q a w := by
 refine wp_region_any hm (any_of_inv hlow J step hend l.toArray.size (List.range l.toArray.size) _ a _ (by simp) ?_ (by simp) ?_ List.nodup_range (by simpa using h0))
 ·intro j o _ hj
  rw [rep_f] at hj; cases hj
 ·intro i
  rw [List.mem_range, rep_t]
end
end Go.Reg
namespace Go.Own
open Go Go.RowKit
section
variable {s : Ro} {w : World}
theorem Sep.perm {rs rs' : List Asn} (h : rs.Perm rs') : ∀ {F : List Nat}, Sep w rs F → ∃ F', Sep w rs' F' ∧ ∀ k, k ∈ F' ↔ k ∈ F := by
 induction h with
 | nil => intro F h; exact ⟨F, h, fun _ => Iff.rfl⟩
 | cons A _ ih =>
  rintro F ⟨F1, F2, rfl, h1, h2, h3⟩
  obtain ⟨F2', g1, g2⟩ := ih h2
  exact ⟨F1 ++ F2', ⟨F1, F2', rfl, h1, g1, fun k hk hk2 => h3 k hk ((g2 k).1 hk2)⟩, fun k => by simp [g2]⟩
 | swap A B l =>
  rintro F ⟨F1, F2, rfl, h1, ⟨F3, F4, rfl, h4, h5, h6⟩, h3⟩
  refine ⟨F3 ++ (F1 ++ F4), ⟨F3, F1 ++ F4, rfl, h4, ⟨F1, F4, rfl, h1, h5, fun k hk hk2 => h3 k hk (by simp [hk2])⟩, fun k hk hk2 => ?_⟩, fun k => ?_⟩
  ·rcases List.mem_append.1 hk2 with h | h
   ·exact h3 k h (by simp [hk])
   ·exact h6 k hk h
  ·simp only [List.mem_append]; exact ⟨fun h => by rcases h with h | h | h <;> simp [h], fun h => by rcases h with h | h | h <;> simp [h]⟩
 | trans _ _ ih1 ih2 =>
  intro F h
  obtain ⟨F1, a1, a2⟩ := ih1 h
  obtain ⟨F2, b1, b2⟩ := ih2 a1
  exact ⟨F2, b1, fun k => (b2 k).trans (a2 k)⟩
theorem Holds.perm {rs rs' : List Asn} (H : Holds s w rs) (h : rs.Perm rs') : Holds s w rs' := by
 obtain ⟨hf, F, hF, hn⟩ := H
 obtain ⟨F', h1, h2⟩ := hF.perm h
 exact ⟨hf, F', h1, fun k hk => hn k ((h2 k).1 hk)⟩
end
structure FS where
 at_ : Nat
 deps : List Nat
 uses : List Nat
 fact : Ro → Value → Prop
 own : Value → Value → List Asn
 at2 : Nat
 mono : ∀ {s s' : Ro} {v : Value}, s.Le s' → fact s v → fact s' v
 pre : List Asn
def FS.v (at_ : Nat) (deps : List Nat) (v : Value) : FS := ⟨at_, deps, [], fun _ x => x = v, fun _ _ => [], at_, fun _ h => h, []⟩
def FS.sl (at_ : Nat) (deps : List Nat) (sz n : Nat) (xs : List Value) : FS := ⟨at_, deps, [], fun s x => ∃ a c, x = .slice a n c ∧ SlS s x sz n xs, fun _ _ => [], at_, fun hs ⟨a, c, h, k⟩ => ⟨a, c, h, k.mono hs⟩, []⟩
def FS.f (at_ : Nat) (deps : List Nat) (fact : Ro → Value → Prop) (mono : ∀ {s s' : Ro} {v : Value}, s.Le s' → fact s v → fact s' v) : FS := ⟨at_, deps, [], fact, fun _ _ => [], at_, mono, []⟩
def ownVar (t : TypeId) (cs : List Value) : Value → Value → List Asn
 | .pointer (some a), _ => [var a.block t cs]
 | _, _ => []
def ownAt (t : TypeId) : Value → Value → List Asn
 | .pointer (some a), .agg cs => [var a.block t cs.toList]
 | _, _ => []
def FS.new (at_ : Nat) (t : TypeId) (cs : List Value) : FS := ⟨at_, [], [], fun _ x => ∃ b, x = .pointer (some ⟨b, 0, none⟩), ownVar t cs, at_, fun _ h => h, []⟩
def FS.put2 (at_ at2 i : Nat) (deps : List Nat) (t : TypeId) : FS := ⟨at_, deps, [i], fun _ x => ∃ b, x = .pointer (some ⟨b, 0, none⟩), ownAt t, at2, fun _ h => h, []⟩
def allF : List (Ro → Value → Prop) → Ro → (List Value → Prop) → Prop
 | [], _, k => k []
 | f :: r, s, k => ∀ v, f s v → allF r s (fun vs => k (v :: vs))
theorem allF_go {e : Nat → Value} {s : Ro} : ∀ (l : List (Nat × (Ro → Value → Prop))) {k : List Value → Prop}, allF (l.map (·.2)) s k → (∀ x ∈ l, x.2 s (e x.1)) → k (l.map fun x => e x.1)
 | [], k, h, _ => h
 | x :: l, k, h, hx => by
  have h1 := h (e x.1) (hx x (by simp))
  exact allF_go l (k := fun vs => k (e x.1 :: vs)) h1 (fun y hy => hx y (by simp [hy]))
def fsAt (fs : List FS) (j : Nat) : FS := fs.getD j ⟨0, [], [], fun _ _ => True, fun _ _ => [], 0, fun _ h => h, []⟩
def dstsOf (l : List Oper) : List Nat := l.filterMap (·.dst)
def directB (o : Oper) (j : Nat) : Bool := o.after.any fun e => Region.binds .any e && Nat.beq e.on j
def ancB (l : List Oper) : List Nat := l.foldl (fun ms o => ms ++ [o.after.foldl (fun r e => if Region.binds .any e then r ||| (2 ^ e.on ||| ms.getD e.on 0) else r) 0]) []
def fromB (l : List Oper) (m : Nat) (o : Oper) (t : Nat) : Bool := o.dst == some t || (List.range m).any fun j => directB o j && (match l[j]? with | some p => p.dst == some t | none => false)
def okF (P : Program) (l : List Oper) (ats ats2 : List Nat) (deps uses : List (List Nat)) : Bool :=
 P.follows .mixedOrders && Reg.lowB l.toArray && Nat.ble ats.length l.length && Nat.beq ats2.length ats.length && Nat.beq deps.length ats.length && Nat.beq uses.length ats.length && decide ((dstsOf l).Nodup) && decide (uses.flatten.Nodup) && Reg.masksOk l.toArray (ancB l) &&
 ((List.range l.length).all fun k => Nat.blt k ats.length || (List.range k).all fun j => ((ancB l).getD k 0).testBit j) &&
 (List.range ats.length).all fun i => match l[i]? with
  | none => true
  | some o => (deps.getD i []).all (directB o) && (uses.getD i []).all (directB o) && fromB l ats.length o (ats.getD i 0) && fromB l ats.length o (ats2.getD i 0)
section
variable {P : Program} {n : Nat} {Q : Post} {e : Env} {w : World} {s : Ro} {R : List Asn}
abbrev stepQ (f : FS) (wr : List Nat) (R : List Asn) (s : Ro) (e : Env) : Post := fun x e' w' => x = .normal ∧ Agr wr e e' ∧ ∃ s', s.Le s' ∧ f.fact s' (e' f.at_) ∧ Holds s' w' (f.own (e' f.at_) (e' f.at2) ++ R)
def StepF (P : Program) (n : Nat) (ops : Array Oper) (D : List Nat) (e : Env) (s : Ro) (R : List Asn) (fs : List FS) (f : FS) (o : Oper) : Prop :=
 ∀ (s' : Ro) (h : Env) (w : World) (E : List Asn), s.Le s' → allF (f.deps.map fun j => (fsAt fs j).fact) s' fun vs =>
  Holds s' w (f.uses.flatMap (fun j => (fsAt fs j).own (upds (f.deps.map fun j => (fsAt fs j).at_) vs (hav D h e) (fsAt fs j).at_) (upds (f.deps.map fun j => (fsAt fs j).at_) vs (hav D h e) (fsAt fs j).at2)) ++ (f.pre ++ (R ++ E))) →
  L P n ops (stepQ f o.dst.toList (R ++ E) s' (upds (f.deps.map fun j => (fsAt fs j).at_) vs (hav D h e))) [o] (upds (f.deps.map fun j => (fsAt fs j).at_) vs (hav D h e)) w
def StepsF (P : Program) (n : Nat) (ops : Array Oper) (D : List Nat) (e : Env) (s : Ro) (R : List Asn) (fs : List FS) : List FS → List Oper → Prop
 | f :: r, o :: l => StepF P n ops D e s R fs f o ∧ StepsF P n ops D e s R fs r l
 | _, _ => True
theorem StepsF.nil {ops : Array Oper} {D : List Nat} {fs : List FS} {l : List Oper} : StepsF P n ops D e s R fs [] l := by cases l <;> exact trivial
theorem StepsF.cons {ops : Array Oper} {D : List Nat} {fs r : List FS} {l : List Oper} {f : FS} {o : Oper} (h : StepF P n ops D e s R fs f o) (k : StepsF P n ops D e s R fs r l) : StepsF P n ops D e s R fs (f :: r) (o :: l) := ⟨h, k⟩
theorem stepsF_get {ops : Array Oper} {D : List Nat} {fs : List FS} : ∀ (r : List FS) (l : List Oper) (i : Nat) (f : FS) (o : Oper), StepsF P n ops D e s R fs r l → r[i]? = some f → l[i]? = some o → StepF P n ops D e s R fs f o
 | [], _, i, f, o, _, h, _ => by simp at h
 | _ :: _, [], i, f, o, _, _, h => by simp at h
 | g :: r, p :: l, 0, f, o, hs, h1, h2 => by
  simp at h1 h2; subst h1 h2; exact hs.1
 | g :: r, p :: l, i + 1, f, o, hs, h1, h2 => stepsF_get r l i f o hs.2 (by simpa using h1) (by simpa using h2)
theorem flatten_once : ∀ (l : List (List Nat)), l.flatten.Nodup → ∀ {i j k : Nat}, i ≠ j → k ∈ (l[i]?).getD [] → k ∈ (l[j]?).getD [] → False
 | [], _, i, j, k, _, h, _ => by simp at h
 | x :: l, hn, i, j, k, hij, h1, h2 => by
  rw [List.flatten_cons, List.nodup_append] at hn
  obtain ⟨n1, n2, n3⟩ := hn
  have hm : ∀ {m : Nat}, k ∈ (l[m]?).getD [] → k ∈ l.flatten := by
   intro m h
   cases hq : l[m]? with
   | none => rw [hq] at h; simp at h
   | some y => rw [hq] at h; exact List.mem_flatten.2 ⟨y, List.mem_of_getElem? hq, by simpa using h⟩
  cases i with
  | zero =>
   cases j with
   | zero => exact hij rfl
   | succ j => exact n3 k (by simpa using h1) k (hm (by simpa using h2)) rfl
  | succ i =>
   cases j with
   | zero => exact n3 k (by simpa using h2) k (hm (by simpa using h1)) rfl
   | succ j => exact flatten_once l n2 (i := i) (j := j) (k := k) (by omega) (by simpa using h1) (by simpa using h2)
theorem dst_once : ∀ (l : List Oper), (dstsOf l).Nodup → ∀ {i j d : Nat} {o p : Oper}, l[i]? = some o → l[j]? = some p → o.dst = some d → p.dst = some d → i = j
 | [], _, i, j, d, o, p, h, _, _, _ => by simp at h
 | x :: l, hn, i, j, d, o, p, h1, h2, h3, h4 => by
  have hm : ∀ {m : Nat} {q : Oper}, l[m]? = some q → q.dst = some d → d ∈ dstsOf l := fun h h' => List.mem_filterMap.2 ⟨_, List.mem_of_getElem? h, h'⟩
  have hx : ∀ {m : Nat} {q : Oper}, x.dst = some d → l[m]? = some q → q.dst = some d → False := by
   intro m q hxd hq hqd
   have e1 : dstsOf (x :: l) = d :: dstsOf l := by unfold dstsOf; rw [List.filterMap_cons, hxd]
   rw [e1, List.nodup_cons] at hn
   exact hn.1 (hm hq hqd)
  have hn2 : (dstsOf l).Nodup := by
   have e1 : (dstsOf l).Sublist (dstsOf (x :: l)) := List.Sublist.filterMap _ (List.sublist_cons_self _ _)
   exact List.Nodup.sublist e1 hn
  cases i with
  | zero =>
   simp at h1; subst h1
   cases j with
   | zero => rfl
   | succ j => exact (hx h3 (by simpa using h2) h4).elim
  | succ i =>
   cases j with
   | zero => simp at h2; subst h2; exact (hx h4 (by simpa using h1) h3).elim
   | succ j => exact congrArg (· + 1) (dst_once l hn2 (by simpa using h1) (by simpa using h2) h3 h4)
theorem flatMap_congr' {α β : Type} {f g : α → List β} : ∀ {l : List α}, (∀ x ∈ l, f x = g x) → l.flatMap f = l.flatMap g
 | [], _ => rfl
 | x :: l, h => by rw [List.flatMap_cons, List.flatMap_cons, h x (by simp), flatMap_congr' fun y hy => h y (by simp [hy])]
theorem C.flowI {id : Nat} {l : List Oper} (fs : List FS) (outs live : List Nat) (H : Holds s w (((List.range fs.length).flatMap fun i => (fsAt fs i).pre) ++ R)) (hok : okF P l (fs.map (·.at_)) (fs.map (·.at2)) (fs.map (·.deps)) (fs.map (·.uses)) = true)
  (hlive : ((List.range fs.length).filter fun i => !(((fs.map (·.uses)).flatten).contains i)) = live) (houts : outs.all (fun j => Nat.blt j fs.length) = true)
  (hsteps : StepsF P n l.toArray (dstsOf l) e s R fs fs l)
  (hend : ∀ (s' : Ro) (h : Env) (w' : World), s.Le s' → allF (outs.map fun j => (fsAt fs j).fact) s' fun vs =>
   Holds s' w' (live.flatMap (fun j => (fsAt fs j).own (upds (outs.map fun j => (fsAt fs j).at_) vs (hav (dstsOf l) h e) (fsAt fs j).at_) (upds (outs.map fun j => (fsAt fs j).at_) vs (hav (dstsOf l) h e) (fsAt fs j).at2)) ++ R) →
   L P n l.toArray (fun x e w => x = .normal ∧ Q .normal e w) (l.drop fs.length) (upds (outs.map fun j => (fsAt fs j).at_) vs (hav (dstsOf l) h e)) w') : C P n Q (.region id l.toArray true) e w := by
 obtain ⟨⟨hms, htail⟩, hm, hlow, hlen, hnd, hund, hops⟩ : (Reg.masksOk l.toArray (ancB l) = true ∧ ∀ k, k < l.length → fs.length ≤ k → ∀ j, j < k → ((ancB l).getD k 0).testBit j = true) ∧ P.follows .mixedOrders = true ∧ Reg.lowB l.toArray = true ∧ fs.length ≤ l.length ∧ (dstsOf l).Nodup ∧ ((fs.map (·.uses)).flatten).Nodup ∧ ∀ i o, i < fs.length → l[i]? = some o → (∀ j ∈ (fsAt fs i).deps, directB o j = true) ∧ (∀ j ∈ (fsAt fs i).uses, directB o j = true) ∧ (o.dst = some (fsAt fs i).at_ ∨ ∃ j p, directB o j = true ∧ l[j]? = some p ∧ p.dst = some (fsAt fs i).at_) ∧ (o.dst = some (fsAt fs i).at2 ∨ ∃ j p, directB o j = true ∧ l[j]? = some p ∧ p.dst = some (fsAt fs i).at2) := by
  simp only [okF, Bool.and_eq_true, Nat.beq_eq, Nat.ble_eq, decide_eq_true_eq, List.length_map] at hok
  obtain ⟨⟨⟨⟨⟨⟨⟨⟨⟨⟨h1, h2⟩, h3⟩, _⟩, _⟩, _⟩, h4⟩, h5⟩, h7⟩, h8⟩, h6⟩ := hok
  refine ⟨⟨h7, fun k hk hmk j hj => ?_⟩, h1, h2, h3, h4, h5, fun i o hfi ho => ?_⟩
  ·have := List.all_eq_true.1 h8 k (List.mem_range.2 hk)
   rw [Bool.or_eq_true] at this
   rcases this with h | h
   ·simp only [Nat.blt_eq] at h; omega
   ·exact List.all_eq_true.1 h j (List.mem_range.2 hj)
  have hil : i < l.length := (List.getElem?_eq_some_iff.1 ho).1
  have := List.all_eq_true.1 h6 i (List.mem_range.2 hfi)
  have e0 : fsAt fs i = fs[i] := by unfold fsAt; simp [hfi]
  simp only [ho, Bool.and_eq_true, List.all_eq_true, List.getD_eq_getElem?_getD, List.getElem?_map, List.getElem?_eq_getElem hfi, Option.map_some, Option.getD_some] at this
  obtain ⟨⟨⟨g1, g2⟩, g3⟩, g4⟩ := this
  have hfr : ∀ {t : Nat}, fromB l fs.length o t = true → (o.dst = some t ∨ ∃ j p, directB o j = true ∧ l[j]? = some p ∧ p.dst = some t) := by
   intro t h
   unfold fromB at h
   rw [Bool.or_eq_true] at h
   rcases h with h | h
   ·exact .inl (by simpa using h)
   ·simp only [List.any_eq_true, Bool.and_eq_true] at h
    obtain ⟨j, _, hj, hp⟩ := h
    refine .inr ⟨j, ?_⟩
    cases hp2 : l[j]? with
    | none => rw [hp2] at hp; cases hp
    | some p =>
     rw [hp2] at hp
     exact ⟨p, hj, rfl, by simpa using hp⟩
  rw [e0]
  exact ⟨g1, g2, hfr g3, hfr g4⟩
 have hlowS := (Reg.low_spec hlow).1
 have hdir : ∀ {o : Oper} {j : Nat}, directB o j = true → ∃ e ∈ o.after, Region.binds .any e = true ∧ e.on = j := by
  intro o j h
  unfold directB at h
  obtain ⟨e, he, h2⟩ := Array.any_eq_true'.1 h
  simp only [Bool.and_eq_true, Nat.beq_eq] at h2
  exact ⟨e, he, h2.1, h2.2⟩
 have hat : ∀ {o : Oper} {i : Nat}, l[i]? = some o → l.toArray[i]? = some o := fun h => by simpa using h
 have husd : ∀ k, k ∈ (fs.map (·.uses)).flatten ↔ ∃ i, i < fs.length ∧ k ∈ (fsAt fs i).uses := by
  intro k
  simp only [List.mem_flatten, List.mem_map]
  constructor
  ·rintro ⟨_, ⟨f, hf, rfl⟩, hk⟩
   obtain ⟨i, hi, rfl⟩ := List.mem_iff_getElem.1 hf
   exact ⟨i, hi, by unfold fsAt; simpa [hi] using hk⟩
  ·rintro ⟨i, hfi, hk⟩
   exact ⟨_, ⟨fs[i], List.getElem_mem _, rfl⟩, by unfold fsAt at hk; simpa [hfi] using hk⟩
 have hback : ∀ {listed : Array Bool} {k : Nat} {o : Oper}, l[k]? = some o → Reg.Closed l.toArray listed → (∀ e ∈ o.after, Region.binds .any e = true → listed.getD e.on false = true) → fs.length ≤ k → ∀ j, j < k → listed.getD j false = true := by
  intro listed k o ho hc hall hk j hj
  have hkl : k < l.length := (List.getElem?_eq_some_iff.1 ho).1
  obtain ⟨f, hrf⟩ := Reg.masks_reach hms hlowS k j (by simpa using hkl) (htail k hkl hk j hj)
  exact Reg.reach_listed hc f k j hrf (fun o' ho' e' he' hb' => by
   rw [hat ho] at ho'; cases ho'; exact hall e' he' hb')
 let JE : Array Bool → Act → World → Prop := fun listed a w => ∃ e1, Fr n a e1 ∧ ∃ s1, s.Le s1 ∧ Agr (dstsOf l) e e1 ∧ (∀ i, listed.getD i false = true → (fsAt fs i).fact s1 (e1 (fsAt fs i).at_)) ∧
  ∃ U : List Nat, U.Nodup ∧ (∀ k, k ∈ U ↔ (k < fs.length ∧ listed.getD k false = false)) ∧ ∃ L : List Nat, L.Nodup ∧ (∀ k, k ∈ L ↔ (listed.getD k false = true ∧ ¬ ∃ i, listed.getD i false = true ∧ k ∈ (fsAt fs i).uses)) ∧ Holds s1 w ((R ++ U.flatMap fun k => (fsAt fs k).pre) ++ L.flatMap (fun k => (fsAt fs k).own (e1 (fsAt fs k).at_) (e1 (fsAt fs k).at2)))
 let QN : Act → World → Prop := fun a w => lift n Q .normal a w
 let JT : Array Bool → Act → World → Prop := fun listed a w => ∃ c, fs.length ≤ c ∧ (∀ k, k < c → listed.getD k false = true) ∧ (∀ k, c ≤ k → listed.getD k false = false) ∧ wpList P l.toArray (Reg.onN QN) (l.drop c) a w
 have hfinal : ∀ (listed : Array Bool) (a : Act) (w : World), (∀ k, fs.length ≤ k → listed.getD k false = false) → (∀ k, k < fs.length → listed.getD k false = true) → JE listed a w → wpList P l.toArray (Reg.onN QN) (l.drop fs.length) a w := by
  rintro listed a w hnone hdn ⟨e1, fr, s1, hs1, hag, hfacts, U, _, hUm, L, hLn, hLm, H⟩
  have hU0 : U = [] := List.eq_nil_iff_forall_not_mem.2 fun k hk => by
   have := (hUm k).1 hk
   rw [hdn k this.1] at this; cases this.2
  rw [hU0, List.flatMap_nil, List.append_nil] at H
  have hend2 := allF_go (e := e1) (s := s1) (outs.map fun j => ((fsAt fs j).at_, (fsAt fs j).fact)) (k := _) (by
   rw [List.map_map]
   exact hend s1 e1 w hs1) (by
   intro x hx
   obtain ⟨j, hj, rfl⟩ := List.mem_map.1 hx
   exact hfacts j (hdn j (by have := List.all_eq_true.1 houts j hj; simpa using this)))
  rw [List.map_map] at hend2
  have henv : upds (outs.map fun j => (fsAt fs j).at_) (outs.map ((fun x => e1 x.1) ∘ fun j => ((fsAt fs j).at_, (fsAt fs j).fact))) (hav (dstsOf l) e1 e) = e1 := by
   rw [← hag.eq]
   have : (outs.map ((fun x => e1 x.1) ∘ fun j => ((fsAt fs j).at_, (fsAt fs j).fact))) = (outs.map fun j => (fsAt fs j).at_).map e1 := by rw [List.map_map]; rfl
   rw [this, upds_map e1]
  rw [henv] at hend2
  refine wpList_post ?_ ((hend2 (H.perm ?_)).go a fr)
  ·rintro x a' w' ⟨e2, fr2, rfl, hq⟩
   exact ⟨e2, fr2, hq⟩
  refine List.perm_append_comm.trans (List.Perm.append_right _ ?_)
  refine List.Perm.flatMap_right _ ?_
  refine (List.perm_ext_iff_of_nodup hLn (by rw [← hlive]; exact List.nodup_range.filter _)).2 fun k => ?_
  have hlt : ∀ k, listed.getD k false = true → k < fs.length := fun k hk => by
   rcases Nat.lt_or_ge k fs.length with h' | h'
   ·exact h'
   ·rw [hnone k h'] at hk; cases hk
  rw [← hlive, hLm]
  simp only [List.mem_filter, List.mem_range, Bool.not_eq_true', List.contains_eq_mem, decide_eq_false_iff_not, husd]
  constructor
  ·rintro ⟨h1, h2⟩
   exact ⟨hlt k h1, fun ⟨i, hi, hk⟩ => h2 ⟨i, hdn i hi, hk⟩⟩
  ·rintro ⟨h1, h2⟩
   exact ⟨hdn k h1, fun ⟨i, hi, hk⟩ => h2 ⟨i, hlt i hi, hk⟩⟩
 have hdnS : ∀ {listed : Array Bool} {i : Nat}, i < listed.size → ∀ k, (listed.setIfInBounds i true).getD k false = true ↔ (k = i ∨ listed.getD k false = true) := by
  intro listed i his k
  by_cases hk : i = k
  ·subst hk; simp [his]
  ·simp only [Array.getD_eq_getD_getElem?, Array.getElem?_setIfInBounds_ne hk]
   exact ⟨.inr, fun h => h.resolve_left fun h => hk h.symm⟩
 have hno : ∀ {b : Bool}, ¬ b = true → b = false := fun h => by simpa using h
 refine ⟨fun a ha => Reg.region8 hm hlow (fun listed a w => listed.size = l.length ∧ ((∀ k, fs.length ≤ k → listed.getD k false = false) ∧ JE listed a w ∨ JT listed a w)) ?_ ?_ ?_⟩
 ·refine ⟨by simp, .inl ⟨fun k _ => Reg.rep_f _ _, e, ha, s, Ro.Le.refl _, Agr.refl, fun i hi => ?_, List.range fs.length, List.nodup_range, fun k => by rw [Reg.rep_f]; simp, [], List.nodup_nil, fun k => ?_, by rw [List.flatMap_nil, List.append_nil]; exact H.drew.perm List.perm_append_comm⟩⟩
  ·rw [Reg.rep_f] at hi; cases hi
  ·constructor
   ·intro h; simp at h
   ·rintro ⟨hi, _⟩
    rw [Reg.rep_f] at hi; cases hi
 ·rintro listed i o a w ho hsz hun hc hall ⟨_, hJ⟩
  have hol : l[i]? = some o := by simpa using ho
  have hil : i < l.length := (List.getElem?_eq_some_iff.1 hol).1
  have his : i < listed.size := by rw [hsz]; simpa using hil
  have hnl0 : listed.getD i false = false := Reg.getD_both hun
  -- behind the others
  have htl : ∀ c, fs.length ≤ c → (∀ k, k < c → listed.getD k false = true) → (∀ k, c ≤ k → listed.getD k false = false) → wpList P l.toArray (Reg.onN QN) (l.drop c) a w → i = c → wpOp P l.toArray (lift n Q) i (fun a w => (listed.setIfInBounds i true).size = l.length ∧ ((∀ k, fs.length ≤ k → (listed.setIfInBounds i true).getD k false = false) ∧ JE (listed.setIfInBounds i true) a w ∨ JT (listed.setIfInBounds i true) a w)) a w := by
   intro c hfc hc1 hc2 hw hic
   subst hic
   rw [List.drop_eq_getElem_cons hil, show l[i] = o by rw [List.getElem?_eq_getElem hil] at hol; exact Option.some.inj hol] at hw
   refine Reg.wpOp_of_stp (Reg.stp_mono (fun a w hk => ⟨by simp [hsz], .inr ⟨i + 1, by omega, fun k hk => (hdnS his k).2 ?_, fun k hk => hno fun h => ?_, hk⟩⟩) (Reg.wp_to_stp (R := QN) ho hw))
   ·by_cases h : k = i
    ·exact .inl h
    ·exact .inr (hc1 k (by omega))
   ·rcases (hdnS his k).1 h with h | h
    ·omega
    ·rw [hc2 k (by omega)] at h; cases h
  rcases hJ with ⟨hnone, hJE⟩ | ⟨c, hfc, hc1, hc2, hw⟩
  rotate_left
  ·refine htl c hfc hc1 hc2 hw ?_
   have h1 : c ≤ i := by
    rcases Nat.lt_or_ge i c with h' | h'
    ·rw [hc1 i h'] at hnl0; cases hnl0
    ·exact h'
   rcases Nat.lt_or_ge c i with h' | h'
   ·have := hback hol hc hall (by omega) c h'
    rw [hc2 c (Nat.le_refl _)] at this; cases this
   ·omega
  by_cases hfi : i < fs.length
  rotate_left
  ·have hallb := hback hol hc hall (by omega)
   have hie : i = fs.length := by
    rcases Nat.lt_or_ge fs.length i with h' | h'
    ·have := hallb fs.length h'
     rw [hnone _ (Nat.le_refl _)] at this; cases this
    ·omega
   exact htl fs.length (Nat.le_refl _) (fun k hk => hallb k (by omega)) hnone (hfinal listed a w hnone (fun k hk => hallb k (by omega)) hJE) hie
  obtain ⟨e1, fr, s1, hs1, hag, hfacts, U, hUn, hUm, L, hLn, hLm, H⟩ := hJE
  have hlt : ∀ k, listed.getD k false = true → k < fs.length := fun k hk => by
   rcases Nat.lt_or_ge k fs.length with h' | h'
   ·exact h'
   ·rw [hnone k h'] at hk; cases hk
  have e0 : fs[i]? = some (fsAt fs i) := by unfold fsAt; simp [hfi]
  obtain ⟨hd1, hd2, _⟩ := hops i o hfi hol
  have hst := stepsF_get fs l i (fsAt fs i) o hsteps e0 hol
  have hnl : listed.getD i false = false := Reg.getD_both hun
  have hdl : ∀ {j}, directB o j = true → listed.getD j false = true := by
   intro j h
   obtain ⟨ed, he, hb, rfl⟩ := hdir h
   exact hall ed he hb
  generalize hf : fsAt fs i = f at *
  have hLp : L.Perm (f.uses ++ L.filter fun k => !(f.uses.contains k)) := by
   have hun2 : f.uses.Nodup := by
    have : f ∈ fs := by rw [← hf]; unfold fsAt; simp [hfi]
    exact List.Nodup.sublist (List.sublist_flatten_of_mem (List.mem_map_of_mem this)) hund
   refine (List.perm_ext_iff_of_nodup hLn ?_).2 fun k => ?_
   ·rw [List.nodup_append]
    exact ⟨hun2, hLn.filter _, fun a ha b hb => by
     simp only [List.mem_filter, Bool.not_eq_true', List.contains_eq_mem, decide_eq_false_iff_not] at hb
     rintro rfl; exact hb.2 ha⟩
   ·simp only [List.mem_append, List.mem_filter, Bool.not_eq_true', List.contains_eq_mem, decide_eq_false_iff_not]
    constructor
    ·intro h
     by_cases hk : k ∈ f.uses
     ·exact .inl hk
     ·exact .inr ⟨h, hk⟩
    ·rintro (h | h)
     ·refine (hLm k).2 ⟨hdl (hd2 k h), ?_⟩
      rintro ⟨j, hj, hkj⟩
      have hji : j ≠ i := by rintro rfl; rw [hnl] at hj; cases hj
      have hjf : j < fs.length := hlt j hj
      have hkj2 : k ∈ ((fs.map (·.uses))[j]?).getD [] := by rw [List.getElem?_map]; unfold fsAt at hkj; simpa [hjf] using hkj
      exact flatten_once (fs.map (·.uses)) hund (i := j) (j := i) (k := k) hji hkj2 (by rw [List.getElem?_map, e0]; simpa using h)
     ·exact h.1
  have hst2 := allF_go (e := e1) (s := s1) (f.deps.map fun j => ((fsAt fs j).at_, (fsAt fs j).fact)) (k := _) (by
   rw [List.map_map]
   exact hst s1 e1 w (((U.erase i).flatMap fun k => (fsAt fs k).pre) ++ (L.filter fun k => !(f.uses.contains k)).flatMap (fun k => (fsAt fs k).own (e1 (fsAt fs k).at_) (e1 (fsAt fs k).at2))) hs1) (by
   intro x hx
   obtain ⟨j, hj, rfl⟩ := List.mem_map.1 hx
   exact hfacts j (hdl (hd1 j hj)))
  rw [List.map_map] at hst2
  have henv : upds (f.deps.map fun j => (fsAt fs j).at_) (f.deps.map ((fun x => e1 x.1) ∘ fun j => ((fsAt fs j).at_, (fsAt fs j).fact))) (hav (dstsOf l) e1 e) = e1 := by
   rw [← hag.eq]
   have : (f.deps.map ((fun x => e1 x.1) ∘ fun j => ((fsAt fs j).at_, (fsAt fs j).fact))) = (f.deps.map fun j => (fsAt fs j).at_).map e1 := by rw [List.map_map]; rfl
   rw [this, upds_map e1]
  rw [henv] at hst2
  have hUp : (U.flatMap fun k => (fsAt fs k).pre).Perm (f.pre ++ (U.erase i).flatMap fun k => (fsAt fs k).pre) := by
   have := (List.perm_cons_erase ((hUm i).2 ⟨hfi, hnl⟩)).flatMap_right (fun k => (fsAt fs k).pre)
   rw [List.flatMap_cons, hf] at this
   exact this
  have hst3 := hst2 (H.perm (by
   refine (((List.Perm.refl R).append hUp).append (hLp.flatMap_right _)).trans ?_
   rw [List.flatMap_append]
   generalize (List.flatMap (fun k => (fsAt fs k).own (e1 (fsAt fs k).at_) (e1 (fsAt fs k).at2)) f.uses) = A1
   generalize (List.flatMap (fun k => (fsAt fs k).own (e1 (fsAt fs k).at_) (e1 (fsAt fs k).at2)) (L.filter fun k => !(f.uses.contains k))) = A2
   generalize (List.flatMap (fun k => (fsAt fs k).pre) (U.erase i)) = A3
   generalize f.pre = A4
   rw [← List.append_assoc]
   refine (List.perm_append_comm.append_right A2).trans ?_
   rw [List.append_assoc]
   refine List.Perm.append_left A1 ?_
   simp only [← List.append_assoc]
   exact (List.perm_append_comm.append_right A3).append_right A2))
  refine Reg.wpOp_of_stp (Reg.wp_to_stp (R := fun a w => (listed.setIfInBounds i true).size = l.length ∧ ((∀ k, fs.length ≤ k → (listed.setIfInBounds i true).getD k false = false) ∧ JE (listed.setIfInBounds i true) a w ∨ JT (listed.setIfInBounds i true) a w)) ho ?_)
  refine wpList_post (Q := lift n (stepQ f o.dst.toList (R ++ (((U.erase i).flatMap fun k => (fsAt fs k).pre) ++ (L.filter fun k => !(f.uses.contains k)).flatMap (fun k => (fsAt fs k).own (e1 (fsAt fs k).at_) (e1 (fsAt fs k).at2)))) s1 e1)) (Q' := Reg.onN _) ?_ (hst3.go a fr)
  rintro x a' w' ⟨e2, fr2, rfl, hag2, s2, hs2, hf2, H2⟩
  have hdn := hdnS his
  have hstab0 : ∀ k, k ≠ i → listed.getD k false = true → ∀ t, (∃ o2, l[k]? = some o2 ∧ (o2.dst = some t ∨ ∃ j p, directB o2 j = true ∧ l[j]? = some p ∧ p.dst = some t)) → e2 t = e1 t := by
   rintro k hki hk t ⟨o2, ho2, hd3k⟩
   refine hag2.at_ _ ?_
   cases hd : o.dst with
   | none => rfl
   | some d =>
    have hkf := hlt k hk
    have hkl : k < l.length := by omega
    simp only [Option.toList_some, List.any_cons, List.any_nil, Bool.or_false]
    cases hq : Nat.beq t d with
    | false => rfl
    | true =>
     exfalso
     have hqe := Nat.eq_of_beq_eq_true hq
     rcases hd3k with h | ⟨j, p, hj, hp, hpd⟩
     ·exact hki (dst_once l hnd (i := k) (j := i) (o := o2) ho2 hol (by rw [h, hqe]) hd)
     ·have hji : j = i := dst_once l hnd hp hol (by rw [hpd, hqe]) hd
      subst hji
      obtain ⟨ed, he, hb, hon⟩ := hdir hj
      have := hc k o2 (hat ho2) hk ed he hb
      rw [hon, hnl] at this; cases this
  have hstab : ∀ k, k ≠ i → listed.getD k false = true → e2 (fsAt fs k).at_ = e1 (fsAt fs k).at_ := by
   intro k hki hk
   have hkf := hlt k hk
   have hkl : k < l.length := by omega
   have ho2 : l[k]? = some l[k] := by simp [hkl]
   exact hstab0 k hki hk _ ⟨l[k], ho2, (hops k l[k] hkf ho2).2.2.1⟩
  have hstab2 : ∀ k, k ≠ i → listed.getD k false = true → e2 (fsAt fs k).at2 = e1 (fsAt fs k).at2 := by
   intro k hki hk
   have hkf := hlt k hk
   have hkl : k < l.length := by omega
   have ho2 : l[k]? = some l[k] := by simp [hkl]
   exact hstab0 k hki hk _ ⟨l[k], ho2, (hops k l[k] hkf ho2).2.2.2⟩
  refine ⟨by simp [hsz], .inl ⟨fun k hk => hno fun h => ?_, e2, fr2, s2, hs1.trans hs2, ?_, ?_, U.erase i, hUn.erase i, fun k => ?_, i :: L.filter (fun k => !(f.uses.contains k)), ?_, ?_, ?_⟩⟩
  ·rcases (hdn k).1 h with h | h
   ·omega
   ·rw [hnone k hk] at h; cases h
  ·refine hag.trans ⟨fun t ht => hag2.at_ t ?_⟩
   cases hd : o.dst with
   | none => rfl
   | some d =>
    simp only [Option.toList_some, List.any_cons, List.any_nil, Bool.or_false]
    cases hq : Nat.beq t d with
    | false => rfl
    | true =>
     have := Nat.eq_of_beq_eq_true hq
     subst this
     have hmem : t ∈ dstsOf l := List.mem_filterMap.2 ⟨o, List.mem_of_getElem? hol, hd⟩
     have : (dstsOf l).any (Nat.beq t) = true := List.any_eq_true.2 ⟨t, hmem, by simp⟩
     rw [this] at ht; cases ht
  ·intro k hk
   by_cases hki : k = i
   ·subst hki; rw [hf]; exact hf2
   ·have hk' := ((hdn k).1 hk).resolve_left hki
    rw [hstab k hki hk']
    exact (fsAt fs k).mono hs2 (hfacts k hk')
  ·rw [hUn.mem_erase_iff, hUm]
   constructor
   ·rintro ⟨h1, h2, h3⟩
    exact ⟨h2, hno fun h => ((hdn k).1 h).elim h1 (fun h => by rw [h3] at h; cases h)⟩
   ·rintro ⟨h1, h2⟩
    exact ⟨fun h => (by rw [(hdn k).2 (.inl h)] at h2; cases h2), h1, hno fun h => (by rw [(hdn k).2 (.inr h)] at h2; cases h2)⟩
  ·rw [List.nodup_cons]
   refine ⟨fun h => ?_, hLn.filter _⟩
   have := ((hLm i).1 (List.mem_filter.1 h).1).1
   rw [hnl] at this; cases this
  ·intro k
   simp only [List.mem_cons, List.mem_filter, Bool.not_eq_true', List.contains_eq_mem, decide_eq_false_iff_not, hdn]
   constructor
   ·rintro (rfl | ⟨hk, hku⟩)
    ·refine ⟨.inl rfl, ?_⟩
     rintro ⟨j, hj, hkj⟩
     have hself : ∀ j, k ∈ (fsAt fs j).uses → j < fs.length → directB (l.getD j o) k = true := fun j h hjl => (hops j (l.getD j o) hjl (by simp [Nat.lt_of_lt_of_le hjl hlen])).2.1 k h
     rcases hj with rfl | hj
     ·rw [hf] at hkj
      obtain ⟨ed, he, hb, hon⟩ := hdir (hd2 _ hkj)
      have := hlowS _ o ho ed he hb
      omega
     ·have hjl := hlt j hj
      have hjl2 : j < l.length := by omega
      obtain ⟨ed, he, hb, hon⟩ := hdir (hself j hkj hjl)
      have := hc j (l.getD j o) (by simp [hjl2]) hj ed he hb
      rw [hon, hnl] at this; cases this
    ·obtain ⟨h1, h2⟩ := (hLm k).1 hk
     refine ⟨.inr h1, ?_⟩
     rintro ⟨j, rfl | hj, hkj⟩
     ·rw [hf] at hkj; exact hku hkj
     ·exact h2 ⟨j, hj, hkj⟩
   ·rintro ⟨rfl | hk, hno⟩
    ·exact .inl rfl
    ·by_cases hki : k = i
     ·exact .inl hki
     ·exact .inr ⟨(hLm k).2 ⟨hk, fun ⟨j, hj, hkj⟩ => hno ⟨j, .inr hj, hkj⟩⟩, fun h => hno ⟨i, .inl rfl, by rw [hf]; exact h⟩⟩
  ·rw [List.flatMap_cons, hf]
   have hcg : (L.filter fun k => !(f.uses.contains k)).flatMap (fun k => (fsAt fs k).own (e2 (fsAt fs k).at_) (e2 (fsAt fs k).at2)) = (L.filter fun k => !(f.uses.contains k)).flatMap (fun k => (fsAt fs k).own (e1 (fsAt fs k).at_) (e1 (fsAt fs k).at2)) := by
    apply flatMap_congr'
    intro k hk
    have hkl := ((hLm k).1 (List.mem_filter.1 hk).1).1
    rw [hstab k (by rintro rfl; rw [hnl] at hkl; cases hkl) hkl, hstab2 k (by rintro rfl; rw [hnl] at hkl; cases hkl) hkl]
   rw [hcg]
   refine H2.perm ?_
   generalize (List.flatMap (fun k => (fsAt fs k).own (e1 (fsAt fs k).at_) (e1 (fsAt fs k).at2)) (L.filter fun k => !(f.uses.contains k))) = A2
   generalize (List.flatMap (fun k => (fsAt fs k).pre) (U.erase i)) = A3
   generalize f.own (e2 f.at_) (e2 f.at2) = A0
   have q1 : A0 ++ (R ++ (A3 ++ A2)) = (A0 ++ (R ++ A3)) ++ A2 := by simp
   have q2 : (R ++ A3) ++ (A0 ++ A2) = ((R ++ A3) ++ A0) ++ A2 := by simp
   rw [q1, q2]
   exact List.perm_append_comm.append_right _
 ·rintro listed a w hdone ⟨hsz, hJ⟩
  have hdn : ∀ k, k < l.length → listed.getD k false = true := fun k hk => hdone k (by simpa using hk)
  have hq : ∀ c, fs.length ≤ c → (∀ k, c ≤ k → listed.getD k false = false) → wpList P l.toArray (Reg.onN QN) (l.drop c) a w → lift n Q .normal a w := by
   intro c _ hc2 hw
   have hcl : l.length ≤ c := by
    rcases Nat.lt_or_ge c l.length with h' | h'
    ·have := hdn c h'
     rw [hc2 c (Nat.le_refl _)] at this; cases this
    ·exact h'
   rw [List.drop_of_length_le hcl] at hw
   exact hw
  rcases hJ with ⟨hnone, hJE⟩ | ⟨c, hfc, _, hc2, hw⟩
  ·exact hq fs.length (Nat.le_refl _) hnone (hfinal listed a w hnone (fun k hk => hdn k (by omega)) hJE)
  ·exact hq c hfc hc2 hw
theorem C.flow {id : Nat} {l : List Oper} (fs : List FS) (outs live : List Nat) (H : Holds s w R) (hok : okF P l (fs.map (·.at_)) (fs.map (·.at2)) (fs.map (·.deps)) (fs.map (·.uses)) = true)
  (hlive : ((List.range fs.length).filter fun i => !(((fs.map (·.uses)).flatten).contains i)) = live) (houts : outs.all (fun j => Nat.blt j fs.length) = true)
  (hsteps : StepsF P n l.toArray (dstsOf l) e s R fs fs l)
  (hend : ∀ (s' : Ro) (h : Env) (w' : World), s.Le s' → allF (outs.map fun j => (fsAt fs j).fact) s' fun vs =>
   Holds s' w' (live.flatMap (fun j => (fsAt fs j).own (upds (outs.map fun j => (fsAt fs j).at_) vs (hav (dstsOf l) h e) (fsAt fs j).at_) (upds (outs.map fun j => (fsAt fs j).at_) vs (hav (dstsOf l) h e) (fsAt fs j).at2)) ++ R) →
   L P n l.toArray (fun x e w => x = .normal ∧ Q .normal e w) (l.drop fs.length) (upds (outs.map fun j => (fsAt fs j).at_) vs (hav (dstsOf l) h e)) w') (hpre : ((List.range fs.length).flatMap fun i => (fsAt fs i).pre) = [] := by rfl) : C P n Q (.region id l.toArray true) e w :=
 C.flowI fs outs live (by rw [hpre]; exact H) hok hlive houts hsteps hend
end
end Go.Own
namespace Go.Proofs.YtgilmcpdpggikaaGreatDoor
open Go Go.RowKit Go.Own
theorem refCellsW {s : Ro} {v : Value} {d : DM} (h : RefS s v d) : ∃ a0 c0 a1 c1 lf a2 n2 c2, v = .agg [.slice a0 d.secs.length c0, .slice a1 d.pend.length c1, .bool d.off, .int .i64 lf, .slice a2 n2 c2].toArray := by
 obtain ⟨_, ah, ch, aw, cw, sa, sc, lf, surv, rfl, _⟩ := h
 exact ⟨ah, ch, aw, cw, lf, sa, _, sc, rfl⟩
def RefW (s : Ro) (cs : List Value) (d : DM) (f : Nat) (pa : Option Addr) (pn pc e h u : Nat) (dd : Bool) : Prop := ∃ a0 c0 a1 c1 lf a2 n2 c2,
 cs = [.slice a0 d.secs.length c0, .slice a1 d.pend.length c1, .bool d.off, .int .i64 lf, .slice a2 n2 c2, .int .i64 (f : Int), .slice pa pn pc, .int .u32 (e : Int), .int .i64 (h : Int), .int .i64 (u : Int), .bool dd] ∧
 RefS s (.agg [.slice a0 d.secs.length c0, .slice a1 d.pend.length c1, .bool d.off, .int .i64 lf, .slice a2 n2 c2].toArray) d
theorem RefW.mono {s s' : Ro} {cs : List Value} {d : DM} {f pn pc e h u : Nat} {pa : Option Addr} {dd : Bool} (k : RefW s cs d f pa pn pc e h u dd) (hs : s.Le s') : RefW s' cs d f pa pn pc e h u dd := by
 obtain ⟨a0, c0, a1, c1, lf, a2, n2, c2, h1, h2⟩ := k
 exact ⟨a0, c0, a1, c1, lf, a2, n2, c2, h1, h2.mono hs⟩
section
variable {s : Ro} {w : World} {R : List Asn}
theorem Sector16_s {c : UInt8} {e : Nat} {m : List UInt8} (H : Holds s w R) (he : e < 2 ^ 32) (hm : m.length ≤ 55) : Calls Tryz.prog 116 #[.string (bst [c]), .int .u32 (e : Int), .string (bst m)] w fun y w' => ∃ s', y = .returned (.string (bst (secW c e m))) ∧ s.Le s' ∧ Holds s' w' R := by
 have wn : e % 2 ^ 64 = e := Nat.mod_eq_of_lt (by omega)
 have h4 := putN_len e 4
 refine enter Tryz.func116 rfl Tryz.ntmps116 rfl ?_
 repeat' (first | (refine B.conv Tryz.underlying160 ?_; rw [wn]) | refine Go8 H ?_ | (refine Gs8 H ?_; clear H; (try clear w); intro w H) | (refine Gn H ?_; clear H; (try clear w); intro _ w H))
 (refine X.call (Put2_s (n := e) (size := 4) H (by omega) (by decide)) ?_; (try clear H); rintro _ w ⟨a1, c1, rfl, H⟩; refine ⟨_, rfl, ?_⟩)
 repeat' (first | (refine X.stro H ?_) | (refine J.cat (a := bst [c]) (b := bst (putN e 4)) ?_ (hl := by rw [bst_size, bst_size, h4]; simp); rw [bst_app]) | (refine J.cat (a := bst ([c] ++ putN e 4)) (b := bst m) ?_ (hl := by rw [bst_size, bst_size]; simp only [List.length_append, h4, List.length_cons, List.length_nil]; omega); rw [bst_app]) | refine Go8 H ?_ | (refine Gs8 H ?_; clear H; (try clear w); intro w H) | (refine Gn H ?_; clear H; (try clear w); intro _ w H))
 have hsz : (bst (([c] ++ putN e 4) ++ m)).size = 5 + m.length := by rw [bst_size]; simp only [List.length_append, h4, List.length_cons, List.length_nil]
 have hcl := contW_len (c := c) (e := e) hm
 have hs60 : (60 : Int) - ((bst (([c] ++ putN e 4) ++ m)).size : Int) = ((55 - m.length : Nat) : Int) := by rw [hsz]; omega
 refine Gq8 H ?_
 rw [hs60]
 (refine X.call (Noughts16_s (n := 55 - m.length) H (by omega)) ?_; (try clear H); rintro _ w ⟨rfl, _, H⟩; refine ⟨_, rfl, ?_⟩)
 refine J.cat (a := bst (([c] ++ putN e 4) ++ m)) (b := bst (List.replicate (55 - m.length) 0)) ?_ (hl := by rw [hsz, bst_size, List.length_replicate]; omega)
 rw [bst_app, show (([c] ++ putN e 4) ++ m) ++ List.replicate (55 - m.length) 0 = contW c e m from rfl]
 refine X.bts (l := contW c e m) H ?_ Tryz.underlying5 (hl := by rw [hcl]; decide)
 clear H
 intro s2 gb cb w hs2 H hS
 refine Gq8 H ?_
 (refine X.call (Seal3_s H (.ro hS) (by omega)) ?_; (try clear H); rintro _ w ⟨a2, c2, rfl, H⟩; refine ⟨_, rfl, ?_⟩)
 repeat' (first | (refine X.stro H ?_) | refine Z H ?_ | (refine Zc ?_ ?_ <;> intro hc <;> first | (exfalso; omega) | skip) | (refine Y ?_; try change C _ _ _ _ _ _) | (refine Zs H ?_; clear H; (try clear w); intro w H) | (refine Zn H ?_; clear H; (try clear w); intro _ w H) | (refine Ze H ?_; clear H; (try clear w); intro gv w H))
 exact ⟨_, resT rfl, s2, rfl, hs2, H.tail.tail⟩
theorem one_s {n : Nat} (H : Holds s w R) (hn : n < 256) : Calls Tryz.prog 117 #[.int .i64 (n : Int)] w fun y w' => y = .returned (.string (bst [UInt8.ofNat n])) ∧ Holds s w' R := by
 have wh : n % 2 ^ 8 = n := Nat.mod_eq_of_lt hn
 have hq := u8_nat hn
 refine enter Tryz.func117 rfl Tryz.ntmps117 rfl ?_
 repeat' (first | (refine B.conv Tryz.underlying3 ?_; rw [wh]) | refine Go8 H ?_ | (refine Gs8 H ?_; clear H; (try clear w); intro w H) | (refine Gn H ?_; clear H; (try clear w); intro _ w H))
 refine K.one H rfl rfl (by conv => lhs; whnf) (by rfl) (by rfl) ?_; clear H; (try clear w); intro g1 w H
 have H' : Holds s w (row 5 1 (.slice (some ⟨g1, 0, none⟩) [UInt8.ofNat n].length 1) [UInt8.ofNat n].length (u8s [UInt8.ofNat n]) :: R) := by
  rw [hq] at H
  exact H
 clear H
 have H := H'
 clear H'
 repeat' (first | (refine X.str (v := .slice (some ⟨g1, 0, none⟩) 1 1) (l := [UInt8.ofNat n]) H ?_ (hb := .own 0 _ rfl)) | refine Go8 H ?_ | (refine Gs8 H ?_; clear H; (try clear w); intro w H) | (refine Gn H ?_; clear H; (try clear w); intro _ w H))
 exact ⟨_, resT rfl, rfl, H.tail⟩
theorem one_e {n : Nat} (H : Holds s w R) (hn : n < 256) : Calls Tryz.prog 117 #[.int .i64 (n : Int)] w fun y w' => y = .returned (.string (bst [UInt8.ofNat n])) ∧ Only [] w w' ∧ Holds s w' R :=
 (one_s H.full hn).mono fun y w' ⟨he, H'⟩ => ⟨he, H.pure0 H'⟩
theorem write_s {d : DM} {f pn pc e h u at' : Nat} {pa : Option Addr} {dd : Bool} {cs : List Value} {l : List UInt8} (H : Holds s w R) (hR : RefW s cs d f pa pn pc e h u dd) (hf : f + at' ≤ 1000) (hl : l.length ≤ 1000) (hpl : d.pend.length ≤ 100000) : Calls Tryz.prog 140 #[.agg cs.toArray, .int .i64 (at' : Int), .string (bst l)] w fun y w' => ∃ s' cs', y = .returned (.tuple #[.agg cs'.toArray, .int .i64 (d.write ((f + at' : Nat) : Int) l).2]) ∧ s.Le s' ∧ RefW s' cs' (d.write ((f + at' : Nat) : Int) l).1 f pa pn pc e h u dd ∧ Holds s' w' R := by
 obtain ⟨a0, c0, a1, c1, lf, a2, n2, c2, rfl, hD⟩ := hR
 refine enter Tryz.func140 rfl Tryz.ntmps140 rfl ?_
 repeat' (first | (refine X.ldp [.slice a0 d.secs.length c0, .slice a1 d.pend.length c1, .bool d.off, .int .i64 lf, .slice a2 n2 c2] H ?_) | refine Go8 H ?_ | (refine Gs8 H ?_; clear H; (try clear w); intro w H) | (refine Gn H ?_; clear H; (try clear w); intro _ w H))
 rw [show (f : Int) + (at' : Int) = ((f + at' : Nat) : Int) by omega]
 refine X.call (Write_r (n := ((f + at' : Nat) : Int)) (b := l) H hD hpl (by omega)) ?_
 clear H
 rintro _ w ⟨s1, v', rfl, hs1, hD', H⟩
 refine ⟨_, rfl, ?_⟩
 generalize d.write ((f + at' : Nat) : Int) l = dw at *
 obtain ⟨d', code⟩ := dw
 dsimp only at hD' ⊢
 have hDc := hD'
 obtain ⟨b0, k0, b1, k1, lf', b2, m2, k2, rfl⟩ := refCellsW hDc
 repeat' (first | (refine X.stp [.slice b0 d'.secs.length k0, .slice b1 d'.pend.length k1, .bool d'.off, .int .i64 lf', .slice b2 m2 k2, .int .i64 (f : Int), .slice pa pn pc, .int .u32 (e : Int), .int .i64 (h : Int), .int .i64 (u : Int), .bool dd] H ?_; clear H; (try clear w); intro w H) | refine Go8 H ?_ | (refine Gs8 H ?_; clear H; (try clear w); intro w H) | (refine Gn H ?_; clear H; (try clear w); intro _ w H))
 exact ⟨_, resVT H rfl, s1, _, rfl, hs1, ⟨b0, k0, b1, k1, lf', b2, m2, k2, rfl, hD'⟩, H.tail.tail.tail⟩
theorem flush_s {d : DM} {f pn pc e h u : Nat} {pa : Option Addr} {dd : Bool} {cs : List Value} (H : Holds s w R) (hR : RefW s cs d f pa pn pc e h u dd) (hpl : d.pend.length ≤ 100000) : Calls Tryz.prog 141 #[.agg cs.toArray] w fun y w' => ∃ s' cs', y = .returned (.tuple #[.agg cs'.toArray, .int .i64 d.flush.2]) ∧ s.Le s' ∧ RefW s' cs' d.flush.1 f pa pn pc e h u dd ∧ Holds s' w' R := by
 obtain ⟨a0, c0, a1, c1, lf, a2, n2, c2, rfl, hD⟩ := hR
 refine enter Tryz.func141 rfl Tryz.ntmps141 rfl ?_
 repeat' (first | (refine X.ldp [.slice a0 d.secs.length c0, .slice a1 d.pend.length c1, .bool d.off, .int .i64 lf, .slice a2 n2 c2] H ?_) | refine Go8 H ?_ | (refine Gs8 H ?_; clear H; (try clear w); intro w H) | (refine Gn H ?_; clear H; (try clear w); intro _ w H))
 refine X.call (Flush_r H hD (by omega)) ?_
 clear H
 rintro _ w ⟨s1, v', rfl, hs1, hD', H⟩
 refine ⟨_, rfl, ?_⟩
 generalize d.flush = dw at *
 obtain ⟨d', code⟩ := dw
 dsimp only at hD' ⊢
 have hDc := hD'
 obtain ⟨b0, k0, b1, k1, lf', b2, m2, k2, rfl⟩ := refCellsW hDc
 repeat' (first | (refine X.stp [.slice b0 d'.secs.length k0, .slice b1 d'.pend.length k1, .bool d'.off, .int .i64 lf', .slice b2 m2 k2, .int .i64 (f : Int), .slice pa pn pc, .int .u32 (e : Int), .int .i64 (h : Int), .int .i64 (u : Int), .bool dd] H ?_; clear H; (try clear w); intro w H) | refine Go8 H ?_ | (refine Gs8 H ?_; clear H; (try clear w); intro w H) | (refine Gn H ?_; clear H; (try clear w); intro _ w H))
 exact ⟨_, resVT H rfl, s1, _, rfl, hs1, ⟨b0, k0, b1, k1, lf', b2, m2, k2, rfl, hD'⟩, H.tail.tail.tail⟩
end
end Go.Proofs.YtgilmcpdpggikaaGreatDoor

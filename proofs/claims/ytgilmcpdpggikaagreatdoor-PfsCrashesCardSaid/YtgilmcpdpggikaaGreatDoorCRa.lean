/- Squeezed copy of the texts Ra Rb Tw6. -/
import Derived.Test.YtgilmcpdpggikaaGreatDoorCTq
import Derived.RangeFuncNested
import Derived.RangeFuncBound
import Derived.RangeFuncCalls
import Derived.RangeFuncLeaves
import Derived.TacticsIn
import Derived.OrdersIn
import Derived.Lib.Bytealg
import Derived.Laws.Externs
set_option maxRecDepth 100000
set_option maxHeartbeats 1000000
set_option linter.unusedSimpArgs false
set_option linter.unusedVariables false
namespace Go.Own
open Go Go.RowKit
def WF (ro : Option Nat) : Fence := { fn := fun _ => True, depth := none, alive := false, round := ro }
theorem calls_in {ro : Option Nat} {m : Nat} {P : Program} {f : FuncId} {args : Array Value} {w : World} {R : Ending → World → Prop} (h : Calls P f args w R) : CallsIn (WF ro) m P f args w R := (callsIn_wide (n := m)).2 h
theorem rows_in {ro : Option Nat} {m : Nat} {P : Program} {row : String} {args : Array Value} {w : World} {R : Value → World → Prop} (h : Rows P row args w R) : RowsIn (WF ro) m P row args w R := fun c cs _ =>
 let ⟨v, w', r, s⟩ := h c cs
 ⟨v, w', r, (stepsIn_wide.2 s : StepsIn (Machine.fenced P Fence.wide) P _ _)⟩
def noDef (l : List Oper) : Bool := l.all fun o => match o.op with
 | .defer _ => false
 | _ => true
section
variable {P : Program} {ops : Array Oper} {ro : Option Nat} {m : Nat} {Q Q' : Exit → Act → World → Prop}
theorem sem_in {o : Oper} (h : noDef [o] = true) (ρ : Operand → Value) : o.semAt ro ρ = execOp ρ o := by
 refine Oper.semAt_eq ro ρ o fun c hc => ?_
 simp [noDef, hc] at h
theorem op_in {o : Oper} {a : Act} {w : World} {K K' : Act → World → Prop} (hd : noDef [o] = true) (hQ : ¬ LetsOut Q) (hp : ∀ ch a w, ¬ Q (.panic ch) a w) (hK : ∀ a w, K a w → K' a w) (h : o.wp P a w K Q) : o.wpIn (WF ro) m P a w K' Q' := by
  refine ⟨fun _ _ => trivial, ?_⟩
  show o.uponIn (WF ro) m P a K' Q' ((o.semAt ro a.eval).run P w)
  rw [sem_in hd]
  unfold Oper.wp at h
  generalize (execOp a.eval o).run P w = r at *
  cases r with
  | ok nx w' =>
    cases nx <;> simp only [Oper.upon] at h <;> first
      | exact h.elim
      | exact hK _ _ h
      | (refine ⟨fun hh => absurd hh (by simp [WF]), (calls_in h).mono fun x w2 hx => ?_⟩
         cases x <;> first
           | exact hK _ _ hx
           | exact (hp _ _ _ hx).elim
           | exact (hQ hx).elim)
      | exact ⟨fun hh => absurd hh (by simp [WF]), (rows_in h).mono fun v w2 hx => hK _ _ hx⟩
  | halt x w' => cases x <;> simp only [Oper.upon] at h <;> first
      | exact h.elim
      | exact (hp _ _ _ h).elim
theorem list_in {K : Act → World → Prop} {rest : List Oper} (hK : ∀ a w, K a w → wpListIn (WF ro) m P ops Q' rest a w) : ∀ (l : List Oper) (a : Act) (w : World), noDef l = true → wpList P ops (Reg.onN K) l a w → wpListIn (WF ro) m P ops Q' (l ++ rest) a w
 | [], a, w, _, h => hK _ _ h
 | o :: l, a, w, hd, h => by
  have hd1 : noDef [o] = true ∧ noDef l = true := by
   simp only [noDef, List.all_cons, Bool.and_eq_true] at hd ⊢
   exact ⟨⟨hd.1, rfl⟩, hd.2⟩
  unfold wpList at h
  show wpListIn (WF ro) m P ops Q' (o :: (l ++ rest)) a w
  unfold wpListIn
  split
  ·rename_i hw
   rw [if_pos hw] at h
   rcases h with h | ⟨_, h⟩
   ·exact op_in hd1.1 Reg.letsOut_onN (fun _ _ _ h => h) (fun a w h => list_in hK l a w hd1.2 h) h
   ·exact (Reg.letsOut_onN h).elim
  ·rename_i hw
   rw [if_neg hw] at h
   exact ⟨fun _ _ => trivial, list_in hK l _ _ hd1.2 h⟩
theorem wpOp_in {i : Nat} {K K' : Act → World → Prop} {a : Act} {w : World} (hd : noDef ops.toList = true) (hQ : ¬ LetsOut Q) (hp : ∀ ch a w, ¬ Q (.panic ch) a w) (hK : ∀ a w, K a w → K' a w) (h : wpOp P ops Q i K a w) : wpOpIn (WF ro) m P ops Q' i K' a w := by
 unfold wpOp at h
 unfold wpOpIn
 cases ho : ops[i]? with
 | none => rw [ho] at h; exact hK _ _ h
 | some o =>
  rw [ho] at h
  simp only at h ⊢
  have hmem : o ∈ ops.toList := Array.mem_toList_iff.2 (Array.mem_of_getElem? ho)
  have hdo : noDef [o] = true := by
   have := List.all_eq_true.1 hd o hmem
   simp only [noDef, List.all_cons, List.all_nil, Bool.and_true]
   exact this
  split
  ·rename_i hw
   rw [if_pos hw] at h
   rcases h with h | ⟨_, h⟩
   ·exact op_in hdo hQ hp hK h
   ·exact (hQ h).elim
  ·rename_i hw
   rw [if_neg hw] at h
   exact ⟨fun _ _ => trivial, hK _ _ h⟩
theorem any_in {md : Region.Mode} {K : Act → World → Prop} (hd : noDef ops.toList = true) : ∀ (fuel : Nat) (listed : Array Bool) (a : Act) (w : World), wpAny P md ops (Reg.onN K) fuel listed a w → (∀ a w, K a w → Q' .normal a w) → wpAnyIn (WF ro) m P md ops Q' fuel listed a w
 | 0, listed, a, w, h, hK => ⟨h.1, hK _ _ h.2⟩
 | fuel + 1, listed, a, w, h, hK => ⟨fun hr => hK _ _ (h.1 hr), fun i hi => wpOp_in hd Reg.letsOut_onN (fun _ _ _ h => h) (fun a w h => any_in hd fuel _ a w h hK) (h.2 i hi)⟩
end
theorem rep_f {k j : Nat} : (Array.replicate k false).getD j false = false := by
 rcases Nat.lt_or_ge j k with h | h <;> simp [Array.getD_eq_getD_getElem?, Array.getElem?_replicate, h]
theorem rep_t {k j : Nat} : (Array.replicate k false).getD j true = false ↔ j < k := by
 rcases Nat.lt_or_ge j k with h | h
 ·simp [Array.getD_eq_getD_getElem?, Array.getElem?_replicate, h]
 ·simp [Array.getD_eq_getD_getElem?, Array.getElem?_replicate, Nat.not_lt.2 h, h]
structure CI (P : Program) (ro : Option Nat) (m n : Nat) (Q : Post) (c : Code) (e : Env) (w : World) : Prop where
 go : ∀ a, Fr n a e → c.wpIn (WF ro) m P (lift n Q) a w
structure LI (P : Program) (ro : Option Nat) (m n : Nat) (ops : Array Oper) (Q : Post) (l : List Oper) (e : Env) (w : World) : Prop where
 go : ∀ a, Fr n a e → wpListIn (WF ro) m P ops (lift n Q) l a w
def nE (K : Env → World → Prop) : Post := fun x => match x with
 | .normal => K
 | _ => fun _ _ => False
section
variable {P : Program} {ro : Option Nat} {m n : Nat} {ops : Array Oper} {Q : Post} {rest : List Oper} {e : Env} {w : World}
theorem lift_nE {K : Env → World → Prop} {x : Exit} {a : Act} {w : World} (h : lift n (nE K) x a w) : Reg.onN (fun a w => ∃ e, Fr n a e ∧ K e w) x a w := by
 obtain ⟨e, fr, h⟩ := h
 cases x <;> first | exact ⟨e, fr, h⟩ | exact h
theorem CI.seq {x y : Code} (h : CI P ro m n (thenE (CI P ro m n Q y) Q) x e w) : CI P ro m n Q (.seq x y) e w :=
 ⟨fun a ha => wpIn_seq (Go.wpIn_mono (h.go a ha) (fun ex a' w' ⟨e', fr, hq⟩ => by
  cases ex <;> first | exact hq.go a' fr | exact ⟨e', fr, hq⟩))⟩
theorem CI.skip (h : Q .normal e w) : CI P ro m n Q .skip e w := ⟨fun a ha => wpIn_skip ⟨e, ha, h⟩⟩
theorem CI.exit {id : Nat} (h : Q (.exit id) e w) : CI P ro m n Q (.exit id) e w := ⟨fun a ha => wpIn_exit ⟨e, ha, h⟩⟩
theorem CI.ret (h : Q .ret e w) : CI P ro m n Q .ret e w := ⟨fun a ha => wpIn_ret ⟨e, ha, h⟩⟩
theorem CI.tru {c : Operand} {x y : Code} (h : CI P ro m n Q x e w) (hc : ev e c = .bool true := by rfl) : CI P ro m n Q (.cond c x y) e w :=
 ⟨fun a ha => wpIn_cond_true (by rw [ha.eval]; exact hc) (h.go a ha)⟩
theorem CI.fls {c : Operand} {x y : Code} (h : CI P ro m n Q y e w) (hc : ev e c = .bool false := by rfl) : CI P ro m n Q (.cond c x y) e w :=
 ⟨fun a ha => wpIn_cond_false (by rw [ha.eval]; exact hc) (h.go a ha)⟩
theorem CI.block {id : Nat} {c : Code} (h : CI P ro m n (blockE id Q) c e w) : CI P ro m n Q (.block id c) e w :=
 ⟨fun a ha => wpIn_block (Go.wpIn_mono (h.go a ha) (fun ex a' w' ⟨e', fr, hq⟩ => by
  cases ex with
  | exit i =>
   show Exit.inBlock id (lift n Q) (.exit i) a' w'
   simp only [blockE] at hq
   unfold Exit.inBlock
   by_cases hi : i = id
   ·subst hi; simp only [Nat.beq_refl, cond_true] at hq; simp; exact ⟨e', fr, hq⟩
   ·have hb : Nat.beq i id = false := by
     cases hc : Nat.beq i id with
     | false => rfl
     | true => exact absurd (Nat.eq_of_beq_eq_true hc) hi
    rw [hb] at hq; simp [hi]; exact ⟨e', fr, hq⟩
  | _ => exact ⟨e', fr, hq⟩))⟩
theorem LI.of (k : Nat) {l : List Oper} (hd : noDef (l.take k) = true) (h : L P n ops (nE (LI P ro m n ops Q (l.drop k))) (l.take k) e w) : LI P ro m n ops Q l e w :=
 ⟨fun a ha => by
  have := list_in (Q' := lift n Q) (rest := l.drop k) (ro := ro) (m := m) (K := fun a w => ∃ e, Fr n a e ∧ LI P ro m n ops Q (l.drop k) e w) (fun a w ⟨e, fr, h⟩ => h.go a fr) (l.take k) a w hd (wpList_post (fun x a w h => lift_nE h) (h.go a ha))
  rwa [List.take_append_drop] at this⟩
theorem LI.nil (h : Q .normal e w) : LI P ro m n ops Q [] e w := ⟨fun a ha => ⟨e, ha, h⟩⟩
theorem CI.region {id : Nat} {l : List Oper} (h : L P n l.toArray (nE (Q .normal)) l e w) (hd : noDef l = true := by rfl) : CI P ro m n Q (.region id l.toArray false) e w :=
 ⟨fun a ha => wpIn_region_lit (by
  have := list_in (Q' := lift n Q) (rest := []) (ro := ro) (m := m) (ops := l.toArray) (K := fun a w => ∃ e, Fr n a e ∧ Q .normal e w) (fun a w h => h) l a w hd (wpList_post (fun x a w h => lift_nE h) (h.go a ha))
  rwa [List.append_nil] at this)⟩
theorem CI.regionI {id : Nat} {l : List Oper} (h : LI P ro m n l.toArray Q l e w) : CI P ro m n Q (.region id l.toArray false) e w := ⟨fun a ha => wpIn_region_lit (h.go a ha)⟩
theorem CI.drawn1 {id : Nat} {l : List Oper} (cls ms : List Nat) (hok : Reg.ok1 P l cls ms = true) (h : L P n l.toArray (Q1 n l.toArray (l.zip cls) (Q .normal)) l e w.drew) (hd : noDef l = true := by rfl) : CI P ro m n Q (.region id l.toArray true) e w :=
 ⟨fun a ha => by
  have hok' := hok
  simp only [Reg.ok1, Bool.and_eq_true, decide_eq_true_eq] at hok
  obtain ⟨⟨⟨⟨⟨⟨h1, h2⟩, hms⟩, h3⟩, h4⟩, h5⟩, h6⟩ := hok
  refine wpIn_region_any h6 (any_in (by simpa using hd) _ _ _ _ (K := fun a w => ∃ e, Fr n a e ∧ Q .normal e w) ?_ (fun a w h => h))
  have hh : Reg.sq P l.toArray Reg.Ext (cls.zipIdx.map fun x => (x.2, x.1)) (fun a w => ∃ e, Fr n a e ∧ Q .normal e w) a { w with drawn := w.drawn + 1 } := by
   rw [← Reg.idx_zip l cls 0 h1]
   refine Reg.sq_last true false [] (fun _ => rfl) (fun b _ => Reg.rd_load_ext) (l.zip cls) 0 a _ (fun j => ?_) h4 h5 ?_
   ·left; rw [Reg.zip_fst l cls h1]; simp
   ·rw [Reg.zip_fst l cls h1]
    refine wpList_post (fun x a' w' ⟨e', fr, hq⟩ => ?_) (h.go a ha)
    obtain ⟨rfl, h2, h3⟩ := hq
    exact ⟨⟨by rw [chk_fr fr]; exact h2, fun hf => by cases hf⟩, e', fr, h3⟩
  have hfst : (cls.zipIdx.map fun x => (x.2, x.1)).map Prod.fst = List.range l.toArray.size := by
   rw [List.map_map, List.size_toArray, ← h1]
   have : (Prod.fst ∘ fun x : Nat × Nat => (x.2, x.1)) = Prod.snd := rfl
   rw [this, List.range_eq_range', List.zipIdx_map_snd]
  have hl : (cls.zipIdx.map fun x => (x.2, x.1)).length = l.toArray.size := by simp [h1]
  refine Reg.any_of_sq Reg.likes_ext h2 hms l.toArray.size _ _ a _ hl ?_ (by simp) ?_ ?_ (Reg.pairs_pw h3) hh
  ·intro j o _ hj
   rw [rep_f] at hj
   cases hj
  ·intro i
   rw [hfst, List.mem_range]
   exact rep_t
  ·rw [hfst]; exact List.nodup_range⟩
end
section
variable {P : Program} {ro : Option Nat} {m n : Nat} {ops : Array Oper} {Q : Post} {rest : List Oper} {e : Env} {w : World}
def roundE {α : Type} (B : Nat) (I Ix : List α → World → Prop) (xs : List α) (W : World) : Post := fun x => match x with
 | .normal => fun _ W' => KeepsFrom B W W' ∧ I xs W'
 | .ret => fun _ W' => KeepsFrom B W W' ∧ Ix xs W'
 | _ => fun _ _ => False
theorem D.rangeF {α : Type} {ds : List Deferred} {Q : PostD} {g : Operand} {p : Tmp} {assign body : Code} (enc : α → Value) {gf : FuncId} {lb : Array Value} (hg : ev e g = .func (.func gf) #[] lb) [F : FunC P gf]
  {S Sp : List α → Prop} {N : Nat} (hseq : SeqStopsK (WF none) (m - 1) P gf lb (fun x => #[enc x]) (fun _ _ => True) S Sp N w) (hm : 1 ≤ m)
  (I Ix : List α → World → Prop) (hI : OwnFrom w.heap.size I) (hIx : OwnFrom w.heap.size Ix) (h0 : I [] w) (st : α → Env → Env)
  (hp : Nat.blt p n = true)
  (hassign : ∀ l x W, CI P (some l) (m - 1 - 1) n (nE fun e' W' => e' = st x e ∧ W' = W) assign (upd e p (enc x)) W)
  (hbody : ∀ l pre x W, I pre W → CI P (some l) (m - 1 - 1) n (roundE w.heap.size I Ix (pre ++ [x]) W) body (st x e) W)
  (hdone : ∀ D xs W, w.heap.size ≤ D → S xs → I xs W → W.heap[D]? = some (.deferred (some [])) → Q .normal (⟨.collected D, #[]⟩ :: ds) e W)
  (hstop : ∀ D pre W, w.heap.size ≤ D → Sp pre → Ix pre W → W.heap[D]? = some (.deferred (some [])) → Q .ret (⟨.collected D, #[]⟩ :: ds) e W) :
  D P n ds Q (.rangeFunc g #[p] assign body) e w := by
 refine ⟨fun a ha => (wpIn_wide (n := m)).1 ?_⟩
 obtain ⟨fn, c, h1, h2, h3⟩ := F.fn
 refine wpIn_rangeFunc_ownH (F := WF none) (n := m) (P := P) rfl hm (gf := gf) (lb := lb) (by rw [ha.eval]; exact hg) trivial ?_ hseq (fun _ _ => trivial) (fun _ _ _ _ _ _ _ _ => trivial) (Below.refl _ _) (fun _ => rfl)
  I (fun c pre W => c = .ret ∧ Ix pre W) hI (fun c s A B row hs hg' hr => ⟨hs.1, hIx s A B row hs.2 hg' hr⟩) h0 (fun x a' _ => Fr n a' (st x e)) (fun _ _ _ _ _ _ h _ _ => h) ?_ ?_ ?_ ?_
 ·intro args w
  have h2' : ¬ fn.name = "runtime.NumGoroutine" := by simpa using h2
  simp [callFunc, h1, h2', h3]
 ·intro l pre x W K hi hK
  have hfr : Fr n { tmps := ((#[p].zip #[enc x]).foldl (fun t (pv : Tmp × Value) => t.setIfInBounds pv.1 pv.2) a.tmps), defers := [] } (upd e p (enc x)) := by
   have := Fr.put (n := n) (a := { a with defers := [] }) ⟨ha.size, rfl, ha.env⟩ (d := some p) hp (enc x)
   have hz : ((#[p].zip #[enc x]).foldl (fun t (pv : Tmp × Value) => t.setIfInBounds pv.1 pv.2) a.tmps) = a.tmps.setIfInBounds p (enc x) := by simp
   rw [hz]
   exact this
  refine Go.wpIn_mono ((hassign l x W).go _ hfr) (fun ex a' w' ⟨e', fr, hq⟩ => ?_)
  cases ex <;> first
   | (obtain ⟨rfl, rfl⟩ := hq; exact hK a' _ (KeepsFrom.refl _ _) trivial hi fr)
   | exact hq.elim
 ·intro l pre x a' W _ _ hi hfr _
  refine Go.wpIn_mono ((hbody l pre x W hi).go a' hfr) (fun ex a2 w' ⟨e', fr, hq⟩ => ?_)
  cases ex <;> first
   | exact ⟨hq.1, trivial, hq.2⟩
   | exact ⟨hq.1, rfl, hq.2⟩
   | exact hq.elim
 ·intro D xs W hD hS hi hK
  exact ⟨e, _, ⟨ha.size, by simp [ha.defers], ha.env⟩, hdone D xs W hD hS hi hK⟩
 ·rintro D c pre W hD hS ⟨rfl, hi⟩ hK
  exact wpIn_ret ⟨e, _, ⟨ha.size, by simp [ha.defers], ha.env⟩, hstop D pre W hD hS hi hK⟩
def blockD (id : Nat) (Q : PostD) : PostD := fun x => match x with
 | .exit i => bif Nat.beq i id then Q .normal else Q (.exit i)
 | x => Q x
theorem D.block {ds : List Deferred} {Q : PostD} {id : Nat} {c : Code} (h : D P n ds (blockD id Q) c e w) : D P n ds Q (.block id c) e w :=
 ⟨fun a ha => wp_block (Code.wp_mono (fun ex a' w' ⟨e', ds', fr, hq⟩ => by
  cases ex with
  | exit i =>
   show Exit.inBlock id (liftD n Q) (.exit i) a' w'
   simp only [blockD] at hq
   unfold Exit.inBlock
   by_cases hi : i = id
   ·subst hi; simp only [Nat.beq_refl, cond_true] at hq; simp; exact ⟨e', ds', fr, hq⟩
   ·have hb : Nat.beq i id = false := by
     cases hc : Nat.beq i id with
     | false => rfl
     | true => exact absurd (Nat.eq_of_beq_eq_true hc) hi
    rw [hb] at hq; simp [hi]; exact ⟨e', ds', fr, hq⟩
  | _ => exact ⟨e', ds', fr, hq⟩) (h.go a ha))⟩
theorem LD.lenL {ds : List Deferred} {Q : PostD} {rest : List Oper} {x : Operand} {t : TypeId} [T : StrC P t] {l : List UInt8} {d tt : Nat} {pp : String} {af : Array Edge} {g : Option (Nat × Bool)} (h : LD P n ds ops Q rest (upd e d (.int .i64 (l.length : Int))) w) (hw : wg n ops g e = true := by rfl) (hd : Nat.blt d n = true := by rfl) (hx : ev e x = .string ⟨l.toArray⟩ := by rfl) : LD P n ds ops Q (⟨some d, .call { callee := .builtin .len, args := #[x], argTypes := #[t] }, tt, pp, af, g⟩ :: rest) e w :=
 LD.val (o := ⟨some d, .call { callee := .builtin .len, args := #[x], argTypes := #[t] }, tt, pp, af, g⟩) _ w hw hd (by
  have hz : (⟨l.toArray⟩ : ByteArray).size = l.length := by simp [ByteArray.size]
  unfold execOp
  simp [resolve, invoke, builtin, Builtin.len_, hx, run_underlying T.str, goInt, hz]) h
def bodyM (P : Program) (m : Nat) (fn : Func) (R : Ending → World → Prop) : PostD := fun x ds e w => match x with
 | .normal => ∀ a, envOf a = e → LeavesInM (WF none) m P fn a.tmps R ds .returning w
 | .ret => ∀ a, envOf a = e → LeavesInM (WF none) m P fn a.tmps R ds .returning w
 | _ => False
theorem enterM {f : FuncId} {fn : Func} {c : Code} {args : List Value} {R : Ending → World → Prop} (m : Nat) (hf : P.funcs[f]? = some fn) (hb : fn.body = some c) (hn : fn.ntmps = n) (ha : Nat.ble args.length n = true) (h : D P n [] (bodyM P m fn R) c (env0 args) w) : Calls P f args.toArray w R := by
 refine (callsIn_wide (n := m)).1 ?_
 refine callsIn_of_wp_marks (F := WF none) hf hb trivial ((wpIn_wide (n := m)).2 ?_) rfl
 refine Code.wp_mono (fun x a w' ⟨e', ds, fr, hq⟩ => ?_) (h.go _ (frD0 hn ha))
 cases x <;> first
  | (have := hq a fr.env; rw [← fr.defers] at this; exact this)
  | exact hq.elim
theorem leavesM0 {fn : Func} {R : Ending → World → Prop} {v : Value} (hv : ResE P fn e w v) (h : R (.returned v) w) : ∀ a, envOf a = e → LeavesInM (WF none) m P fn a.tmps R [] .returning w := fun a ha => ⟨v, hv a ha, h⟩
theorem leavesM1 {fn : Func} {R : Ending → World → Prop} {v : Value} {D : Nat} (hD : w.heap[D]? = some (.deferred (some []))) (hv : ResE P fn e (w.putObj D (.deferred none)) v) (h : R (.returned v) (w.putObj D (.deferred none))) : ∀ a, envOf a = e → LeavesInM (WF none) m P fn a.tmps R [⟨.collected D, #[]⟩] .returning w := fun a ha =>
 ⟨by simp, .inl ⟨D, _, rfl, run_takeDeferred hD, v, hv a ha, h⟩⟩
theorem retM0 {fn : Func} {R : Ending → World → Prop} {v : Value} (hv : ResE P fn e w v) (h : R (.returned v) w) : bodyM P m fn R .ret [] e w := leavesM0 hv h
theorem retM1 {fn : Func} {R : Ending → World → Prop} {v : Value} {D : Nat} (hD : w.heap[D]? = some (.deferred (some []))) (hv : ResE P fn e (w.putObj D (.deferred none)) v) (h : R (.returned v) (w.putObj D (.deferred none))) : bodyM P m fn R .ret [⟨.collected D, #[]⟩] e w := leavesM1 hD hv h
theorem LI.yield {d : Nat} {c : Operand} {xs : Array Operand} {ts : Array TypeId} {l : Nat} {args : List Value} {R : Ending → World → Prop} {tt : Nat} {pp : String} {af : Array Edge} (hy : YieldAt (WF none) (m - 1) P l args.toArray w R) (h : ∀ x w', R x w' → ∃ v, x = .returned v ∧ LI P none m n ops Q rest (upd e d v) w') (hd : Nat.blt d n = true := by rfl) (hc : ev e c = .func (.yield l) #[] #[] := by rfl) (hx : xs.toList.map (ev e) = args := by rfl) : LI P none m n ops Q (⟨some d, .call { callee := .value c, args := xs, argTypes := ts }, tt, pp, af, none⟩ :: rest) e w := by
 refine ⟨fun a ha => wpListIn_plain rfl fun K hK => ?_⟩
 obtain ⟨fn, tmps, assign, body, h1, h2⟩ := hy
 have hcv : a.eval c = .func (.yield l) #[] #[] := by rw [ha.eval]; exact hc
 have hargs : xs.map a.eval = args.toArray := by
  apply Array.toList_inj.1
  rw [Array.toList_map, ha.eval, hx]
 refine ⟨fun _ _ => trivial, ?_⟩
 have hr : (execOp a.eval ⟨some d, .call { callee := .value c, args := xs, argTypes := ts }, tt, pp, af, none⟩).run P w = .ok (.round l fn tmps assign body) w := by
  unfold execOp
  have hargs' : xs.map (fun x => a.eval x) = args.toArray := hargs
  simp [resolve, hcv, Deferred.ofValue, invoke, h1, hargs, hargs']
 show Oper.uponIn _ _ _ _ _ _ _ ((Oper.semAt none a.eval _).run P w)
 rw [Oper.semAt_none, hr]
 refine ⟨fun hh => absurd hh (by simp [WF]), h2.mono fun x w' hR => ?_⟩
 obtain ⟨v, rfl, hl⟩ := h x w' hR
 exact hK _ _ (hl.go _ (ha.put (d := some d) hd v))
theorem wpIn_loop_ghost' {F : Fence} {c : Code} {Q : Exit → Act → World → Prop} {a : Act} (I : Nat → Act → World → Prop) (n₀ : Nat) (h₀ : I n₀ a w)
  (round : ∀ k a w, I k a w → c.wpIn F m P (Exit.then (fun a' w' => ∃ n', n' < k ∧ I n' a' w') Q) a w) : (Code.loop c).wpIn F m P Q a w := by
 refine wpIn_loop (fun a w => ∃ k, I k a w) (fun a w => leastOf (fun k => I k a w)) ⟨n₀, h₀⟩ ?_
 intro a w hI
 refine Go.wpIn_mono (round _ a w (leastOf_spec hI).1) ?_
 intro e a' w' hq
 cases e with
 | normal =>
  obtain ⟨n', hlt, hI'⟩ := hq
  exact show (∃ k, I k a' w') ∧ leastOf (fun k => I k a' w') < leastOf (fun k => I k a w) from ⟨⟨n', hI'⟩, Nat.lt_of_le_of_lt ((leastOf_spec ⟨n', hI'⟩).2 n' hI') hlt⟩
 | exit id => exact hq
 | goto l => exact hq
 | ret => exact hq
 | panic ch => exact hq
 | outgrown => exact hq
theorem CI.loop {c : Code} (wr : List Nat) (I : Nat → Env → World → Prop) (k : Nat) (h0 : I k e w)
  (hr : ∀ k h w, I k h w → CI P ro m n (thenE (fun e' w' => Agr wr e e' ∧ ∃ j, j < k ∧ I j e' w') Q) c (hav wr h e) w) : CI P ro m n Q (.loop c) e w := by
 refine ⟨fun a ha => ?_⟩
 refine Go.wpIn_mono (wpIn_loop_ghost' (fun k a w => ∃ e', Fr n a e' ∧ Agr wr e e' ∧ I k e' w) k ⟨e, ha, Agr.refl, h0⟩ fun k a w hI => ?_) (fun _ _ _ h => h)
 obtain ⟨e1, fr, ag, hk⟩ := hI
 have hrr := hr _ e1 w hk
 rw [← ag.eq] at hrr
 refine Go.wpIn_mono (hrr.go a fr) (fun ex a' w' ⟨e', fr', hq⟩ => ?_)
 cases ex with
 | normal =>
  obtain ⟨ag', k', hlt, hk'⟩ := hq
  exact ⟨k', hlt, e', fr', ag', hk'⟩
 | _ => exact ⟨e', fr', hq⟩
theorem CI.loopS {c : Code} (wr sl : List Nat) (hs : sl.all (fun t => wr.any (Nat.beq t)) = true) (I : Nat → List Value → World → Prop) (k : Nat) (h0 : I k (sl.map e) w)
  (hr : ∀ k vs h w, I k vs w → CI P ro m n (thenE (fun e' w' => Agr wr e e' ∧ ∃ j, j < k ∧ I j (sl.map e') w') Q) c (upds sl vs (hav wr h e)) w) : CI P ro m n Q (.loop c) e w := by
 refine CI.loop wr (fun k h w => I k (sl.map h) w) k h0 fun k h w hI => ?_
 have := hr k (sl.map h) h w hI
 rwa [← hav_upds hs h] at this
end
theorem enterI {P : Program} {m n : Nat} {w : World} {f : FuncId} {fn : Func} {c : Code} {args : List Value} {R : Ending → World → Prop} (hf : P.funcs[f]? = some fn) (hb : fn.body = some c) (hn : fn.ntmps = n) (ha : Nat.ble args.length n = true) (h : CI P none m n (bodyQ P fn R) c (env0 args) w) : CallsIn (WF none) m P f args.toArray w R := by
 refine callsIn_of_wp hf hb trivial ?_ rfl
 have fr0 := frD0 (n := n) (args := args) hn ha
 refine Go.wpIn_mono (h.go _ ⟨fr0.size, rfl, fr0.env⟩) (fun x a w' ⟨e', fr, hq⟩ => ?_)
 cases x <;> first
   | (obtain ⟨v, h1, h2⟩ := hq; exact ⟨fr.defers, v, h1 a fr.env, h2⟩)
   | exact hq.elim
theorem Only.grown {w w' : World} (h : Only [] w w') : w.grownBy w' none := ⟨h.os, h.tape, h.output, h.size, fun k hk _ => h.block k hk (by simp)⟩
theorem Abides.only {β : Type} {B : Nat} {J : β → World → Prop} {s : β} {w w' : World} (hJ : AbidesFrom B J) (hs : J s w) (h : Only [] w w') : J s w' := hJ s w w' none hs (Only.grown h) (fun r e => by cases e)
def roBut (w : World) (L : List Nat) : Ro := ⟨fun k => if k ∈ L then none else w.heap[k]?, w⟩
abbrev VarL := List (Nat × TypeId × List Value)
def VarL.at_ (V : VarL) (w : World) : Prop := ∀ x ∈ V, w.heap[x.1]? = some (.cells x.2.2.toArray x.2.1 (0, 0))
def VarL.asn (V : VarL) : List Asn := V.map fun x => var x.1 x.2.1 x.2.2
def VarL.blocks (V : VarL) : List Nat := V.map (·.1)
section
variable {w w' : World} {s : Ro} {rs : List Asn} {V : VarL}
theorem VarL.sep : ∀ {V : VarL}, V.blocks.Nodup → V.at_ w → Sep w V.asn V.blocks
 | [], _, _ => rfl
 | x :: V, hn, h => by
  have hn' : x.1 ∉ VarL.blocks V ∧ (VarL.blocks V).Nodup := List.nodup_cons.1 hn
  exact ⟨[x.1], VarL.blocks V, rfl, ⟨rfl, h x (by simp)⟩, VarL.sep hn'.2 (fun y hy => h y (by simp [hy])), fun k hk => by
   rw [List.mem_singleton.1 hk]; exact hn'.1⟩
theorem Holds.but (hn : V.blocks.Nodup) (h : V.at_ w) : Holds (roBut w V.blocks) w V.asn :=
 ⟨⟨fun k o hk => by
  unfold roBut at hk
  simp only at hk
  split at hk
  ·cases hk
  ·exact hk, rfl, rfl, rfl⟩, V.blocks, VarL.sep hn h, fun k hk => by simp [roBut, hk]⟩
theorem but_block {L : List Nat} (hs : (roBut w L).Le s) (H : Holds s w' rs) {k : Nat} (hk : k ∉ L) {o : Obj} (ho : w.heap[k]? = some o) : w'.heap[k]? = some o :=
 H.fits.mem k o (hs.mem k o (by simp [roBut, hk, ho]))
theorem but_only (hs : (roBut w V.blocks).Le s) (H : Holds s w' rs) (hV : V.at_ w) {V' : VarL} (hb : V'.blocks = V.blocks) (hV' : V'.at_ w') : Only V.blocks w w' := by
 have hsz : w.heap.size ≤ w'.heap.size := by
  cases hz : w.heap.size with
  | zero => omega
  | succ k =>
   by_cases hk : k ∈ V.blocks
   ·rw [← hb] at hk
    obtain ⟨x, hx, rfl⟩ := List.mem_map.1 hk
    exact lt_of_heap (hV' x hx)
   ·have h2 : w.heap[k]? = some (w.heap[k]'(by omega)) := by simp [hz]
    exact lt_of_heap (but_block hs H hk h2)
 refine ⟨by rw [H.fits.os, hs.cst]; rfl, by rw [H.fits.tape, hs.cst]; rfl, by rw [H.fits.output, hs.cst]; rfl, hsz, fun k hk hkl => ?_⟩
 have h2 : w.heap[k]? = some w.heap[k] := by simp [hk]
 rw [h2]
 exact but_block hs H hkl h2
theorem Holds.newB {w0 : World} (H : Holds (startRo w0) w rs) {i b : Nat} {t : TypeId} {cs : List Value} (hi : rs[i]? = some (Own.var b t cs)) : w0.heap.size ≤ b := by
 obtain ⟨F, ⟨rfl, _⟩, h, _⟩ := H.upd hi
 have := h b (by simp)
 simpa [startRo] using this
theorem Holds.apart (H : Holds s w rs) {i j b b' : Nat} {t t' : TypeId} {cs cs' : List Value} (hi : rs[i]? = some (Own.var b t cs)) (hj : rs[j]? = some (Own.var b' t' cs')) (hij : j ≠ i) : b ≠ b' := fun e => by
 obtain ⟨F, ⟨rfl, _⟩, _, h, _⟩ := H.upd hi
 obtain ⟨G, ⟨rfl, _⟩, hG⟩ := h j _ hij hj
 exact hG b' (by simp) (by simp [e])
theorem keeps_of_only {B : Nat} {L : List Nat} (h : Only L w w') (hL : ∀ k ∈ L, k < B) : KeepsFrom B w w' := ⟨h.size, fun k o hB hk _ => h.heap hk (fun hm => by have := hL k hm; omega)⟩
theorem only_own {α : Type} {B : Nat} {w0 : World} (hB : w0.heap.size ≤ B) : OwnFrom B (fun (_ : α) w => Only [] w0 w) := fun x A A' row hs hg hr =>
 ⟨hg.os.trans hs.os, hg.tape.trans hs.tape, hg.output.trans hs.output, Nat.le_trans hs.size hg.size, fun k hk _ => by
  rw [hg.block k (Nat.lt_of_lt_of_le hk hs.size) (fun he => ?_)]
  ·exact hs.block k hk (by simp)
  ·obtain ⟨h1, _⟩ := hr k he.symm
   omega⟩
theorem own_and {α : Type} {B : Nat} {I J : α → World → Prop} (h : OwnFrom B I) (k : OwnFrom B J) : OwnFrom B (fun x w => I x w ∧ J x w) := fun x A A' row hs hg hr => ⟨h x A A' row hs.1 hg hr, k x A A' row hs.2 hg hr⟩
theorem own_pure {α : Type} {B : Nat} {p : α → Prop} : OwnFrom B (fun x (_ : World) => p x) := fun _ _ _ _ hs _ _ => hs
theorem at_own {α : Type} {B : Nat} (V : α → VarL) : OwnFrom B (fun x w => (V x).at_ w) := fun x A A' row hs hg hr y hy => by
 have hc := hs y hy
 rw [hg.block y.1 (lt_of_heap hc) (fun he => ?_)]
 ·exact hc
 ·obtain ⟨_, o, ho, hn⟩ := hr y.1 he.symm
  rw [hc] at ho
  cases ho
  cases hn
end
end Go.Own
namespace Go.Proofs.YtgilmcpdpggikaaGreatDoor
open Go Go.RowKit Go.Own
theorem cutS_none : ∀ {s : Str}, (cutS s).2 = none → (cutS s).1 = s ∧ Lib.indexByte s 47 = -1
 | [], _ => ⟨rfl, rfl⟩
 | c :: s, h => by
  unfold cutS at h ⊢
  unfold Lib.indexByte
  by_cases hc : c = 47
  ·rw [if_pos hc] at h; cases h
  ·rw [if_neg hc] at h ⊢
   obtain ⟨h1, h2⟩ := cutS_none (s := s) h
   have hb : (c == (47 : UInt8)) = false := by simpa using hc
   rw [hb, h2]
   exact ⟨by simp only; rw [h1], rfl⟩
theorem cutS_some : ∀ {s r : Str}, (cutS s).2 = some r → s = (cutS s).1 ++ 47 :: r ∧ Lib.indexByte s 47 = ((cutS s).1.length : Int)
 | [], r, h => by simp [cutS] at h
 | c :: s, r, h => by
  unfold cutS at h ⊢
  unfold Lib.indexByte
  by_cases hc : c = 47
  ·subst hc
   rw [if_pos rfl] at h ⊢
   cases h
   exact ⟨rfl, rfl⟩
  ·rw [if_neg hc] at h ⊢
   obtain ⟨h1, h2⟩ := cutS_some (s := s) h
   have hb : (c == (47 : UInt8)) = false := by simpa using hc
   rw [hb, h2]
   refine ⟨by simp only [List.cons_append]; rw [← h1], ?_⟩
   have hn : (((cutS s).1.length : Int) == -1) = false := by
    rw [beq_eq_false_iff_ne]; omega
   rw [hn]
   simp
theorem lastM_none : ∀ {l : Str}, (∀ j : Nat, l[j]? ≠ some 47) → lastM l = none
 | [], _ => rfl
 | c :: l, h => by
  have h1 := lastM_none (l := l) (fun j => by have := h (j + 1); simpa using this)
  have h2 : c ≠ 47 := fun e => h 0 (by simp [e])
  rw [lastM, h1]
  simp [h2]
theorem lastM_at : ∀ {l : Str} {i : Nat}, l[i]? = some 47 → (∀ j : Nat, i < j → l[j]? ≠ some 47) → lastM l = some i
 | [], i, h, _ => by simp at h
 | c :: l, 0, h, hn => by
  have h1 := lastM_none (l := l) (fun j => by have := hn (j + 1) (by omega); simpa using this)
  simp at h
  rw [lastM, h1]
  simp [h]
 | c :: l, i + 1, h, hn => by
  have h1 := lastM_at (l := l) (i := i) (by simpa using h) (fun j hj => by have := hn (j + 1) (by omega); simpa using this)
  rw [lastM, h1]
theorem lastM_lt : ∀ {l : Str} {i : Nat}, lastM l = some i → l[i]? = some 47
 | [], i, h => by simp [lastM] at h
 | c :: l, i, h => by
  unfold lastM at h
  split at h
  ·rename_i j hj
   cases h
   simpa using lastM_lt hj
  ·split at h
   ·cases h; simpa using ‹c = 47›
   ·cases h
def lastV (l : Str) : Int := match lastM l with
 | some i => (i : Int)
 | none => -1
section
variable {n : Nat} {ops : Array Oper} {Q : Post} {rest : List Oper} {e : Env} {w : World} {s : Ro} {R : List Asn} {tt : Nat} {pp : String} {af : Array Edge} {g : Option (Nat × Bool)} {d : Nat} {l : Str}
theorem X.ibs {x y : Operand} {ts : Array TypeId} {c : Int} (h : L Tryz.prog n ops Q rest (upd e d (.int .i64 (Lib.indexByte l c.toNat.toUInt8))) w) (hw : wg n ops g e = true := by rfl) (hd : Nat.blt d n = true := by rfl) (hx : ev e x = .string ⟨l.toArray⟩ := by rfl) (hy : ev e y = .int .u8 c := by rfl) : L Tryz.prog n ops Q (⟨some d, .call { callee := .value (.func 163), args := #[x, y], argTypes := ts }, tt, pp, af, g⟩ :: rest) e w :=
 L.val (o := ⟨some d, .call { callee := .value (.func 163), args := #[x, y], argTypes := ts }, tt, pp, af, g⟩) _ w hw hd (by
  have hr := run_callFunc_extern (P := Tryz.prog) Tryz.func163 (by kernel_rfl) (by kernel_rfl) (by kernel_rfl) (e := Extern.BytealgIndexByte.indexByte) (by kernel_rfl) #[.string ⟨l.toArray⟩, .int .u8 c] w
  rw [Lib.run_indexByteString] at hr
  have hd : (⟨l.toArray⟩ : ByteArray).data.toList = l := by simp
  rw [hd] at hr
  have hf : ev e (.func 163) = .func (.func 163) #[] #[] := rfl
  unfold execOp
  simp [resolve, hx, hy, hf, Deferred.ofValue, invoke, hr]) h
theorem IndexByte_s (H : Holds s w R) : Calls Tryz.prog 157 #[.string ⟨l.toArray⟩, .int .u8 47] w fun e w' => e = .returned (.int .i64 (Lib.indexByte l 47)) ∧ Holds s w' R := by
 refine enter Tryz.func157 rfl Tryz.ntmps157 rfl ?_
 repeat' (first | (refine X.ibs (l := l) ?_) | refine Go2 H ?_ | (refine Gs2 H ?_; clear H; (try clear w); intro w H) | (refine Gn H ?_; clear H; (try clear w); intro _ w H))
 exact ⟨_, resT rfl, rfl, H⟩
theorem X.len47 {x : Operand} {t : TypeId} [T : StrC Tryz.prog t] (h : L Tryz.prog n ops Q rest (upd e d (.int .i64 1)) w) (hw : wg n ops g e = true := by rfl) (hd : Nat.blt d n = true := by rfl) (hx : ev e x = .string ⟨#[47]⟩ := by rfl) : L Tryz.prog n ops Q (⟨some d, .call { callee := .builtin .len, args := #[x], argTypes := #[t] }, tt, pp, af, g⟩ :: rest) e w :=
 J.lenS (b := ⟨#[47]⟩) h hw hd hx
theorem Index_s (H : Holds s w R) : Calls Tryz.prog 152 #[.string ⟨l.toArray⟩, .string ⟨#[47]⟩] w fun e w' => e = .returned (.int .i64 (Lib.indexByte l 47)) ∧ Holds s w' R := by
 refine enter Tryz.func152 rfl Tryz.ntmps152 rfl ?_
 by_cases hl : l = [47]
 ·subst hl
  repeat' (first | (refine X.sidx (l := [47]) 0 ?_) | (refine X.len47 ?_) | (refine X.eqL (a := [47]) (b := [47]) ?_ ?_ <;> intro hc <;> first | (exfalso; exact hc rfl) | skip) | refine Go2 H ?_ | (refine Gs2 H ?_; clear H; (try clear w); intro w H) | (refine Gn H ?_; clear H; (try clear w); intro _ w H))
  exact ⟨_, resT rfl, rfl, H⟩
 ·have hl' : ¬ [47] = l := fun h => hl h.symm
  repeat' (first | (refine X.sidx (l := [47]) 0 ?_) | (refine X.len47 ?_) | (refine X.eqL (a := [47]) (b := l) ?_ ?_ <;> intro hc <;> first | (exfalso; exact hl' hc) | skip) | refine Go2 H ?_ | (refine Gs2 H ?_; clear H; (try clear w); intro w H) | (refine Gn H ?_; clear H; (try clear w); intro _ w H))
  (refine X.call (IndexByte_s (l := l) H) ?_; (try clear H); rintro _ w ⟨rfl, H⟩; refine ⟨_, rfl, ?_⟩)
  refine Gq2 H ?_
  exact ⟨_, resT rfl, rfl, H⟩
def cutV (l : Str) : Value := .tuple #[.string ⟨(cutS l).1.toArray⟩, .string ⟨((cutS l).2.getD []).toArray⟩, .bool (cutS l).2.isSome]
theorem cut_s (H : Holds s w R) (hb : l.length ≤ 1000000) : Calls Tryz.prog 143 #[.string ⟨l.toArray⟩, .string ⟨#[47]⟩] w fun e w' => e = .returned (cutV l) ∧ Holds s w' R := by
 refine enter Tryz.func143 rfl Tryz.ntmps143 rfl ?_
 refine Gq2 H ?_
 have hI := Index_s (l := l) H
 cases hcut : (cutS l).2 with
 | none =>
  obtain ⟨h1, h2⟩ := cutS_none hcut
  rw [h2] at hI
  (refine X.call (hI) ?_; (try clear H); rintro _ w ⟨rfl, H⟩; refine ⟨_, rfl, ?_⟩)
  clear hI
  refine Gq2 H ?_
  exact ⟨_, resTTT rfl, by unfold cutV; rw [h1, hcut]; rfl, H⟩
 | some r =>
  obtain ⟨h1, h2⟩ := cutS_some hcut
  rw [h2] at hI
  have hlen : (cutS l).1.length + 1 + r.length = l.length := by
   have := congrArg List.length h1
   simp at this
   omega
  have hgen : ∀ a : Str, l = a ++ 47 :: r → l.take a.length = a ∧ l.drop (a.length + 1) = r := by
   rintro a rfl
   exact ⟨by simp, by rw [← List.drop_drop]; simp⟩
  obtain ⟨e1, e2⟩ := hgen _ h1
  (refine X.call (hI) ?_; (try clear H); rintro _ w ⟨rfl, H⟩; refine ⟨_, rfl, ?_⟩)
  clear hI
  refine Gq2 H ?_
  refine C.drawn1 [0, 0, 0, 0, 0, 0, 0, 0, 0, 0, 0, 0] [0, 0, 3, 0, 0, 0, 32, 112, 248, 7, 1023, 2047] (by kernel_rfl) ?_; replace H := H.drew
  repeat' (first | (refine X.len47 ?_) | (refine X.upto (l := l) (cutS l).1.length ?_ rfl (by omega)) | (refine X.from (l := l) ((cutS l).1.length + 1) ?_ rfl (by omega)) | refine Go2 H ?_ | (refine Gs2 H ?_; clear H; (try clear w); intro w H) | (refine Gn H ?_; clear H; (try clear w); intro _ w H))
  refine ⟨_, resTTT rfl, ?_, H⟩
  show Ending.returned (Value.tuple #[.string ⟨(l.take (cutS l).1.length).toArray⟩, .string ⟨(l.drop ((cutS l).1.length + 1)).toArray⟩, .bool true]) = _
  rw [e1, e2, cutV, hcut]
  rfl
theorem Cut_s (H : Holds s w R) (hb : l.length ≤ 1000000) : Calls Tryz.prog 123 #[.string ⟨l.toArray⟩, .string ⟨#[47]⟩] w fun e w' => e = .returned (cutV l) ∧ Holds s w' R := by
 refine enter Tryz.func123 rfl Tryz.ntmps123 rfl ?_
 refine Gq2 H ?_
 (refine X.call (cut_s H hb) ?_; (try clear H); rintro _ w ⟨rfl, H⟩; refine ⟨_, rfl, ?_⟩)
 refine Gq2 H ?_
 exact ⟨_, resTTT rfl, rfl, H⟩
theorem LastIndexByteString_s (H : Holds s w R) (hb : l.length ≤ 1000000) : Calls Tryz.prog 124 #[.string ⟨l.toArray⟩, .int .u8 47] w fun e w' => e = .returned (.int .i64 (lastV l)) ∧ Holds s w' R := by
 refine enter Tryz.func124 rfl Tryz.ntmps124 rfl ?_
 refine Gq2 H ?_
 refine C.loopH H [4, 5, 9, 10, 11, 12, 13, 14, 15, 16, 17, 18] [5] rfl (fun k vs => ∃ i : Nat, k = i ∧ i ≤ l.length ∧ vs = [.int .i64 ((i : Int) - 1)] ∧ ∀ j, i ≤ j → l[j]? ≠ some 47) l.length ⟨l.length, rfl, Nat.le_refl _, rfl, fun j hj => by rw [List.getElem?_eq_none hj]; simp⟩ ?_
 clear H
 rintro k vs hv w ⟨i, rfl, hi, rfl, hn⟩ H
 cases k with
 | zero =>
  refine Gq2 H ?_
  exact ⟨_, resT rfl, by rw [lastV, lastM_none (fun j => hn j (by omega))]; rfl, H⟩
 | succ i =>
  have hlt : i < l.length := by omega
  have hg : l[i]? = some (l[i]?.getD 0) := by rw [List.getElem?_eq_getElem hlt]; rfl
  by_cases hx : (l[i]?.getD 0).toNat = 47
  ·have hx' : l[i]?.getD 0 = 47 := UInt8.toNat_inj.1 hx
   repeat' (first | (refine X.sidx i ?_) | refine Go2 H ?_ | (refine Gs2 H ?_; clear H; (try clear w); intro w H) | (refine Gn H ?_; clear H; (try clear w); intro _ w H))
   refine ⟨_, resT rfl, ?_, H⟩
   rw [lastV, lastM_at (i := i) (by rw [hg, hx']) (fun j hj => hn j (by omega))]
   have e1 : ((i + 1 : Nat) : Int) - 1 = (i : Int) := by omega
   show Ending.returned (Value.int _ (((i + 1 : Nat) : Int) - 1)) = _
   rw [e1]
  ·have hx' : l[i]?.getD 0 ≠ 47 := fun h => hx (by rw [h]; rfl)
   repeat' (first | (refine X.sidx i ?_) | refine Go2 H ?_ | (refine Gs2 H ?_; clear H; (try clear w); intro w H) | (refine Gn H ?_; clear H; (try clear w); intro _ w H))
   refine ⟨agr, i, by omega, ⟨i, rfl, by omega, ?_, fun j hj => ?_⟩, H⟩
   ·have e1 : ((i + 1 : Nat) : Int) - 1 - 1 = (i : Int) - 1 := by omega
    show [Value.int .i64 (((i + 1 : Nat) : Int) - 1 - 1)] = _
    rw [e1]
   ·by_cases hji : j = i
    ·subst hji; rw [hg]; simpa using hx'
    ·exact hn j (by omega)
theorem LastIndexByte_s (H : Holds s w R) (hb : l.length ≤ 1000000) : Calls Tryz.prog 97 #[.string ⟨l.toArray⟩, .int .u8 47] w fun e w' => e = .returned (.int .i64 (lastV l)) ∧ Holds s w' R := by
 refine enter Tryz.func97 rfl Tryz.ntmps97 rfl ?_
 refine Gq2 H ?_
 (refine X.call (LastIndexByteString_s H hb) ?_; (try clear H); rintro _ w ⟨rfl, H⟩; refine ⟨_, rfl, ?_⟩)
 refine Gq2 H ?_
 exact ⟨_, resT rfl, rfl, H⟩
theorem split_s (H : Holds s w R) (hb : l.length ≤ 1000000) {i : Nat} (hi : lastM l = some i) : Calls Tryz.prog 69 #[.string ⟨l.toArray⟩] w fun e w' => e = .returned (.tuple #[.string ⟨(splitM l).1.toArray⟩, .string ⟨(splitM l).2.toArray⟩]) ∧ Holds s w' R := by
 refine enter Tryz.func69 rfl Tryz.ntmps69 rfl ?_
 have hlt : i < l.length := (List.getElem?_eq_some_iff.1 (lastM_lt hi)).1
 refine Gq2 H ?_
 have hL := LastIndexByte_s H hb
 rw [lastV, hi] at hL
 dsimp only at hL
 (refine X.call (hL) ?_; (try clear H); rintro _ w ⟨rfl, H⟩; refine ⟨_, rfl, ?_⟩)
 clear hL
 by_cases h0 : i = 0
 ·subst h0
  refine Gq2 H ?_
  refine C.drawn1 [0, 0, 0, 0] [0, 1, 0, 7] (by kernel_rfl) ?_; replace H := H.drew
  repeat' (first | (refine X.from (l := l) 1 ?_ rfl (by omega)) | refine Go2 H ?_ | (refine Gs2 H ?_; clear H; (try clear w); intro w H) | (refine Gn H ?_; clear H; (try clear w); intro _ w H))
  exact ⟨_, resTT rfl, by rw [splitM, hi]; rfl, H⟩
 ·refine Gq2 H ?_
  refine C.drawn1 [0, 0, 0, 0, 0, 0, 0, 0, 0] [0, 0, 3, 0, 0, 16, 56, 7, 255] (by kernel_rfl) ?_; replace H := H.drew
  repeat' (first | (refine X.upto (l := l) i ?_ rfl (by omega)) | (refine X.from (l := l) (i + 1) ?_ rfl (by omega)) | refine Go2 H ?_ | (refine Gs2 H ?_; clear H; (try clear w); intro w H) | (refine Gn H ?_; clear H; (try clear w); intro _ w H))
  exact ⟨_, resTT rfl, by
   have : splitM l = (l.take i, l.drop (i + 1)) := by
    unfold splitM
    rw [hi]
    cases i with
    | zero => exact absurd rfl h0
    | succ i => rfl
   rw [this]; rfl, H⟩
end
end Go.Proofs.YtgilmcpdpggikaaGreatDoor

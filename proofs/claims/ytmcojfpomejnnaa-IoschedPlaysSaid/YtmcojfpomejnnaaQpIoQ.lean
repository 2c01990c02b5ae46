/- IoschedApart: the plain law. IoschedApart: law15.run, walked. More rules of the walk: structs within variables. Over any program. The document's schedule: what it has in common with the model, and how it lies in memory. -/
import Derived.Test.YtmcojfpomejnnaaQpAr
import Derived.Test.YtmcojfpomejnnaaQpK3
set_option linter.unusedSimpArgs false
set_option linter.unusedVariables false
namespace Go.Proofs.Ytmcojfpomejnnaa
open Go Go.RowKit Go.Own
/-- unlike extents of a shape share no sector -/
def ApX (x : Shp) : Prop := ∀ (i j : Nat) (e e' : Ext), i ≠ j → x.xs[i]? = some e → x.xs[j]? = some e' → e.2 ≠ 0 → e'.2 ≠ 0 → ∀ k : Int, ¬ ((e.1 ≤ k ∧ k < e.1 + e.2) ∧ (e'.1 ≤ k ∧ k < e'.1 + e'.2))
/-- a schedule of a shape, on a disk that is on -/
structure In (x : Shp) (m : SM) (d : DM) : Prop where
  ext : ∀ (j : Nat) p e, m.parts[j]? = some p → p.ext = some e → x.xs[j]? = some e ∧ e.2 ≠ 0
  fre : Fre d
theorem In.new (x : Shp) : In x (SM.new x.xs x.rooms x.slots) (DM.new 16) := by
  refine ⟨fun j p e hp he => ?_, ⟨rfl, rfl, by simp [DM.new]⟩⟩
  simp only [SM.new, List.getElem?_zipWith] at hp
  split at hp
  · rename_i e' r h1 h2
    cases hp
    unfold newPM at he
    simp only at he
    split at he
    · cases he
    · rename_i h0; cases he; exact ⟨h1, h0⟩
  · cases hp
theorem In.ask {x : Shp} {m : SM} {d : DM} (h : In x m d) (i k a : Int) (l : List UInt8) : In x (m.ask i k a l).1 d := by
  unfold SM.ask
  split
  · split
    · exact h
    · rename_i p0 hp0
      refine ⟨fun j p e hp he => ?_, h.fre⟩
      simp only [List.getElem?_set] at hp
      split at hp
      · rename_i hj
        split at hp
        · cases hp
          rw [askP_ext] at he
          exact h.ext j p0 e (by rw [← hj]; exact hp0) he
        · cases hp
      · exact h.ext j p e hp he
  · exact h
theorem In.slot {x : Shp} {m : SM} {d : DM} (h : In x m d) : In x (m.slot d).1 (m.slot d).2.1 := by
  unfold SM.slot
  split
  · exact h
  · split
    · exact ⟨h.ext, h.fre⟩
    · split
      · exact ⟨h.ext, h.fre⟩
      · rename_i pt _ _ p0 hp0
        split
        · rename_i r rest e0 hq0 he0
          refine ⟨fun j p e hp he => ?_, (serve_fre h.fre e0 r).1⟩
          simp only [List.getElem?_set] at hp
          split at hp
          · rename_i hjj
            split at hp
            · cases hp
              exact h.ext j p0 e (by rw [← hjj]; exact hp0) he
            · cases hp
          · exact h.ext j p e hp he
        · exact ⟨h.ext, h.fre⟩
def Dn.nope : Dn := ⟨-1, 0, [], 0⟩
/-- what a partition sees of a slot -/
def see (pt : Int) (o : Option Dn) : Dn := match o with
  | some x => if x.part = pt then x else Dn.nope
  | none => Dn.nope
/-- two runs, alike for a partition -/
structure Ap (x : Shp) (pt : Int) (m1 : SM) (d1 : DM) (m2 : SM) (d2 : DM) : Prop where
  a : In x m1 d1
  b : In x m2 d2
  sl : m1.slots = m2.slots
  nx : m1.next = m2.next
  own : ∀ j : Nat, (j : Int) = pt → m1.parts[j]? = m2.parts[j]?
  cur : ∀ e, 0 ≤ pt → x.xs[pt.toNat]? = some e → ∀ k : Nat, k < 16 → e.1 ≤ (k : Int) → (k : Int) < e.1 + e.2 → d1.cur k = d2.cur k
theorem Ap.new (x : Shp) (pt : Int) : Ap x pt (SM.new x.xs x.rooms x.slots) (DM.new 16) (SM.new x.xs x.rooms x.slots) (DM.new 16) := ⟨In.new x, In.new x, rfl, rfl, fun _ _ => rfl, fun _ _ _ _ _ _ _ => rfl⟩
theorem Ap.symm {x : Shp} {pt : Int} {m1 m2 : SM} {d1 d2 : DM} (h : Ap x pt m1 d1 m2 d2) : Ap x pt m2 d2 m1 d1 := ⟨h.b, h.a, h.sl.symm, h.nx.symm, fun j hj => (h.own j hj).symm, fun e h0 he k h1 h2 h3 => (h.cur e h0 he k h1 h2 h3).symm⟩
/-- a slot that is not the partition's -/
theorem slot_far {x : Shp} (hA : ApX x) {pt : Int} {m : SM} {d : DM} (h : In x m d) (hs : m.slots[m.next]? ≠ some pt ∨ pt < 0) :
    (∀ j : Nat, (j : Int) = pt → (m.slot d).1.parts[j]? = m.parts[j]?) ∧ see pt (m.slot d).2.2 = Dn.nope ∧ ∀ e, 0 ≤ pt → x.xs[pt.toNat]? = some e → ∀ k : Nat, k < 16 → e.1 ≤ (k : Int) → (k : Int) < e.1 + e.2 → (m.slot d).2.1.cur k = d.cur k := by
  unfold SM.slot
  split
  · exact ⟨fun _ _ => rfl, rfl, fun _ _ _ _ _ _ _ => rfl⟩
  · rename_i v hv
    split
    · exact ⟨fun _ _ => rfl, rfl, fun _ _ _ _ _ _ _ => rfl⟩
    · rename_i hv0
      have hne : v ≠ pt := by
        rintro rfl
        rcases hs with hs | hs
        · exact hs hv
        · omega
      split
      · exact ⟨fun _ _ => rfl, rfl, fun _ _ _ _ _ _ _ => rfl⟩
      · rename_i p0 hp0
        split
        · rename_i r rest e0 hq0 he0
          refine ⟨fun j hj => ?_, ?_, fun e h0 he k hk h1 h2 => ?_⟩
          · simp only
            rw [List.getElem?_set_ne (by omega)]
          · simp only [see]; rw [if_neg hne]
          · obtain ⟨x0, n0⟩ := h.ext v.toNat p0 e0 hp0 he0
            exact (serve_fre h.fre e0 r).2 k hk fun hk' => hA v.toNat pt.toNat e0 e (by omega) x0 he n0 (by omega) (k : Int) ⟨hk', h1, h2⟩
        · exact ⟨fun _ _ => rfl, rfl, fun _ _ _ _ _ _ _ => rfl⟩
theorem slot_rest (m : SM) (d : DM) : (m.slot d).1.slots = m.slots ∧ (m.slot d).1.next = if m.next < m.slots.length then (m.next + 1) % m.slots.length else m.next := by
  unfold SM.slot
  split
  · rename_i h
    rw [List.getElem?_eq_none_iff] at h
    rw [if_neg (by omega)]; exact ⟨rfl, rfl⟩
  · rename_i v hv
    have hl := (List.getElem?_eq_some_iff.1 hv).1
    rw [if_pos hl]
    split
    · exact ⟨rfl, rfl⟩
    · split
      · exact ⟨rfl, rfl⟩
      · split <;> exact ⟨rfl, rfl⟩
/-- what is served of a request hangs on the extent's own sectors -/
theorem serve_eq {d1 d2 : DM} (h1 : Fre d1) (h2 : Fre d2) (x : Ext) (r : Rq) (hc : ∀ k : Nat, k < 16 → x.1 ≤ (k : Int) → (k : Int) < x.1 + x.2 → d1.cur k = d2.cur k) :
    (serveM d1 x r).2 = (serveM d2 x r).2 ∧ ∀ k : Nat, k < 16 → x.1 ≤ (k : Int) → (k : Int) < x.1 + x.2 → (serveM d1 x r).1.cur k = (serveM d2 x r).1.cur k := by
  have hib : ∀ n, d1.inB n = d2.inB n := fun n => by unfold DM.inB; rw [h1.len, h2.len]
  unfold serveM
  split
  · refine ⟨?_, hc⟩
    simp only [pread]
    split
    · rename_i hp
      unfold DM.read
      rw [hib]
      split
      · rename_i hb
        rw [h1.off, h2.off]
        simp only [Bool.false_eq_true, if_false]
        rw [show d2.inB _ = decide _ from rfl, decide_eq_true_eq, h2.len] at hb
        unfold placeM at hp hb ⊢
        split at hp
        · cases hp
        · split at hp
          · cases hp
          · rename_i q1 q2
            rw [if_neg q1, if_neg q2] at hb ⊢
            simp only at hb ⊢
            rw [hc _ (by omega) (by omega) (by omega)]
      · rfl
    · rfl
  · split
    · simp only [pwrite]
      split
      · rename_i hp
        have hw : ∀ (d : DM) (h : Fre d) n (l : List UInt8), d.write n l = if d.inB n then (if l.length = 64 then ({ d with pend := d.pend ++ [(n.toNat, l)] }, 0) else (d, 1)) else (d, 4) := by
          intro d h n l
          unfold DM.write
          rw [powered_free h.off h.arm]
          simp
        rw [hw d1 h1, hw d2 h2, hib]
        split
        · split
          · refine ⟨rfl, fun k hk e1 e2 => ?_⟩
            rw [show ({ d1 with pend := d1.pend ++ [((placeM x.1 x.2 r.at_).1.toNat, r.data)] } : DM).cur k = _ from cur_wr1 d1 _ k r.data, show ({ d2 with pend := d2.pend ++ [((placeM x.1 x.2 r.at_).1.toNat, r.data)] } : DM).cur k = _ from cur_wr1 d2 _ k r.data, hc k hk e1 e2]
          · exact ⟨rfl, hc⟩
        · exact ⟨rfl, hc⟩
      · exact ⟨rfl, hc⟩
    · have hf : ∀ (d : DM) (h : Fre d), d.flush.2 = 0 := by
        intro d h
        simp [DM.flush, powered_free h.off h.arm]
      refine ⟨by simp only [hf d1 h1, hf d2 h2], fun k hk e1 e2 => ?_⟩
      simp only
      rw [(flush_fre h1).2 k hk, (flush_fre h2).2 k hk, hc k hk e1 e2]
theorem Ap.slot {x : Shp} (hA : ApX x) {pt : Int} {m1 m2 : SM} {d1 d2 : DM} (h : Ap x pt m1 d1 m2 d2) :
    Ap x pt (m1.slot d1).1 (m1.slot d1).2.1 (m2.slot d2).1 (m2.slot d2).2.1 ∧ see pt (m1.slot d1).2.2 = see pt (m2.slot d2).2.2 := by
  obtain ⟨r1, r2⟩ := slot_rest m1 d1
  obtain ⟨t1, t2⟩ := slot_rest m2 d2
  have esl := r1.trans (h.sl.trans t1.symm)
  have enx : (m1.slot d1).1.next = (m2.slot d2).1.next := by rw [r2, t2, h.sl, h.nx]
  by_cases hs : m1.slots[m1.next]? ≠ some pt ∨ pt < 0
  · obtain ⟨a1, a2, a3⟩ := slot_far hA h.a hs
    obtain ⟨b1, b2, b3⟩ := slot_far hA h.b (by rw [← h.sl, ← h.nx]; exact hs)
    exact ⟨⟨h.a.slot, h.b.slot, esl, enx, fun j hj => (a1 j hj).trans ((h.own j hj).trans (b1 j hj).symm), fun e h0 he k hk e1 e2 => (a3 e h0 he k hk e1 e2).trans ((h.cur e h0 he k hk e1 e2).trans (b3 e h0 he k hk e1 e2).symm)⟩, a2.trans b2.symm⟩
  · have hs1 : m1.slots[m1.next]? = some pt := by
      by_cases h1 : m1.slots[m1.next]? = some pt
      · exact h1
      · exact absurd (Or.inl h1) hs
    have h0 : ¬ pt < 0 := fun h1 => hs (.inr h1)
    have hs2 : m2.slots[m2.next]? = some pt := by rw [← h.sl, ← h.nx]; exact hs1
    have ho := h.own pt.toNat (by omega)
    have key : (∀ j : Nat, (j : Int) = pt → (m1.slot d1).1.parts[j]? = (m2.slot d2).1.parts[j]?) ∧ (∀ e, 0 ≤ pt → x.xs[pt.toNat]? = some e → ∀ k : Nat, k < 16 → e.1 ≤ (k : Int) → (k : Int) < e.1 + e.2 → (m1.slot d1).2.1.cur k = (m2.slot d2).2.1.cur k) ∧ (m1.slot d1).2.2 = (m2.slot d2).2.2 := by
      unfold SM.slot
      rw [hs1, hs2]
      simp only
      rw [if_neg h0, if_neg h0, ho]
      cases hp : m2.parts[pt.toNat]? with
      | none => exact ⟨h.own, h.cur, rfl⟩
      | some p =>
        simp only
        cases hq : p.q with
        | nil => exact ⟨h.own, h.cur, rfl⟩
        | cons r rest =>
          cases he : p.ext with
          | none => exact ⟨h.own, h.cur, rfl⟩
          | some e0 =>
            simp only
            obtain ⟨x0, n0⟩ := h.b.ext pt.toNat p e0 hp he
            obtain ⟨s1, s2⟩ := serve_eq h.a.fre h.b.fre e0 r (fun k hk => h.cur e0 (by omega) x0 k hk)
            refine ⟨fun j hj => ?_, fun e _ he' k hk e1 e2 => ?_, by rw [s1]⟩
            · have e : j = pt.toNat := by omega
              subst e
              rw [List.getElem?_set_self (List.getElem?_eq_some_iff.1 (ho.trans hp)).1, List.getElem?_set_self (List.getElem?_eq_some_iff.1 hp).1]
            · rw [x0] at he'
              cases he'
              exact s2 k hk e1 e2
    exact ⟨⟨h.a.slot, h.b.slot, esl, enx, key.1, key.2.1⟩, by rw [key.2.2]⟩
end Go.Proofs.Ytmcojfpomejnnaa
set_option linter.unusedSimpArgs false
set_option linter.unusedVariables false
namespace Go.Proofs.Ytmcojfpomejnnaa
open Go Go.RowKit Go.Own
/-- a Done in memory -/
structure Dv where
  dn : Dn
  da : Option Addr
  dc : Nat
def Dv.cells (v : Dv) : List Value := [.int .i64 v.dn.part, .int .u64 (v.dn.n : Int), .slice v.da v.dn.data.length v.dc, .int .i64 v.dn.code]
def Dv.ok (s : Ro) (v : Dv) : Prop := SlS s (.slice v.da v.dn.data.length v.dc) 1 v.dn.data.length (u8s v.dn.data)
def Dv.nope : Dv := ⟨Dn.nope, none, 0⟩
section
variable {pt : Int} {l : List Act15} {i : Nat} {m : SM} {o : List Dn}
end
section
variable {s : Ro} {w : World} {R : List Asn}
end
end Go.Proofs.Ytmcojfpomejnnaa
set_option linter.unusedSimpArgs false
set_option linter.unusedVariables false
namespace Go.Own
open Go Go.RowKit
section
variable {P : Program} {n : Nat} {ops : Array Oper} {Q : Post} {rest : List Oper} {e : Env} {w w' : World} {s : Ro} {rs : List Asn} {tt : Nat} {pp : String} {af : Array Edge} {g : Option (Nat × Bool)} {d : Nat}
/-- a struct within a variable is read -/
theorem X.ldp {ty : TypeId} {x : Operand} {k : Nat} [RowC P ty k] {b off : Nat} {t : TypeId} {cs : List Value} {f : List Value → List Asn} (ys : List Value) (H : Holds s w rs) (h : L P n ops Q rest (upd e d (.agg ys.toArray)) w) (hw : wg n ops g e = true := by rfl) (hd : Nat.blt d n = true := by rfl) (hx : ev e x = .pointer (some ⟨b, off, none⟩) := by rfl) (T : PutV rs b t cs f := by infer_instance) (hys : (cs.drop off).take k = ys := by rfl) (hn : ys.length = k := by rfl) : L P n ops Q (⟨some d, .load ty x, tt, pp, af, g⟩ :: rest) e w := by
  obtain ⟨i, hi, _⟩ := T.ix
  exact K.loadPart i ys H hw hd hx hi hys hn h
/-- a struct within a variable is written -/
theorem X.stp {ty : TypeId} {x y : Operand} {k : Nat} [T : RowC P ty k] {b off : Nat} {t : TypeId} {cs ys : List Value} {f : List Value → List Asn} (cs' : List Value) (H : Holds s w rs) (h : ∀ w', Holds s w' (f cs') → L P n ops Q rest e w') (hw : wg n ops g e = true := by rfl) (hx : ev e x = .pointer (some ⟨b, off, none⟩) := by rfl) (V : PutV rs b t cs f := by infer_instance) (hy : ev e y = .agg ys.toArray := by rfl) (hcs : cs.take off ++ ys ++ cs.drop (off + k) = cs' := by rfl) (h1 : ys.all Value.oneCell' = true := by rfl) (hn : ys.length = k := by rfl) (hl : Nat.ble (off + k) cs.length = true := by rfl) : L P n ops Q (⟨none, .store ty x y, tt, pp, af, g⟩ :: rest) e w := by
  obtain ⟨i, hi, hf⟩ := V.ix
  subst hcs
  refine ⟨fun a ha => sl_storepart i H (by rw [ha.wn]; exact hw) rfl (by rw [ha.eval]; exact hx) hi (by rw [ha.eval]; exact hy) (fun v hv => List.all_eq_true.1 h1 v hv) hn (Nat.le_of_ble_eq_true hl) (fun w' H' => ?_)⟩
  rw [hf] at H'
  exact (h w' H').go _ (ha.put (d := none) rfl _)
end
end Go.Own
set_option linter.unusedSimpArgs false
set_option linter.unusedVariables false
namespace Go.Proofs.Ytmcojfpomejnnaa
open Go Go.RowKit Go.Own
/-- a partition's model is as the rows say -/
structure PlP (x : Ext) (room : Int) (p : PM) : Prop where
  ext : p.ext = if x.2 = 0 then none else some x
  room : p.room = room
  last : p.last = p.served + p.q.length
  num : ∀ k (h : k < p.q.length), p.q[k].n = p.served + k + 1
  fm : ∀ r ∈ p.q, formedM r.kind r.at_ r.data.length = true ∧ x.2 ≠ 0 ∧ (r.kind = 2 ∨ (0 ≤ r.at_ ∧ r.at_ < x.2))
structure Pl (xs : List Ext) (rooms : List Int) (m : SM) : Prop where
  len : m.parts.length = xs.length
  rl : rooms.length = xs.length
  few : xs.length ≤ 8
  r16 : ∀ r ∈ rooms, 1 ≤ r ∧ r ≤ 16
  sln : m.slots.length ≤ 32
  slv : ∀ v ∈ m.slots, -1 ≤ v ∧ v < (xs.length : Int)
  nxt : m.next < m.slots.length ∨ (m.slots = [] ∧ m.next = 0)
  lie : ∀ x ∈ xs, x.2 ≠ 0 → liesM x.1 x.2 16 = true
  xi : ∀ x ∈ xs, I64 x.1 ∧ I64 x.2
  all : ∀ i (h : i < xs.length) (h1 : i < rooms.length) (h2 : i < m.parts.length), PlP xs[i] rooms[i] m.parts[i]
theorem Pl.new {xs : List Ext} {rooms slots : List Int} (hm : mayM 16 xs rooms slots = 0) (hxo : ∀ x ∈ xs, I64 x.1 ∧ I64 x.2) : Pl xs rooms (SM.new xs rooms slots) := by
  have e1 : rooms.length = xs.length ∧ xs.length ≤ 8 ∧ slots.length ≤ 32 := Decidable.byContradiction fun h => by rw [may_1 h] at hm; cases hm
  have e2 : ∀ r ∈ rooms, 1 ≤ r ∧ r ≤ 16 := Decidable.byContradiction fun h => by
    unfold mayM at hm; rw [if_neg (by simpa using e1), if_pos h] at hm; cases hm
  have e3 : ∀ v ∈ slots, -1 ≤ v ∧ v < (xs.length : Int) := Decidable.byContradiction fun h => by
    unfold mayM at hm; rw [if_neg (by simpa using e1), if_neg (by simpa using e2), if_pos h] at hm; cases hm
  have e4 : ∀ x ∈ xs, x.2 ≠ 0 → liesM x.1 x.2 16 = true := Decidable.byContradiction fun h => by
    unfold mayM at hm; rw [if_neg (by simpa using e1), if_neg (by simpa using e2), if_neg (by simpa using e3), if_pos h] at hm; cases hm
  refine ⟨by simp [SM.new, e1.1], e1.1, e1.2.1, e2, e1.2.2, e3, ?_, e4, hxo, fun i h h1 h2 => ?_⟩
  · show 0 < slots.length ∨ (slots = [] ∧ 0 = 0)
    cases slots with
    | nil => exact .inr ⟨rfl, rfl⟩
    | cons a l => exact .inl (by simp)
  · have : (SM.new xs rooms slots).parts[i] = newPM xs[i] rooms[i] := by simp [SM.new]
    rw [this]
    exact ⟨rfl, rfl, rfl, fun k h => by simp [newPM] at h, fun r h => by simp [newPM] at h⟩
theorem Pl.set {xs : List Ext} {rooms : List Int} {m : SM} (h : Pl xs rooms m) {j : Nat} {p : PM} (hp : ∀ (h : j < xs.length) (h1 : j < rooms.length), PlP xs[j] rooms[j] p) : Pl xs rooms { m with parts := m.parts.set j p } := by
  refine ⟨by simp [h.len], h.rl, h.few, h.r16, h.sln, h.slv, h.nxt, h.lie, h.xi, fun i h1 h2 h3 => ?_⟩
  simp only [List.getElem_set]
  split
  · rename_i e; subst e; exact hp h1 h2
  · exact h.all i h1 h2 (by simpa using h3)
theorem Pl.step {xs : List Ext} {rooms : List Int} {m : SM} (h : Pl xs rooms m) (hn : m.next < m.slots.length) : Pl xs rooms m.step :=
  ⟨h.len, h.rl, h.few, h.r16, h.sln, h.slv, .inl (Nat.mod_lt _ (by omega)), h.lie, h.xi, h.all⟩
theorem PlP.ask {x : Ext} {room : Int} {p : PM} (h : PlP x room p) (k a : Int) (l : List UInt8) : PlP x room (askP p k a l).1 := by
  unfold askP
  split
  · exact h
  · rename_i y hy
    split
    · exact h
    · rename_i hf
      split
      · exact h
      · rename_i hr
        split
        · exact h
        · have hxy : x.2 ≠ 0 ∧ y = x := by
            have := h.ext
            rw [hy] at this
            split at this
            · cases this
            · rename_i hx; injection this with this; exact ⟨hx, this⟩
          obtain ⟨hx0, rfl⟩ := hxy
          have hl := h.last
          refine ⟨by rw [← h.ext, hy], h.room, by simp; omega, fun q hq => ?_, fun r hr' => ?_⟩
          · simp only [List.length_append, List.length_cons, List.length_nil] at hq
            simp only [List.getElem_append]
            split
            · exact h.num q (by assumption)
            · simp only [List.getElem_singleton]; omega
          · rcases List.mem_append.1 hr' with h' | h'
            · exact h.fm r h'
            · rw [List.mem_singleton.1 h']
              exact ⟨by simpa using hf, hx0, by simp only; omega⟩
theorem Pl.ask {xs : List Ext} {rooms : List Int} {m : SM} (h : Pl xs rooms m) (i k a : Int) (l : List UInt8) : Pl xs rooms (m.ask i k a l).1 := by
  unfold SM.ask
  split
  · split
    · exact h
    · rename_i p hp
      obtain ⟨h1, h2⟩ := List.getElem?_eq_some_iff.1 hp
      exact h.set fun h3 h4 => by rw [← h2]; exact (h.all _ h3 h4 h1).ask k a l
  · exact h
theorem PlP.pop {x : Ext} {room : Int} {p : PM} {r : Rq} {rest : List Rq} (h : PlP x room p) (hq : p.q = r :: rest) : PlP x room { p with q := rest, served := p.served + 1 } := by
  have hl := h.last
  rw [hq] at hl
  simp only [List.length_cons] at hl
  refine ⟨h.ext, h.room, by simp only; omega, fun k hk => ?_, fun r' hr' => h.fm r' (by rw [hq]; exact List.mem_cons_of_mem _ hr')⟩
  have := h.num (k + 1) (by rw [hq]; simp only [List.length_cons]; simp only at hk; omega)
  simp only [hq, List.getElem_cons_succ] at this
  simp only
  omega
theorem Pl.slot {xs : List Ext} {rooms : List Int} {m : SM} (h : Pl xs rooms m) (d : DM) : Pl xs rooms (m.slot d).1 := by
  unfold SM.slot
  split
  · exact h
  · rename_i pt hpt
    have hs := h.step (List.getElem?_eq_some_iff.1 hpt).1
    split
    · exact hs
    · split
      · exact hs
      · rename_i p hp
        obtain ⟨h1, h2⟩ := List.getElem?_eq_some_iff.1 hp
        split
        · rename_i r rest x hq hx
          refine hs.set fun h3 h4 => ?_
          have := (h.all _ h3 h4 h1)
          rw [h2] at this
          exact this.pop hq
        · exact hs
structure Wq where
  r : Rq
  a : Option Addr
  c : Nat
def Wq.cells (x : Wq) : List Value := [.int .i64 x.r.kind, .int .i64 x.r.at_, .slice x.a x.r.data.length x.c]
/-- a partition's waiting requests, as a row in memory -/
def Wl (s : Ro) (v : Value) (q : List Rq) : Prop := ∃ l : List Wq, l.map Wq.r = q ∧ SlS s v 3 l.length (l.flatMap Wq.cells) ∧ ∀ x ∈ l, SlS s (.slice x.a x.r.data.length x.c) 1 x.r.data.length (u8s x.r.data)
theorem Wl.mono {s s' : Ro} {v : Value} {q : List Rq} (h : Wl s v q) (hs : s.Le s') : Wl s' v q := by
  obtain ⟨l, h1, h2, h3⟩ := h
  exact ⟨l, h1, h2.mono hs, fun x hx => (h3 x hx).mono hs⟩
theorem Wl.nil (s : Ro) : Wl s (.slice none 0 0) [] := ⟨[], rfl, SlS.nil s 3, fun x h => by cases h⟩
theorem Wl.form {s : Ro} {v : Value} {q : List Rq} (h : Wl s v q) : ∃ a c, v = .slice a q.length c ∧ q.length ≤ c ∧ c ≤ maxLen := by
  obtain ⟨l, rfl, h2, _⟩ := h
  rw [List.length_map]
  exact formS h2
/-- the facts of the document's schedule; ws: its waiting rows -/
structure RFac (s : Ro) (xs : List Ext) (rooms : List Int) (m : SM) (d : DM) (dv xv rv lv : Value) (ws : List Value) : Prop where
  dk : RefS s dv d
  hx : SlS s xv 2 xs.length (xs.flatMap Ext.cells)
  hr : SlS s rv 1 rooms.length (rooms.map (Value.int .i64))
  hl : SlS s lv 1 m.slots.length (m.slots.map (Value.int .i64))
  wn : ws.length = m.parts.length
  wl : ∀ i (h : i < ws.length) (h' : i < m.parts.length), Wl s ws[i] m.parts[i].q
theorem RFac.mono {s s' : Ro} {xs : List Ext} {rooms : List Int} {m : SM} {d : DM} {dv xv rv lv : Value} {ws : List Value} (h : RFac s xs rooms m d dv xv rv lv ws) (hs : s.Le s') : RFac s' xs rooms m d dv xv rv lv ws :=
  ⟨h.dk.mono hs, h.hx.mono hs, h.hr.mono hs, h.hl.mono hs, h.wn, fun i h1 h2 => (h.wl i h1 h2).mono hs⟩
def svd (l : List PM) : List Value := l.map fun p => .int .u64 (p.served : Int)
theorem svd_len (l : List PM) : (svd l).length = l.length := by simp [svd]
theorem svd_set (l : List PM) (j : Nat) (p : PM) : svd (l.set j p) = (svd l).set j (.int .u64 (p.served : Int)) := by simp [svd, List.map_set]
theorem RefS.cells' {s : Ro} {v : Value} {d : DM} (h : RefS s v d) : ∃ a0 c0 a1 c1 lf a2 n2 c2, v = .agg [.slice a0 d.secs.length c0, .slice a1 d.pend.length c1, .bool d.off, .int .i64 lf, .slice a2 n2 c2].toArray := by
  obtain ⟨_, ah, ch, aw, cw, sa, sc, lf, surv, e, _⟩ := h
  exact ⟨ah, ch, aw, cw, lf, sa, _, sc, e⟩
/-- the document's schedule at bW, and the pieces rs beside it -/
def RSch (s : Ro) (w : World) (bW : Nat) (xs : List Ext) (rooms : List Int) (m : SM) (d : DM) (rs : List Asn) : Prop := ∃ a0 c0 a1 c1 lf a2 n2 c2 xa xc ra rc la lc ws wa wc va vc, RFac s xs rooms m d (.agg [.slice a0 d.secs.length c0, .slice a1 d.pend.length c1, .bool d.off, .int .i64 lf, .slice a2 n2 c2].toArray) (.slice xa xs.length xc) (.slice ra rooms.length rc) (.slice la m.slots.length lc) ws ∧
  Holds s w (var bW 77 [.slice a0 d.secs.length c0, .slice a1 d.pend.length c1, .bool d.off, .int .i64 lf, .slice a2 n2 c2, .slice xa xs.length xc, .slice ra rooms.length rc, .slice wa m.parts.length wc, .slice va m.parts.length vc, .slice la m.slots.length lc, .int .i64 (m.next : Int)] :: row 89 1 (.slice wa m.parts.length wc) m.parts.length ws :: row 41 1 (.slice va m.parts.length vc) m.parts.length (svd m.parts) :: rs)
section
variable {s : Ro} {w : World} {R rs rs' : List Asn} {bW : Nat} {xs : List Ext} {rooms : List Int} {m : SM} {d : DM}
theorem RSch.arr (h : RSch s w bW xs rooms m d rs) (T : Arr rs rs' := by infer_instance) : RSch s w bW xs rooms m d rs' := by
  obtain ⟨a0, c0, a1, c1, lf, a2, n2, c2, xa, xc, ra, rc, la, lc, ws, wa, wc, va, vc, hf, H⟩ := h
  exact ⟨a0, c0, a1, c1, lf, a2, n2, c2, xa, xc, ra, rc, la, lc, ws, wa, wc, va, vc, hf, H.arr⟩
theorem RSch.close {a0 a1 a2 xa ra la wa va : Option Addr} {lf : Int} {c0 c1 n2 c2 xc rc lc wc vc : Nat} {ws : List Value} {r1 r2 r3 : List Asn} (hf : RFac s xs rooms m d (.agg [.slice a0 d.secs.length c0, .slice a1 d.pend.length c1, .bool d.off, .int .i64 lf, .slice a2 n2 c2].toArray) (.slice xa xs.length xc) (.slice ra rooms.length rc) (.slice la m.slots.length lc) ws) (H : Holds s w rs)
    (T1 : TakeA rs (var bW 77 [.slice a0 d.secs.length c0, .slice a1 d.pend.length c1, .bool d.off, .int .i64 lf, .slice a2 n2 c2, .slice xa xs.length xc, .slice ra rooms.length rc, .slice wa m.parts.length wc, .slice va m.parts.length vc, .slice la m.slots.length lc, .int .i64 (m.next : Int)]) r1 := by infer_instance) (T2 : TakeA r1 (row 89 1 (.slice wa m.parts.length wc) m.parts.length ws) r2 := by infer_instance) (T3 : TakeA r2 (row 41 1 (.slice va m.parts.length vc) m.parts.length (svd m.parts)) r3 := by infer_instance) : RSch s w bW xs rooms m d r3 := by
  have i1 := T1
  have i2 := T2
  have i3 := T3
  have a3 : Arr r2 (row 41 1 (.slice va m.parts.length vc) m.parts.length (svd m.parts) :: r3) := inferInstance
  have a2' : Arr r1 (row 89 1 (.slice wa m.parts.length wc) m.parts.length ws :: row 41 1 (.slice va m.parts.length vc) m.parts.length (svd m.parts) :: r3) := inferInstance
  exact ⟨a0, c0, a1, c1, lf, a2, n2, c2, xa, xc, ra, rc, la, lc, ws, wa, wc, va, vc, hf, H.arr⟩
theorem RFac.push {m : SM} {dv xv rv lv : Value} {ws : List Value} {j : Nat} {p : PM} {v : Value} (h : RFac s xs rooms m d dv xv rv lv ws) (hw : Wl s v p.q) : RFac s xs rooms { m with parts := m.parts.set j p } d dv xv rv lv (ws.set j v) := by
  refine ⟨h.dk, h.hx, h.hr, h.hl, by simp [h.wn], fun i h1 h2 => ?_⟩
  simp only [List.getElem_set]
  split
  · exact hw
  · exact h.wl i (by simpa using h1) (by simpa using h2)
end
end Go.Proofs.Ytmcojfpomejnnaa

/- IoschedApart: the plain law. IoschedApart: law15.run, walked. More rules of the walk: structs within variables. Over any program. The document's schedule: what it has in common with the model, and how it lies in memory. NacelleDisk: the plain law. -/
import Derived.Test.YtmcojfpomejnnaaNdAr
import Derived.Test.YtmcojfpomejnnaaNdK3
set_option linter.unusedSimpArgs false
set_option linter.unusedVariables false
namespace Go.Proofs.Ytmcojfpomejnnaa
open Go Go.RowKit Go.Own
/-- unlike extents of a shape share no sector -/
def ApX (x : Shp) : Prop := ∀ (i j : Nat) (e e' : Ext), i ≠ j → x.xs[i]? = some e → x.xs[j]? = some e' → e.2 ≠ 0 → e'.2 ≠ 0 → ∀ k : Int, ¬ ((e.1 ≤ k ∧ k < e.1 + e.2) ∧ (e'.1 ≤ k ∧ k < e'.1 + e'.2))
/-- a schedule of a shape, on a disk that is on -/
structure In (x : Shp) (m : SM) (d : DM) : Prop where
  ext : ∀ (j : Nat) p e, m.parts[j]? = some p → p.ext = some e → x.xs[j]? = some e ∧ e.2 ≠ 0
  fre : Fre d
theorem In.new (x : Shp) : In x (SM.new x.xs x.rooms x.slots) (DM.new 16) := by
  refine ⟨fun j p e hp he => ?_, ⟨rfl, rfl, by simp [DM.new]⟩⟩
  simp only [SM.new, List.getElem?_zipWith] at hp
  split at hp
  · rename_i e' r h1 h2
    cases hp
    unfold newPM at he
    simp only at he
    split at he
    · cases he
    · rename_i h0; cases he; exact ⟨h1, h0⟩
  · cases hp
theorem In.ask {x : Shp} {m : SM} {d : DM} (h : In x m d) (i k a : Int) (l : List UInt8) : In x (m.ask i k a l).1 d := by
  unfold SM.ask
  split
  · split
    · exact h
    · rename_i p0 hp0
      refine ⟨fun j p e hp he => ?_, h.fre⟩
      simp only [List.getElem?_set] at hp
      split at hp
      · rename_i hj
        split at hp
        · cases hp
          rw [askP_ext] at he
          exact h.ext j p0 e (by rw [← hj]; exact hp0) he
        · cases hp
      · exact h.ext j p e hp he
  · exact h
theorem In.slot {x : Shp} {m : SM} {d : DM} (h : In x m d) : In x (m.slot d).1 (m.slot d).2.1 := by
  unfold SM.slot
  split
  · exact h
  · split
    · exact ⟨h.ext, h.fre⟩
    · split
      · exact ⟨h.ext, h.fre⟩
      · rename_i pt _ _ p0 hp0
        split
        · rename_i r rest e0 hq0 he0
          refine ⟨fun j p e hp he => ?_, (serve_fre h.fre e0 r).1⟩
          simp only [List.getElem?_set] at hp
          split at hp
          · rename_i hjj
            split at hp
            · cases hp
              exact h.ext j p0 e (by rw [← hjj]; exact hp0) he
            · cases hp
          · exact h.ext j p e hp he
        · exact ⟨h.ext, h.fre⟩
def Dn.nope : Dn := ⟨-1, 0, [], 0⟩
/-- what a partition sees of a slot -/
def see (pt : Int) (o : Option Dn) : Dn := match o with
  | some x => if x.part = pt then x else Dn.nope
  | none => Dn.nope
/-- two runs, alike for a partition -/
structure Ap (x : Shp) (pt : Int) (m1 : SM) (d1 : DM) (m2 : SM) (d2 : DM) : Prop where
  a : In x m1 d1
  b : In x m2 d2
  sl : m1.slots = m2.slots
  nx : m1.next = m2.next
  own : ∀ j : Nat, (j : Int) = pt → m1.parts[j]? = m2.parts[j]?
  cur : ∀ e, 0 ≤ pt → x.xs[pt.toNat]? = some e → ∀ k : Nat, k < 16 → e.1 ≤ (k : Int) → (k : Int) < e.1 + e.2 → d1.cur k = d2.cur k
theorem Ap.new (x : Shp) (pt : Int) : Ap x pt (SM.new x.xs x.rooms x.slots) (DM.new 16) (SM.new x.xs x.rooms x.slots) (DM.new 16) := ⟨In.new x, In.new x, rfl, rfl, fun _ _ => rfl, fun _ _ _ _ _ _ _ => rfl⟩
theorem Ap.symm {x : Shp} {pt : Int} {m1 m2 : SM} {d1 d2 : DM} (h : Ap x pt m1 d1 m2 d2) : Ap x pt m2 d2 m1 d1 := ⟨h.b, h.a, h.sl.symm, h.nx.symm, fun j hj => (h.own j hj).symm, fun e h0 he k h1 h2 h3 => (h.cur e h0 he k h1 h2 h3).symm⟩
/-- a slot that is not the partition's -/
theorem slot_far {x : Shp} (hA : ApX x) {pt : Int} {m : SM} {d : DM} (h : In x m d) (hs : m.slots[m.next]? ≠ some pt ∨ pt < 0) :
    (∀ j : Nat, (j : Int) = pt → (m.slot d).1.parts[j]? = m.parts[j]?) ∧ see pt (m.slot d).2.2 = Dn.nope ∧ ∀ e, 0 ≤ pt → x.xs[pt.toNat]? = some e → ∀ k : Nat, k < 16 → e.1 ≤ (k : Int) → (k : Int) < e.1 + e.2 → (m.slot d).2.1.cur k = d.cur k := by
  unfold SM.slot
  split
  · exact ⟨fun _ _ => rfl, rfl, fun _ _ _ _ _ _ _ => rfl⟩
  · rename_i v hv
    split
    · exact ⟨fun _ _ => rfl, rfl, fun _ _ _ _ _ _ _ => rfl⟩
    · rename_i hv0
      have hne : v ≠ pt := by
        rintro rfl
        rcases hs with hs | hs
        · exact hs hv
        · omega
      split
      · exact ⟨fun _ _ => rfl, rfl, fun _ _ _ _ _ _ _ => rfl⟩
      · rename_i p0 hp0
        split
        · rename_i r rest e0 hq0 he0
          refine ⟨fun j hj => ?_, ?_, fun e h0 he k hk h1 h2 => ?_⟩
          · simp only
            rw [List.getElem?_set_ne (by omega)]
          · simp only [see]; rw [if_neg hne]
          · obtain ⟨x0, n0⟩ := h.ext v.toNat p0 e0 hp0 he0
            exact (serve_fre h.fre e0 r).2 k hk fun hk' => hA v.toNat pt.toNat e0 e (by omega) x0 he n0 (by omega) (k : Int) ⟨hk', h1, h2⟩
        · exact ⟨fun _ _ => rfl, rfl, fun _ _ _ _ _ _ _ => rfl⟩
theorem slot_rest (m : SM) (d : DM) : (m.slot d).1.slots = m.slots ∧ (m.slot d).1.next = if m.next < m.slots.length then (m.next + 1) % m.slots.length else m.next := by
  unfold SM.slot
  split
  · rename_i h
    rw [List.getElem?_eq_none_iff] at h
    rw [if_neg (by omega)]; exact ⟨rfl, rfl⟩
  · rename_i v hv
    have hl := (List.getElem?_eq_some_iff.1 hv).1
    rw [if_pos hl]
    split
    · exact ⟨rfl, rfl⟩
    · split
      · exact ⟨rfl, rfl⟩
      · split <;> exact ⟨rfl, rfl⟩
/-- what is served of a request hangs on the extent's own sectors -/
theorem serve_eq {d1 d2 : DM} (h1 : Fre d1) (h2 : Fre d2) (x : Ext) (r : Rq) (hc : ∀ k : Nat, k < 16 → x.1 ≤ (k : Int) → (k : Int) < x.1 + x.2 → d1.cur k = d2.cur k) :
    (serveM d1 x r).2 = (serveM d2 x r).2 ∧ ∀ k : Nat, k < 16 → x.1 ≤ (k : Int) → (k : Int) < x.1 + x.2 → (serveM d1 x r).1.cur k = (serveM d2 x r).1.cur k := by
  have hib : ∀ n, d1.inB n = d2.inB n := fun n => by unfold DM.inB; rw [h1.len, h2.len]
  unfold serveM
  split
  · refine ⟨?_, hc⟩
    simp only [pread]
    split
    · rename_i hp
      unfold DM.read
      rw [hib]
      split
      · rename_i hb
        rw [h1.off, h2.off]
        simp only [Bool.false_eq_true, if_false]
        rw [show d2.inB _ = decide _ from rfl, decide_eq_true_eq, h2.len] at hb
        unfold placeM at hp hb ⊢
        split at hp
        · cases hp
        · split at hp
          · cases hp
          · rename_i q1 q2
            rw [if_neg q1, if_neg q2] at hb ⊢
            simp only at hb ⊢
            rw [hc _ (by omega) (by omega) (by omega)]
      · rfl
    · rfl
  · split
    · simp only [pwrite]
      split
      · rename_i hp
        have hw : ∀ (d : DM) (h : Fre d) n (l : List UInt8), d.write n l = if d.inB n then (if l.length = 64 then ({ d with pend := d.pend ++ [(n.toNat, l)] }, 0) else (d, 1)) else (d, 4) := by
          intro d h n l
          unfold DM.write
          rw [powered_free h.off h.arm]
          simp
        rw [hw d1 h1, hw d2 h2, hib]
        split
        · split
          · refine ⟨rfl, fun k hk e1 e2 => ?_⟩
            rw [show ({ d1 with pend := d1.pend ++ [((placeM x.1 x.2 r.at_).1.toNat, r.data)] } : DM).cur k = _ from cur_wr1 d1 _ k r.data, show ({ d2 with pend := d2.pend ++ [((placeM x.1 x.2 r.at_).1.toNat, r.data)] } : DM).cur k = _ from cur_wr1 d2 _ k r.data, hc k hk e1 e2]
          · exact ⟨rfl, hc⟩
        · exact ⟨rfl, hc⟩
      · exact ⟨rfl, hc⟩
    · have hf : ∀ (d : DM) (h : Fre d), d.flush.2 = 0 := by
        intro d h
        simp [DM.flush, powered_free h.off h.arm]
      refine ⟨by simp only [hf d1 h1, hf d2 h2], fun k hk e1 e2 => ?_⟩
      simp only
      rw [(flush_fre h1).2 k hk, (flush_fre h2).2 k hk, hc k hk e1 e2]
theorem Ap.slot {x : Shp} (hA : ApX x) {pt : Int} {m1 m2 : SM} {d1 d2 : DM} (h : Ap x pt m1 d1 m2 d2) :
    Ap x pt (m1.slot d1).1 (m1.slot d1).2.1 (m2.slot d2).1 (m2.slot d2).2.1 ∧ see pt (m1.slot d1).2.2 = see pt (m2.slot d2).2.2 := by
  obtain ⟨r1, r2⟩ := slot_rest m1 d1
  obtain ⟨t1, t2⟩ := slot_rest m2 d2
  have esl := r1.trans (h.sl.trans t1.symm)
  have enx : (m1.slot d1).1.next = (m2.slot d2).1.next := by rw [r2, t2, h.sl, h.nx]
  by_cases hs : m1.slots[m1.next]? ≠ some pt ∨ pt < 0
  · obtain ⟨a1, a2, a3⟩ := slot_far hA h.a hs
    obtain ⟨b1, b2, b3⟩ := slot_far hA h.b (by rw [← h.sl, ← h.nx]; exact hs)
    exact ⟨⟨h.a.slot, h.b.slot, esl, enx, fun j hj => (a1 j hj).trans ((h.own j hj).trans (b1 j hj).symm), fun e h0 he k hk e1 e2 => (a3 e h0 he k hk e1 e2).trans ((h.cur e h0 he k hk e1 e2).trans (b3 e h0 he k hk e1 e2).symm)⟩, a2.trans b2.symm⟩
  · have hs1 : m1.slots[m1.next]? = some pt := by
      by_cases h1 : m1.slots[m1.next]? = some pt
      · exact h1
      · exact absurd (Or.inl h1) hs
    have h0 : ¬ pt < 0 := fun h1 => hs (.inr h1)
    have hs2 : m2.slots[m2.next]? = some pt := by rw [← h.sl, ← h.nx]; exact hs1
    have ho := h.own pt.toNat (by omega)
    have key : (∀ j : Nat, (j : Int) = pt → (m1.slot d1).1.parts[j]? = (m2.slot d2).1.parts[j]?) ∧ (∀ e, 0 ≤ pt → x.xs[pt.toNat]? = some e → ∀ k : Nat, k < 16 → e.1 ≤ (k : Int) → (k : Int) < e.1 + e.2 → (m1.slot d1).2.1.cur k = (m2.slot d2).2.1.cur k) ∧ (m1.slot d1).2.2 = (m2.slot d2).2.2 := by
      unfold SM.slot
      rw [hs1, hs2]
      simp only
      rw [if_neg h0, if_neg h0, ho]
      cases hp : m2.parts[pt.toNat]? with
      | none => exact ⟨h.own, h.cur, rfl⟩
      | some p =>
        simp only
        cases hq : p.q with
        | nil => exact ⟨h.own, h.cur, rfl⟩
        | cons r rest =>
          cases he : p.ext with
          | none => exact ⟨h.own, h.cur, rfl⟩
          | some e0 =>
            simp only
            obtain ⟨x0, n0⟩ := h.b.ext pt.toNat p e0 hp he
            obtain ⟨s1, s2⟩ := serve_eq h.a.fre h.b.fre e0 r (fun k hk => h.cur e0 (by omega) x0 k hk)
            refine ⟨fun j hj => ?_, fun e _ he' k hk e1 e2 => ?_, by rw [s1]⟩
            · have e : j = pt.toNat := by omega
              subst e
              rw [List.getElem?_set_self (List.getElem?_eq_some_iff.1 (ho.trans hp)).1, List.getElem?_set_self (List.getElem?_eq_some_iff.1 hp).1]
            · rw [x0] at he'
              cases he'
              exact s2 k hk e1 e2
    exact ⟨⟨h.a.slot, h.b.slot, esl, enx, key.1, key.2.1⟩, by rw [key.2.2]⟩
end Go.Proofs.Ytmcojfpomejnnaa
set_option linter.unusedSimpArgs false
set_option linter.unusedVariables false
namespace Go.Proofs.Ytmcojfpomejnnaa
open Go Go.RowKit Go.Own
/-- a Done in memory -/
structure Dv where
  dn : Dn
  da : Option Addr
  dc : Nat
def Dv.cells (v : Dv) : List Value := [.int .i64 v.dn.part, .int .u64 (v.dn.n : Int), .slice v.da v.dn.data.length v.dc, .int .i64 v.dn.code]
def Dv.ok (s : Ro) (v : Dv) : Prop := SlS s (.slice v.da v.dn.data.length v.dc) 1 v.dn.data.length (u8s v.dn.data)
def Dv.nope : Dv := ⟨Dn.nope, none, 0⟩
section
variable {pt : Int} {l : List Act15} {i : Nat} {m : SM} {o : List Dn}
end
section
variable {s : Ro} {w : World} {R : List Asn}
end
end Go.Proofs.Ytmcojfpomejnnaa
set_option linter.unusedSimpArgs false
set_option linter.unusedVariables false
namespace Go.Own
open Go Go.RowKit
section
variable {P : Program} {n : Nat} {ops : Array Oper} {Q : Post} {rest : List Oper} {e : Env} {w w' : World} {s : Ro} {rs : List Asn} {tt : Nat} {pp : String} {af : Array Edge} {g : Option (Nat × Bool)} {d : Nat}
/-- a struct within a variable is written -/
theorem X.stp {ty : TypeId} {x y : Operand} {k : Nat} [T : RowC P ty k] {b off : Nat} {t : TypeId} {cs ys : List Value} {f : List Value → List Asn} (cs' : List Value) (H : Holds s w rs) (h : ∀ w', Holds s w' (f cs') → L P n ops Q rest e w') (hw : wg n ops g e = true := by rfl) (hx : ev e x = .pointer (some ⟨b, off, none⟩) := by rfl) (V : PutV rs b t cs f := by infer_instance) (hy : ev e y = .agg ys.toArray := by rfl) (hcs : cs.take off ++ ys ++ cs.drop (off + k) = cs' := by rfl) (h1 : ys.all Value.oneCell' = true := by rfl) (hn : ys.length = k := by rfl) (hl : Nat.ble (off + k) cs.length = true := by rfl) : L P n ops Q (⟨none, .store ty x y, tt, pp, af, g⟩ :: rest) e w := by
  obtain ⟨i, hi, hf⟩ := V.ix
  subst hcs
  refine ⟨fun a ha => sl_storepart i H (by rw [ha.wn]; exact hw) rfl (by rw [ha.eval]; exact hx) hi (by rw [ha.eval]; exact hy) (fun v hv => List.all_eq_true.1 h1 v hv) hn (Nat.le_of_ble_eq_true hl) (fun w' H' => ?_)⟩
  rw [hf] at H'
  exact (h w' H').go _ (ha.put (d := none) rfl _)
end
end Go.Own
set_option linter.unusedSimpArgs false
set_option linter.unusedVariables false
namespace Go.Proofs.Ytmcojfpomejnnaa
open Go Go.RowKit Go.Own
/-- a partition's model is as the rows say -/
structure PlP (x : Ext) (room : Int) (p : PM) : Prop where
  ext : p.ext = if x.2 = 0 then none else some x
  room : p.room = room
  last : p.last = p.served + p.q.length
  num : ∀ k (h : k < p.q.length), p.q[k].n = p.served + k + 1
  fm : ∀ r ∈ p.q, formedM r.kind r.at_ r.data.length = true ∧ x.2 ≠ 0 ∧ (r.kind = 2 ∨ (0 ≤ r.at_ ∧ r.at_ < x.2))
structure Pl (xs : List Ext) (rooms : List Int) (m : SM) : Prop where
  len : m.parts.length = xs.length
  rl : rooms.length = xs.length
  few : xs.length ≤ 8
  r16 : ∀ r ∈ rooms, 1 ≤ r ∧ r ≤ 16
  sln : m.slots.length ≤ 32
  slv : ∀ v ∈ m.slots, -1 ≤ v ∧ v < (xs.length : Int)
  nxt : m.next < m.slots.length ∨ (m.slots = [] ∧ m.next = 0)
  lie : ∀ x ∈ xs, x.2 ≠ 0 → liesM x.1 x.2 16 = true
  xi : ∀ x ∈ xs, I64 x.1 ∧ I64 x.2
  all : ∀ i (h : i < xs.length) (h1 : i < rooms.length) (h2 : i < m.parts.length), PlP xs[i] rooms[i] m.parts[i]
theorem Pl.new {xs : List Ext} {rooms slots : List Int} (hm : mayM 16 xs rooms slots = 0) (hxo : ∀ x ∈ xs, I64 x.1 ∧ I64 x.2) : Pl xs rooms (SM.new xs rooms slots) := by
  have e1 : rooms.length = xs.length ∧ xs.length ≤ 8 ∧ slots.length ≤ 32 := Decidable.byContradiction fun h => by rw [may_1 h] at hm; cases hm
  have e2 : ∀ r ∈ rooms, 1 ≤ r ∧ r ≤ 16 := Decidable.byContradiction fun h => by
    unfold mayM at hm; rw [if_neg (by simpa using e1), if_pos h] at hm; cases hm
  have e3 : ∀ v ∈ slots, -1 ≤ v ∧ v < (xs.length : Int) := Decidable.byContradiction fun h => by
    unfold mayM at hm; rw [if_neg (by simpa using e1), if_neg (by simpa using e2), if_pos h] at hm; cases hm
  have e4 : ∀ x ∈ xs, x.2 ≠ 0 → liesM x.1 x.2 16 = true := Decidable.byContradiction fun h => by
    unfold mayM at hm; rw [if_neg (by simpa using e1), if_neg (by simpa using e2), if_neg (by simpa using e3), if_pos h] at hm; cases hm
  refine ⟨by simp [SM.new, e1.1], e1.1, e1.2.1, e2, e1.2.2, e3, ?_, e4, hxo, fun i h h1 h2 => ?_⟩
  · show 0 < slots.length ∨ (slots = [] ∧ 0 = 0)
    cases slots with
    | nil => exact .inr ⟨rfl, rfl⟩
    | cons a l => exact .inl (by simp)
  · have : (SM.new xs rooms slots).parts[i] = newPM xs[i] rooms[i] := by simp [SM.new]
    rw [this]
    exact ⟨rfl, rfl, rfl, fun k h => by simp [newPM] at h, fun r h => by simp [newPM] at h⟩
theorem Pl.set {xs : List Ext} {rooms : List Int} {m : SM} (h : Pl xs rooms m) {j : Nat} {p : PM} (hp : ∀ (h : j < xs.length) (h1 : j < rooms.length), PlP xs[j] rooms[j] p) : Pl xs rooms { m with parts := m.parts.set j p } := by
  refine ⟨by simp [h.len], h.rl, h.few, h.r16, h.sln, h.slv, h.nxt, h.lie, h.xi, fun i h1 h2 h3 => ?_⟩
  simp only [List.getElem_set]
  split
  · rename_i e; subst e; exact hp h1 h2
  · exact h.all i h1 h2 (by simpa using h3)
theorem Pl.step {xs : List Ext} {rooms : List Int} {m : SM} (h : Pl xs rooms m) (hn : m.next < m.slots.length) : Pl xs rooms m.step :=
  ⟨h.len, h.rl, h.few, h.r16, h.sln, h.slv, .inl (Nat.mod_lt _ (by omega)), h.lie, h.xi, h.all⟩
theorem PlP.ask {x : Ext} {room : Int} {p : PM} (h : PlP x room p) (k a : Int) (l : List UInt8) : PlP x room (askP p k a l).1 := by
  unfold askP
  split
  · exact h
  · rename_i y hy
    split
    · exact h
    · rename_i hf
      split
      · exact h
      · rename_i hr
        split
        · exact h
        · have hxy : x.2 ≠ 0 ∧ y = x := by
            have := h.ext
            rw [hy] at this
            split at this
            · cases this
            · rename_i hx; injection this with this; exact ⟨hx, this⟩
          obtain ⟨hx0, rfl⟩ := hxy
          have hl := h.last
          refine ⟨by rw [← h.ext, hy], h.room, by simp; omega, fun q hq => ?_, fun r hr' => ?_⟩
          · simp only [List.length_append, List.length_cons, List.length_nil] at hq
            simp only [List.getElem_append]
            split
            · exact h.num q (by assumption)
            · simp only [List.getElem_singleton]; omega
          · rcases List.mem_append.1 hr' with h' | h'
            · exact h.fm r h'
            · rw [List.mem_singleton.1 h']
              exact ⟨by simpa using hf, hx0, by simp only; omega⟩
theorem Pl.ask {xs : List Ext} {rooms : List Int} {m : SM} (h : Pl xs rooms m) (i k a : Int) (l : List UInt8) : Pl xs rooms (m.ask i k a l).1 := by
  unfold SM.ask
  split
  · split
    · exact h
    · rename_i p hp
      obtain ⟨h1, h2⟩ := List.getElem?_eq_some_iff.1 hp
      exact h.set fun h3 h4 => by rw [← h2]; exact (h.all _ h3 h4 h1).ask k a l
  · exact h
theorem PlP.pop {x : Ext} {room : Int} {p : PM} {r : Rq} {rest : List Rq} (h : PlP x room p) (hq : p.q = r :: rest) : PlP x room { p with q := rest, served := p.served + 1 } := by
  have hl := h.last
  rw [hq] at hl
  simp only [List.length_cons] at hl
  refine ⟨h.ext, h.room, by simp only; omega, fun k hk => ?_, fun r' hr' => h.fm r' (by rw [hq]; exact List.mem_cons_of_mem _ hr')⟩
  have := h.num (k + 1) (by rw [hq]; simp only [List.length_cons]; simp only at hk; omega)
  simp only [hq, List.getElem_cons_succ] at this
  simp only
  omega
theorem Pl.slot {xs : List Ext} {rooms : List Int} {m : SM} (h : Pl xs rooms m) (d : DM) : Pl xs rooms (m.slot d).1 := by
  unfold SM.slot
  split
  · exact h
  · rename_i pt hpt
    have hs := h.step (List.getElem?_eq_some_iff.1 hpt).1
    split
    · exact hs
    · split
      · exact hs
      · rename_i p hp
        obtain ⟨h1, h2⟩ := List.getElem?_eq_some_iff.1 hp
        split
        · rename_i r rest x hq hx
          refine hs.set fun h3 h4 => ?_
          have := (h.all _ h3 h4 h1)
          rw [h2] at this
          exact this.pop hq
        · exact hs
structure Wq where
  r : Rq
  a : Option Addr
  c : Nat
def Wq.cells (x : Wq) : List Value := [.int .i64 x.r.kind, .int .i64 x.r.at_, .slice x.a x.r.data.length x.c]
/-- a partition's waiting requests, as a row in memory -/
def Wl (s : Ro) (v : Value) (q : List Rq) : Prop := ∃ l : List Wq, l.map Wq.r = q ∧ SlS s v 3 l.length (l.flatMap Wq.cells) ∧ ∀ x ∈ l, SlS s (.slice x.a x.r.data.length x.c) 1 x.r.data.length (u8s x.r.data)
theorem Wl.mono {s s' : Ro} {v : Value} {q : List Rq} (h : Wl s v q) (hs : s.Le s') : Wl s' v q := by
  obtain ⟨l, h1, h2, h3⟩ := h
  exact ⟨l, h1, h2.mono hs, fun x hx => (h3 x hx).mono hs⟩
theorem Wl.nil (s : Ro) : Wl s (.slice none 0 0) [] := ⟨[], rfl, SlS.nil s 3, fun x h => by cases h⟩
theorem Wl.form {s : Ro} {v : Value} {q : List Rq} (h : Wl s v q) : ∃ a c, v = .slice a q.length c ∧ q.length ≤ c ∧ c ≤ maxLen := by
  obtain ⟨l, rfl, h2, _⟩ := h
  rw [List.length_map]
  exact formS h2
/-- the facts of the document's schedule; ws: its waiting rows -/
structure RFac (s : Ro) (xs : List Ext) (rooms : List Int) (m : SM) (d : DM) (dv xv rv lv : Value) (ws : List Value) : Prop where
  dk : RefS s dv d
  hx : SlS s xv 2 xs.length (xs.flatMap Ext.cells)
  hr : SlS s rv 1 rooms.length (rooms.map (Value.int .i64))
  hl : SlS s lv 1 m.slots.length (m.slots.map (Value.int .i64))
  wn : ws.length = m.parts.length
  wl : ∀ i (h : i < ws.length) (h' : i < m.parts.length), Wl s ws[i] m.parts[i].q
theorem RFac.mono {s s' : Ro} {xs : List Ext} {rooms : List Int} {m : SM} {d : DM} {dv xv rv lv : Value} {ws : List Value} (h : RFac s xs rooms m d dv xv rv lv ws) (hs : s.Le s') : RFac s' xs rooms m d dv xv rv lv ws :=
  ⟨h.dk.mono hs, h.hx.mono hs, h.hr.mono hs, h.hl.mono hs, h.wn, fun i h1 h2 => (h.wl i h1 h2).mono hs⟩
def svd (l : List PM) : List Value := l.map fun p => .int .u64 (p.served : Int)
/-- the document's schedule at bW, and the pieces rs beside it -/
def RSch (s : Ro) (w : World) (bW : Nat) (xs : List Ext) (rooms : List Int) (m : SM) (d : DM) (rs : List Asn) : Prop := ∃ a0 c0 a1 c1 lf a2 n2 c2 xa xc ra rc la lc ws wa wc va vc, RFac s xs rooms m d (.agg [.slice a0 d.secs.length c0, .slice a1 d.pend.length c1, .bool d.off, .int .i64 lf, .slice a2 n2 c2].toArray) (.slice xa xs.length xc) (.slice ra rooms.length rc) (.slice la m.slots.length lc) ws ∧
  Holds s w (var bW 77 [.slice a0 d.secs.length c0, .slice a1 d.pend.length c1, .bool d.off, .int .i64 lf, .slice a2 n2 c2, .slice xa xs.length xc, .slice ra rooms.length rc, .slice wa m.parts.length wc, .slice va m.parts.length vc, .slice la m.slots.length lc, .int .i64 (m.next : Int)] :: row 89 1 (.slice wa m.parts.length wc) m.parts.length ws :: row 41 1 (.slice va m.parts.length vc) m.parts.length (svd m.parts) :: rs)
section
variable {s : Ro} {w : World} {R rs rs' : List Asn} {bW : Nat} {xs : List Ext} {rooms : List Int} {m : SM} {d : DM}
theorem RSch.arr (h : RSch s w bW xs rooms m d rs) (T : Arr rs rs' := by infer_instance) : RSch s w bW xs rooms m d rs' := by
  obtain ⟨a0, c0, a1, c1, lf, a2, n2, c2, xa, xc, ra, rc, la, lc, ws, wa, wc, va, vc, hf, H⟩ := h
  exact ⟨a0, c0, a1, c1, lf, a2, n2, c2, xa, xc, ra, rc, la, lc, ws, wa, wc, va, vc, hf, H.arr⟩
theorem RSch.close {a0 a1 a2 xa ra la wa va : Option Addr} {lf : Int} {c0 c1 n2 c2 xc rc lc wc vc : Nat} {ws : List Value} {r1 r2 r3 : List Asn} (hf : RFac s xs rooms m d (.agg [.slice a0 d.secs.length c0, .slice a1 d.pend.length c1, .bool d.off, .int .i64 lf, .slice a2 n2 c2].toArray) (.slice xa xs.length xc) (.slice ra rooms.length rc) (.slice la m.slots.length lc) ws) (H : Holds s w rs)
    (T1 : TakeA rs (var bW 77 [.slice a0 d.secs.length c0, .slice a1 d.pend.length c1, .bool d.off, .int .i64 lf, .slice a2 n2 c2, .slice xa xs.length xc, .slice ra rooms.length rc, .slice wa m.parts.length wc, .slice va m.parts.length vc, .slice la m.slots.length lc, .int .i64 (m.next : Int)]) r1 := by infer_instance) (T2 : TakeA r1 (row 89 1 (.slice wa m.parts.length wc) m.parts.length ws) r2 := by infer_instance) (T3 : TakeA r2 (row 41 1 (.slice va m.parts.length vc) m.parts.length (svd m.parts)) r3 := by infer_instance) : RSch s w bW xs rooms m d r3 := by
  have i1 := T1
  have i2 := T2
  have i3 := T3
  have a3 : Arr r2 (row 41 1 (.slice va m.parts.length vc) m.parts.length (svd m.parts) :: r3) := inferInstance
  have a2' : Arr r1 (row 89 1 (.slice wa m.parts.length wc) m.parts.length ws :: row 41 1 (.slice va m.parts.length vc) m.parts.length (svd m.parts) :: r3) := inferInstance
  exact ⟨a0, c0, a1, c1, lf, a2, n2, c2, xa, xc, ra, rc, la, lc, ws, wa, wc, va, vc, hf, H.arr⟩
theorem RFac.push {m : SM} {dv xv rv lv : Value} {ws : List Value} {j : Nat} {p : PM} {v : Value} (h : RFac s xs rooms m d dv xv rv lv ws) (hw : Wl s v p.q) : RFac s xs rooms { m with parts := m.parts.set j p } d dv xv rv lv (ws.set j v) := by
  refine ⟨h.dk, h.hx, h.hr, h.hl, by simp [h.wn], fun i h1 h2 => ?_⟩
  simp only [List.getElem_set]
  split
  · exact hw
  · exact h.wl i (by simpa using h1) (by simpa using h2)
end
end Go.Proofs.Ytmcojfpomejnnaa
set_option linter.unusedSimpArgs false
set_option linter.unusedVariables false
namespace Go.Proofs.Ytmcojfpomejnnaa
open Go Go.RowKit Go.Own
def rep64 (v : UInt8) : List UInt8 := List.replicate 64 v
def rq3 (r : Rq) : Int × Int × List UInt8 := (r.kind, r.at_, r.data)
def ac3 (a : Act15) : Int × Int × List UInt8 := (a.kind, a.at_, a.req)
def exD : List Ext := [(1, 4), (6, 5)]
def rmD : List Int := [3, 4]
def updW (wt : Nat → List Act15) (p : Nat) (l : List Act15) : Nat → List Act15 := fun j => if j = p then l else wt j
def mayAt (may : List (List UInt8)) (k : Nat) : List UInt8 := may[k]?.getD []
theorem lay_cur' (p : List (Nat × List UInt8)) : ∀ (s : List (List UInt8)) (k : Nat), k < s.length → (layAll s p)[k]?.getD [] = p.foldl (fun c q => if q.1 = k then q.2 else c) (s[k]?.getD []) := by
  induction p with
  | nil => intro s k _; rfl
  | cons q p ih =>
    intro s k hk
    have e : layAll s (q :: p) = layAll (s.set q.1 q.2) p := rfl
    rw [e, ih _ k (by simpa using hk), List.foldl_cons]
    congr 1
    by_cases h : q.1 = k
    · subst h; rw [if_pos rfl, List.getElem?_set_self hk]; rfl
    · rw [if_neg h, List.getElem?_set_ne h]
/-- what survives of a sector is what it had, or what a write says -/
theorem layS_one (k : Nat) : ∀ (p : List (Nat × List UInt8)) (s : List (List UInt8)) (b : List Bool), k < s.length → (layS s p b)[k]?.getD [] = s[k]?.getD [] ∨ ∃ q ∈ p, q.1 = k ∧ (layS s p b)[k]?.getD [] = q.2
  | [], s, _, _ => .inl (by simp [layS])
  | _ :: _, s, [], _ => .inl (by simp [layS])
  | q :: p, s, b :: bs, hk => by
    have hl : k < (if b then s.set q.1 q.2 else s).length := by split <;> simpa using hk
    have e : layS s (q :: p) (b :: bs) = layS (if b then s.set q.1 q.2 else s) p bs := rfl
    rw [e]
    rcases layS_one k p (if b then s.set q.1 q.2 else s) bs hl with h | ⟨r, hr, h1, h2⟩
    · rw [h]
      by_cases hb : b = true ∧ q.1 = k
      · obtain ⟨rfl, rfl⟩ := hb
        right
        refine ⟨q, by simp, rfl, ?_⟩
        simp [hk]
      · left
        split
        · rename_i hb'
          rw [List.getElem?_set_ne (fun e => hb ⟨hb', e⟩)]
        · rfl
    · exact .inr ⟨r, by simp [hr], h1, h2⟩
/-- what is kept while two partitions share the disk -/
structure NI (i : Nat) (m : SM) (d : DM) (wt : Nat → List Act15) (now : List UInt8) (may : List (List UInt8)) : Prop where
  pl : Pl exD rmD m
  q : ∀ p, p < 2 → (m.parts[p]?).map (fun x => x.q.map rq3) = some ((wt p).map ac3)
  off : d.off = false
  arm : d.armed = false
  len : d.secs.length = 12
  nl : now.length = 12
  ml : may.length = 12
  cur : ∀ k, k < 12 → d.cur k = rep64 (now[k]?.getD 0)
  sec : ∀ k, k < 12 → ∃ v ∈ mayAt may k, d.secs[k]?.getD [] = rep64 v
  pnd : ∀ q ∈ d.pend, q.1 < 12 ∧ ∃ v ∈ mayAt may q.1, q.2 = rep64 v
  zero : may[0]? = some [0] ∧ now[0]? = some 0
  last : ∀ p ∈ m.parts, p.last ≤ i
  served : ∀ p ∈ m.parts, p.served ≤ i
  pn : d.pend.length ≤ i
  mb : ∀ l ∈ may, l.length ≤ i + 1
  wb : ∀ p, p < 2 → (wt p).length ≤ i
  kv : ∀ p, p < 2 → ∀ a ∈ wt p, ∃ x y z, a.keepv = Value.slice x y z
theorem NI.len2 {i : Nat} {m : SM} {d : DM} {wt : Nat → List Act15} {now : List UInt8} {may : List (List UInt8)} (h : NI i m d wt now may) : m.parts.length = 2 := h.pl.len
theorem NI.le {i j : Nat} {m : SM} {d : DM} {wt : Nat → List Act15} {now : List UInt8} {may : List (List UInt8)} (h : NI i m d wt now may) (hj : i ≤ j) : NI j m d wt now may :=
  ⟨h.pl, h.q, h.off, h.arm, h.len, h.nl, h.ml, h.cur, h.sec, h.pnd, h.zero, fun p hp => Nat.le_trans (h.last p hp) hj, fun p hp => Nat.le_trans (h.served p hp) hj, Nat.le_trans h.pn hj, fun l hl => Nat.le_trans (h.mb l hl) (by omega), fun p hp => Nat.le_trans (h.wb p hp) hj, h.kv⟩
theorem nd_new {slots : List Int} (hm : mayM 16 exD rmD slots = 0) : NI 0 (SM.new exD rmD slots) (DM.new 12) (fun _ => []) (List.replicate 12 0) (List.replicate 12 [0]) := by
  refine ⟨Pl.new hm (by intro x hx; simp only [exD, List.mem_cons, List.not_mem_nil, or_false] at hx; rcases hx with rfl | rfl <;> decide), ?_, rfl, rfl, by simp [DM.new], rfl, rfl, ?_, ?_, ?_, ⟨rfl, rfl⟩, ?_, ?_, ?_, ?_, ?_, fun p hp a ha => by cases ha⟩
  · intro p hp
    rcases (show p = 0 ∨ p = 1 by omega) with rfl | rfl <;> rfl
  · intro k hk
    rw [new_cur hk, List.getElem?_replicate, if_pos hk]
    rfl
  · intro k hk
    refine ⟨0, ?_, ?_⟩
    · unfold mayAt
      rw [List.getElem?_replicate, if_pos hk]
      exact List.mem_singleton.2 rfl
    · show (List.replicate 12 (List.replicate 64 (0 : UInt8)))[k]?.getD [] = _
      rw [List.getElem?_replicate, if_pos hk]
      rfl
  · intro q hq
    simp [DM.new] at hq
  · intro p hp
    simp only [SM.new, exD, rmD, List.zipWith_cons_cons, List.zipWith_nil_right, List.mem_cons, List.not_mem_nil, or_false] at hp
    rcases hp with rfl | rfl <;> exact Nat.le_refl _
  · intro p hp
    simp only [SM.new, exD, rmD, List.zipWith_cons_cons, List.zipWith_nil_right, List.mem_cons, List.not_mem_nil, or_false] at hp
    rcases hp with rfl | rfl <;> exact Nat.le_refl _
  · simp [DM.new]
  · intro l hl
    rw [List.eq_of_mem_replicate hl]
    simp
  · intro p _
    simp
theorem askP_three {x : Ext} {room : Int} {p : PM} (h : PlP x room p) (k a : Int) (l : List UInt8) : (askP p k a l = (p, (askP p k a l).2) ∧ (askP p k a l).2.2 ≠ 0) ∨ ((askP p k a l).2.2 = 0 ∧ (askP p k a l).1 = { p with last := p.last + 1, q := p.q ++ [⟨p.last + 1, k, a, l⟩] } ∧ x.2 ≠ 0 ∧ formedM k a l.length = true ∧ (k = 2 ∨ (0 ≤ a ∧ a < x.2))) := by
  have he := h.ext
  unfold askP
  split
  · left; exact ⟨rfl, fun h => by cases h⟩
  · rename_i y hy
    rw [hy] at he
    split at he
    · cases he
    rename_i hx0
    cases he
    split
    · left; exact ⟨rfl, fun h => by cases h⟩
    · rename_i hf
      split
      · left; exact ⟨rfl, fun h => by cases h⟩
      · rename_i hr
        split
        · left; exact ⟨rfl, fun h => by cases h⟩
        · right
          exact ⟨rfl, rfl, hx0, by simpa using hf, by omega⟩
section
variable {i : Nat} {m : SM} {d : DM} {wt : Nat → List Act15} {now : List UInt8} {may : List (List UInt8)}
theorem nd_ask (h : NI i m d wt now may) (a : Act15) (hkv : ∃ x y z, a.keepv = Value.slice x y z) : ((m.ask a.part a.kind a.at_ a.req).2.2 ≠ 0 ∧ (m.ask a.part a.kind a.at_ a.req).1 = m) ∨ ((m.ask a.part a.kind a.at_ a.req).2.2 = 0 ∧ 0 ≤ a.at_ ∧ a.at_ ≤ 4 ∧ ∃ p : Nat, p < 2 ∧ a.part = p ∧ NI (i + 1) (m.ask a.part a.kind a.at_ a.req).1 d (updW wt p (wt p ++ [a])) now may) := by
  have hlen := h.len2
  by_cases hin : 0 ≤ a.part ∧ a.part < (m.parts.length : Int)
  rotate_left
  · rw [ask_far hin]
    exact .inl ⟨(fun h => by cases h), rfl⟩
  obtain ⟨p, hp⟩ : ∃ p : Nat, a.part = p := ⟨a.part.toNat, by omega⟩
  have hp2 : p < m.parts.length := by omega
  have hPp := h.pl.all p (by rw [← h.pl.len]; exact hp2) (by rw [h.pl.rl, ← h.pl.len]; exact hp2) hp2
  have hPl := h.pl.ask a.part a.kind a.at_ a.req
  rw [hp] at hPl ⊢
  rw [ask_at hp2] at hPl ⊢
  rcases askP_three hPp a.kind a.at_ a.req with ⟨e1, e2⟩ | ⟨e1, e2, hx0, hf, hk⟩
  · left
    refine ⟨e2, ?_⟩
    rw [e1]
    exact SM.set_self m p hp2
  · right
    rw [e2] at hPl ⊢
    have hx5 : (exD[p]'(by rw [← h.pl.len]; exact hp2)).2 ≤ 5 := by
      rcases (show p = 0 ∨ p = 1 by omega) with rfl | rfl
      · show (4 : Int) ≤ 5; decide
      · show (5 : Int) ≤ 5; decide
    have hk2 : a.kind = 2 → a.at_ = 0 := fun h2 => by
      have := (show a.kind = 1 ∧ a.req.length = 64 ∨ a.kind = 2 ∧ a.at_ = 0 ∧ a.req.length = 0 ∨ a.kind = 0 ∧ a.req.length = 0 from Decidable.byContradiction fun h => by rw [formed_f h] at hf; cases hf)
      omega
    refine ⟨e1, by omega, by omega, p, by omega, rfl, hPl, fun j hj => ?_, h.off, h.arm, h.len, h.nl, h.ml, h.cur, h.sec, h.pnd, h.zero, fun r hr => ?_, fun r hr => ?_, Nat.le_trans h.pn (by omega), fun l hl => Nat.le_trans (h.mb l hl) (by omega), fun j hj => ?_, fun j hj b hb => ?_⟩
    · unfold updW
      simp only
      by_cases hjp : j = p
      · subst hjp
        have hq := h.q j hj
        rw [List.getElem?_eq_getElem hp2] at hq
        simp only [Option.map_some, Option.some.injEq] at hq
        rw [List.getElem?_set_self hp2, if_pos rfl]
        simp [hq, rq3, ac3]
      · rw [List.getElem?_set_ne (fun e => hjp e.symm), if_neg hjp]
        exact h.q j hj
    · rcases List.mem_or_eq_of_mem_set hr with hr | rfl
      · exact Nat.le_trans (h.last r hr) (by omega)
      · have := h.last _ (List.getElem_mem hp2); simp only; omega
    · rcases List.mem_or_eq_of_mem_set hr with hr | rfl
      · exact Nat.le_trans (h.served r hr) (by omega)
      · have := h.served _ (List.getElem_mem hp2); simp only; omega
    · unfold updW
      split
      · have := h.wb j hj; subst_vars; simp; omega
      · exact Nat.le_trans (h.wb j hj) (by omega)
    · unfold updW at hb
      split at hb
      · rcases List.mem_append.1 hb with hb | hb
        · exact h.kv p (by omega) b hb
        · rw [List.mem_singleton.1 hb]; exact hkv
      · exact h.kv j hj b hb
theorem nd_crash (h : NI i m d wt now may) (sv : List Bool) {k : Nat} (hk : k < 12) : ∃ v ∈ mayAt may k, (d.crash sv).secs[k]?.getD [] = rep64 v := by
  have e : (d.crash sv).secs = layS d.secs d.pend sv := by unfold DM.crash; rw [h.off]; rfl
  rw [e]
  rcases layS_one k d.pend d.secs sv (by rw [h.len]; exact hk) with h1 | ⟨q, hq, h1, h2⟩
  · rw [h1]; exact h.sec k hk
  · rw [h2, ← h1]; exact (h.pnd q hq).2
theorem mayAt_set {may : List (List UInt8)} {n k : Nat} {v x : UInt8} (h : v ∈ mayAt may k) : v ∈ mayAt (may.set n (mayAt may n ++ [x])) k := by
  unfold mayAt at *
  by_cases e : n = k
  · subst e
    by_cases hn : n < may.length
    · rw [List.getElem?_set_self hn]
      exact List.mem_append_left _ h
    · rw [List.getElem?_eq_none (by omega)] at h
      cases h
  · rw [List.getElem?_set_ne e]; exact h
theorem req64 {a : Act15} (h : a.req.length = 64) : a.req = rep64 a.fill := by
  unfold Act15.req at *
  split at h
  · rw [sect_len] at h
    unfold sect rep64
    rw [if_pos (by assumption), h]
  · simp at h
set_option maxRecDepth 100000 in
set_option maxHeartbeats 1000000 in
theorem nd_slot (h : NI i m d wt now may) : ((m.slot d).2.2 = none ∧ (m.slot d).2.1 = d ∧ NI (i + 1) (m.slot d).1 d wt now may) ∨ ∃ (p : Nat) (dn : Dn) (a : Act15) (rest : List Act15) (n : Nat), p < 2 ∧ (m.slot d).2.2 = some dn ∧ dn.part = p ∧ dn.code = 0 ∧ wt p = a :: rest ∧ 0 ≤ a.at_ ∧ a.at_ ≤ 4 ∧ 1 + 5 * (p : Int) + a.at_ = n ∧ 1 ≤ n ∧ n < 12 ∧
    ((a.kind = 0 ∧ dn.data = rep64 (now[n]?.getD 0) ∧ NI (i + 1) (m.slot d).1 (m.slot d).2.1 (updW wt p rest) now may) ∨ (a.kind = 1 ∧ NI (i + 1) (m.slot d).1 (m.slot d).2.1 (updW wt p rest) (now.set n a.fill) (may.set n (mayAt may n ++ [a.fill]))) ∨ (a.kind = 2 ∧ NI (i + 1) (m.slot d).1 (m.slot d).2.1 (updW wt p rest) now (now.map fun v => [v]))) := by
  have hlen := h.len2
  have hPl := h.pl.slot d
  rcases h.pl.nxt with hn | ⟨hn, hn0⟩
  rotate_left
  · rw [slot_end hn]
    exact .inl ⟨rfl, rfl, h.le (by omega)⟩
  have h1 := h.le (show i ≤ i + 1 by omega)
  have hst : NI (i + 1) m.step d wt now may := ⟨h.pl.step hn, h1.q, h1.off, h1.arm, h1.len, h1.nl, h1.ml, h1.cur, h1.sec, h1.pnd, h1.zero, h1.last, h1.served, h1.pn, h1.mb, h1.wb, h1.kv⟩
  have hslv := h.pl.slv m.slots[m.next] (List.getElem_mem _)
  by_cases hneg : m.slots[m.next] < 0
  · rw [slot_off hn hneg]
    exact .inl ⟨rfl, rfl, hst⟩
  obtain ⟨p, hp⟩ : ∃ p : Nat, m.slots[m.next] = p := ⟨m.slots[m.next].toNat, by omega⟩
  have hp2 : p < 2 := by
    have := hslv.2
    rw [hp] at this
    have e : exD.length = 2 := rfl
    omega
  have hpm : p < m.parts.length := by omega
  cases hq : m.parts[p].q with
  | nil =>
    rw [slot_idle hn hp hpm hq]
    exact .inl ⟨rfl, rfl, hst⟩
  | cons r rest' =>
  right
  have hPp := h.pl.all p (by rw [← h.pl.len]; exact hpm) (by rw [h.pl.rl, ← h.pl.len]; exact hpm) hpm
  obtain ⟨hfm, hx0, hin⟩ := hPp.fm r (by rw [hq]; exact List.mem_cons_self)
  have hext := hPp.ext
  rw [if_neg hx0] at hext
  have hlie := h.pl.lie _ (List.getElem_mem (by rw [← h.pl.len]; exact hpm)) hx0
  have hx : (exD[p]'(by rw [← h.pl.len]; exact hpm)) = ((1 + 5 * (p : Int) : Int), (4 + (p : Int) : Int)) := by
    rcases (show p = 0 ∨ p = 1 by omega) with rfl | rfl <;> rfl
  rw [hx] at hext hin
  dsimp only at hin
  have hqp := h.q p hp2
  rw [List.getElem?_eq_getElem hpm] at hqp
  simp only [Option.map_some, Option.some.injEq, hq, List.map_cons] at hqp
  cases hw : wt p with
  | nil => rw [hw] at hqp; cases hqp
  | cons a rest =>
  rw [hw] at hqp
  simp only [List.map_cons, List.cons.injEq] at hqp
  obtain ⟨hra, hrest⟩ := hqp
  unfold rq3 ac3 at hra
  simp only [Prod.mk.injEq] at hra
  obtain ⟨e1, e2, e3⟩ := hra
  have hk := (show r.kind = 1 ∧ r.data.length = 64 ∨ r.kind = 2 ∧ r.at_ = 0 ∧ r.data.length = 0 ∨ r.kind = 0 ∧ r.data.length = 0 from Decidable.byContradiction fun h => by rw [formed_f h] at hfm; cases hfm)
  have hat : 0 ≤ r.at_ ∧ r.at_ ≤ 4 := by omega
  have hs := slot_serve hn hp hpm hq hext d
  have hplace : r.kind ≠ 2 → placeM (1 + 5 * (p : Int)) (4 + (p : Int)) r.at_ = (1 + 5 * (p : Int) + r.at_, 0) := fun h2 => by
    unfold placeM
    rw [if_neg (by omega), if_neg (by omega)]
  obtain ⟨n, hnn⟩ : ∃ n : Nat, 1 + 5 * (p : Int) + r.at_ = n := ⟨(1 + 5 * (p : Int) + r.at_).toNat, by omega⟩
  have hn12 : 1 ≤ n ∧ n < 12 := by omega
  have hmk : ∀ (d' : DM) (now' : List UInt8) (may' : List (List UInt8)), d'.off = false → d'.armed = false → d'.secs.length = 12 → now'.length = 12 → may'.length = 12 → (∀ k, k < 12 → d'.cur k = rep64 (now'[k]?.getD 0)) → (∀ k, k < 12 → ∃ v ∈ mayAt may' k, d'.secs[k]?.getD [] = rep64 v) → (∀ q ∈ d'.pend, q.1 < 12 ∧ ∃ v ∈ mayAt may' q.1, q.2 = rep64 v) → (may'[0]? = some [0] ∧ now'[0]? = some 0) → d'.pend.length ≤ i + 1 → (∀ l ∈ may', l.length ≤ i + 1 + 1) → NI (i + 1) ({ m.step with parts := m.parts.set p { m.parts[p] with q := rest', served := m.parts[p].served + 1 } } : SM) d' (updW wt p rest) now' may' := by
    intro d' now' may' g1 g2 g3 g4 g5 g6 g7 g8 g9 g10 g11
    rw [hs] at hPl
    refine ⟨hPl, fun j hj => ?_, g1, g2, g3, g4, g5, g6, g7, g8, g9, fun r hr => ?_, fun r hr => ?_, g10, g11, fun j hj => ?_, fun j hj b hb => ?_⟩
    · unfold updW
      simp only
      by_cases hjp : j = p
      · subst hjp
        rw [List.getElem?_set_self hpm, if_pos rfl]
        simp only [Option.map_some, hrest]
      · rw [List.getElem?_set_ne (fun e => hjp e.symm), if_neg hjp]
        exact h.q j hj
    · rcases List.mem_or_eq_of_mem_set hr with hr | rfl
      · exact h1.last r hr
      · have := h1.last m.parts[p] (List.getElem_mem hpm); exact this
    · rcases List.mem_or_eq_of_mem_set hr with hr | rfl
      · exact h1.served r hr
      · have := h.served _ (List.getElem_mem hpm); simp only; omega
    · unfold updW
      split
      · have := h.wb p hp2
        rw [hw] at this
        simp at this
        omega
      · exact h1.wb j hj
    · unfold updW at hb
      split at hb
      · exact h.kv p hp2 b (by rw [hw]; exact List.mem_cons_of_mem _ hb)
      · exact h.kv j hj b hb
  rw [hs]
  refine ⟨p, _, a, rest, n, hp2, rfl, rfl, ?_, hw, by omega, by omega, by omega, hn12.1, hn12.2, ?_⟩
  · dsimp only
    unfold serveM
    rcases hk with ⟨k1, k2⟩ | ⟨k1, k2, k3⟩ | ⟨k1, k2⟩
    · rw [if_neg (by omega), if_pos k1]
      unfold pwrite
      rw [hplace (by omega), if_pos rfl, hnn, write_free h.off h.arm (by rw [h.len]; omega) k2]
    · rw [if_neg (by omega), if_neg (by omega)]
      simp [DM.flush, powered_free h.off h.arm]
    · rw [if_pos k1]
      unfold pread
      rw [hplace (by omega), if_pos rfl, hnn, read_free h.off (by rw [h.len]; omega)]
  dsimp only
  unfold serveM
  rcases hk with ⟨k1, k2⟩ | ⟨k1, k2, k3⟩ | ⟨k1, k2⟩
  · right; left
    refine ⟨by omega, ?_⟩
    rw [if_neg (by omega), if_pos k1]
    unfold pwrite
    rw [hplace (by omega), if_pos rfl, hnn, write_free h.off h.arm (by rw [h.len]; omega) k2]
    have hr64 : r.data = rep64 a.fill := by rw [e3]; exact req64 (by rw [← e3]; exact k2)
    refine hmk _ _ _ h.off h.arm h.len (by simp [h.nl]) (by simp [h.ml]) (fun k hk => ?_) (fun k hk => ?_) (fun q hq => ?_) ⟨?_, ?_⟩ ?_ (fun l hl => ?_)
    · rw [cur_wr1]
      by_cases hkn : n = k
      · subst hkn
        rw [if_pos rfl, List.getElem?_set_self (by rw [h.nl]; omega), hr64]
        rfl
      · rw [if_neg hkn, List.getElem?_set_ne hkn]
        exact h.cur k hk
    · obtain ⟨v, hv, hv2⟩ := h.sec k hk
      exact ⟨v, mayAt_set hv, hv2⟩
    · simp only [wr1, List.mem_append, List.mem_singleton] at hq
      rcases hq with hq | rfl
      · obtain ⟨g1, v, g2, g3⟩ := h.pnd q hq
        exact ⟨g1, v, mayAt_set g2, g3⟩
      · refine ⟨by simp only; omega, a.fill, ?_, hr64⟩
        unfold mayAt
        simp only
        rw [List.getElem?_set_self (by rw [h.ml]; omega)]
        simp
    · rw [List.getElem?_set_ne (by omega)]; exact h.zero.1
    · rw [List.getElem?_set_ne (by omega)]; exact h.zero.2
    · simp only [wr1, List.length_append, List.length_cons, List.length_nil]
      have := h.pn; omega
    · rcases List.mem_or_eq_of_mem_set hl with hl | rfl
      · exact h1.mb l hl
      · unfold mayAt
        cases hm : may[n]? with
        | none => simp
        | some l =>
          have := h.mb l (List.mem_of_getElem? hm)
          simp
          omega
  · right; right
    refine ⟨by omega, ?_⟩
    rw [if_neg (by omega), if_neg (by omega)]
    have e : d.flush = ({ d with secs := layAll d.secs d.pend, pend := [] }, 0) := by simp [DM.flush, powered_free h.off h.arm]
    rw [e]
    have hc : ∀ k, k < 12 → (layAll d.secs d.pend)[k]?.getD [] = d.cur k := fun k hk => lay_cur' d.pend d.secs k (by rw [h.len]; exact hk)
    refine hmk _ _ _ h.off h.arm (by simp only [layAll_len]; exact h.len) h.nl (by simp [h.nl]) (fun k hk => ?_) (fun k hk => ?_) (fun q hq => by simp at hq) ⟨?_, h.zero.2⟩ (by simp) (fun l hl => ?_)
    · rw [← h.cur k hk, ← hc k hk]
      rfl
    · have hkl : k < now.length := by rw [h.nl]; exact hk
      refine ⟨now[k], ?_, ?_⟩
      · unfold mayAt
        rw [List.getElem?_map, List.getElem?_eq_getElem hkl]
        simp
      · simp only
        rw [hc k hk, h.cur k hk, List.getElem?_eq_getElem hkl]
        rfl
    · rw [List.getElem?_map, h.zero.2]; rfl
    · obtain ⟨v, _, rfl⟩ := List.mem_map.1 hl
      simp
  · left
    refine ⟨by omega, ?_, ?_⟩
    · rw [if_pos k1]
      unfold pread
      rw [hplace (by omega), if_pos rfl, hnn, read_free h.off (by rw [h.len]; omega)]
      exact h.cur n (by omega)
    · rw [if_pos k1]
      exact hmk _ _ _ h.off h.arm h.len h.nl h.ml h.cur h.sec h.pnd h.zero h1.pn h1.mb
end
end Go.Proofs.Ytmcojfpomejnnaa

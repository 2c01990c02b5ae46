/- Regions that draw their order, in which two operations that make memory may come in either order: two walks. -/
import Derived.Test.YtbknpbihgfphaaaDoorK3
set_option linter.unusedSimpArgs false
set_option linter.unusedVariables false
namespace Go.Reg
open Go
section
variable {P : Program}
def ok7 (P : Program) (l : List Oper) (ks cls ns ks' cls' ns' ms : List Nat) (i0 j0 : Nat) : Bool :=
  decide (cls.length = l.length) && permB l.length ks && decide (cls'.length = l.length) && permB l.length ks' && decide (i0 < l.length) && decide (j0 < l.length) && decide (i0 ≠ j0) && lowB l.toArray && masksOk l.toArray ms && pairsX false l.toArray ms i0 j0 (ks.zip cls) && pairsX false l.toArray ms j0 i0 (ks'.zip cls') &&
  ((ks.zip cls).all fun x => (ks'.zip cls').contains x) && ((ks'.zip cls').all fun x => (ks.zip cls).contains x) &&
  ((ks.zip cls).all fun x => x.1 == i0 || x.1 == j0 || decide (x.2 ≤ 1) || (ms.getD x.1 0).testBit i0 || (ms.getD x.1 0).testBit j0) &&
  sOk4 P l.toArray ns cls (pick l.toArray ks) && sOk4 P l.toArray ns' cls' (pick l.toArray ks') && P.follows .mixedOrders
/-- MODE 7: two walks, in the orders ks and ks'. -/
theorem region7d {id : Nat} {l : List Oper} {Q : Exit → Act → World → Prop} {a : Act} {w : World} (ks cls ns ks' cls' ns' ms : List Nat) (i0 j0 : Nat) (hok : ok7 P l ks cls ns ks' cls' ns' ms i0 j0 = true)
    (h : seg4 P l.toArray (Q .normal) ns cls (pick l.toArray ks) a w.drew) (h' : seg4 P l.toArray (Q .normal) ns' cls' (pick l.toArray ks') a w.drew) : (Code.region id l.toArray true).wp P Q a w := by
  simp only [ok7, permB, Bool.and_eq_true, decide_eq_true_eq, List.all_eq_true, Nat.blt_eq] at hok
  obtain ⟨⟨⟨⟨⟨⟨⟨⟨⟨⟨⟨⟨⟨⟨⟨⟨c1, ⟨⟨p1, p2⟩, p3⟩, p4⟩, c1'⟩, ⟨⟨p1', p2'⟩, p3'⟩, p4'⟩, hi⟩, hj⟩, hne⟩, hlow⟩, hms⟩, hpA⟩, hpB⟩, hab⟩, hba⟩, hcl⟩, hsA⟩, hsB⟩, hmx⟩ := hok
  have hlt : ∀ k ∈ ks, k < l.toArray.size := fun k hk => by simpa using p2 k hk
  have hlt' : ∀ k ∈ ks', k < l.toArray.size := fun k hk => by simpa using p2' k hk
  obtain ⟨q1, q2, q3⟩ := pick_spec l.toArray ks cls hlt (by omega)
  obtain ⟨q1', q2', q3'⟩ := pick_spec l.toArray ks' cls' hlt' (by omega)
  have hsq := sq_segsP ns cls (pick l.toArray ks) ks a _ (by omega) q2 hsA h
  have hsq' := sq_segsP ns' cls' (pick l.toArray ks') ks' a _ (by omega) q2' hsB h'
  rw [q3] at hsq
  rw [q3'] at hsq'
  have hfst : (ks.zip cls).map Prod.fst = ks := List.map_fst_zip (by omega)
  have hfst' : (ks'.zip cls').map Prod.fst = ks' := List.map_fst_zip (by omega)
  have hall : ∀ i, i < l.length → i ∈ ks := fun i hi => by simpa using p4 i (List.mem_range.2 hi)
  have hsz : l.toArray.size = l.length := by simp
  rw [← hsz] at hall p1 c1 p1' c1' hi hj
  generalize l.toArray = ops at *
  refine wp_region_any hmx ?_
  refine any_of_sq2 likes_ext hlow hms i0 j0 hne ops.size (ks.zip cls) (ks'.zip cls') _ a _ (by simp; omega) (by simp; omega) (fun x => ⟨fun hx => by simpa using hab x hx, fun hx => by simpa using hba x hx⟩) ?_ (by simp) ?_ (by rw [hfst]; exact p3) (by rw [hfst']; exact p3') (by rw [hfst]; exact hall i0 hi) (by rw [hfst]; exact hall j0 hj) (fun x hx => ?_) (pairsX_pw hpA) (pairsX_pw hpB) hsq hsq'
  · intro j o _ hj
    exfalso
    rcases Nat.lt_or_ge j ops.size with h' | h'
    · simp [h'] at hj
    · simp [h'] at hj
  · intro i
    rw [hfst]
    rcases Nat.lt_or_ge i ops.size with h' | h'
    · simp [h', hall i h']
    · have : i ∉ ks := fun hi => by have := hlt i hi; omega
      simp [h', this]
  · have := hcl x hx
    simpa [or_assoc] using this
end
end Go.Reg
namespace Go.Own
open Go Go.RowKit
section
variable {P : Program} {n : Nat} {Q : Post} {e : Env} {w : World}
theorem C.drawn7 {id : Nat} {l : List Oper} (ks cls ns ks' cls' ns' ms : List Nat) (i0 j0 : Nat) (hok : Reg.ok7 P l ks cls ns ks' cls' ns' ms i0 j0 = true) (h : segN P n l.toArray (Q .normal) ns cls (Reg.pick l.toArray ks) e w.drew) (h' : segN P n l.toArray (Q .normal) ns' cls' (Reg.pick l.toArray ks') e w.drew) : C P n Q (.region id l.toArray true) e w :=
  ⟨fun a ha => Reg.region7d ks cls ns ks' cls' ns' ms i0 j0 hok (seg4_of ns cls _ e _ a ha h) (seg4_of ns' cls' _ e _ a ha h')⟩
end
end Go.Own

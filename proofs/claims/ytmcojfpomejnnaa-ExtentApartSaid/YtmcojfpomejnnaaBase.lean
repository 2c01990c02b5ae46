/- Words for memory: what a call may change, rows of cells, bytes; over any program. -/
import Derived.Test.YtmcojfpomejnnaaRunG
import Derived.WalkKit
import Derived.WalkSpells
import Derived.WalkLawsBesides
import Derived.Deep.MidRow
import Derived.Laws.CopyOwn
import Derived.Lib.Hide
set_option linter.unusedSimpArgs false
set_option linter.unusedVariables false
namespace Go.Own
open Go Go.RowKit

/-! ### what a call may change -/
/-- Of the blocks that were there only those of S have turned; streams and tape are as they were. -/
structure Only (S : List Nat) (w w' : World) : Prop where
  os : w'.os = w.os
  tape : w'.tape = w.tape
  output : w'.output = w.output
  size : w.heap.size ≤ w'.heap.size
  block : ∀ k, k < w.heap.size → k ∉ S → w'.heap[k]? = w.heap[k]?

theorem Only.refl (S : List Nat) (w : World) : Only S w w := ⟨rfl, rfl, rfl, Nat.le_refl _, fun _ _ _ => rfl⟩
theorem Only.trans' {S T : List Nat} {a b c : World} (h : Only S a b) (k : Only T b c) (ht : ∀ x ∈ T, x ∈ S ∨ a.heap.size ≤ x) : Only S a c :=
  ⟨k.os.trans h.os, k.tape.trans h.tape, k.output.trans h.output, Nat.le_trans h.size k.size, fun i hi hs =>
    (k.block i (Nat.lt_of_lt_of_le hi h.size) (fun hT => (ht i hT).elim hs (fun hle => by omega))).trans (h.block i hi hs)⟩
theorem Only.trans {S : List Nat} {a b c : World} (h : Only S a b) (k : Only S b c) : Only S a c := h.trans' k fun _ hx => .inl hx
theorem Only.mono {S T : List Nat} {a b : World} (h : Only S a b) (hst : ∀ x ∈ S, x ∈ T ∨ a.heap.size ≤ x) : Only T a b :=
  ⟨h.os, h.tape, h.output, h.size, fun i hi ht => h.block i hi fun hs => (hst i hs).elim ht (fun hle => by omega)⟩
theorem Only.drew {S : List Nat} {a w : World} (h : Only S a w) : Only S a w.drew := ⟨h.os, h.tape, h.output, h.size, h.block⟩
theorem only_drew (S : List Nat) (w : World) : Only S w w.drew := (Only.refl S w).drew
theorem only_drewN (S : List Nat) (w : World) (n : Nat) : Only S w (w.drewN n) := ⟨rfl, rfl, rfl, Nat.le_refl _, fun _ _ _ => rfl⟩
theorem only_alloc (S : List Nat) (w : World) (o : Obj) : Only S w (w.alloc o) :=
  ⟨rfl, rfl, rfl, by simp, fun k hk _ => heap_alloc_old w o hk⟩
theorem only_setCell {S : List Nat} (w : World) (a : Addr) (v : Value) (h : a.block ∈ S) : Only S w (w.setCell a v) :=
  ⟨rfl, rfl, rfl, by simp [World.setCell], fun k _ hs => heap_setCell_other w a k v (fun e => hs (e ▸ h))⟩
theorem only_setRow {S : List Nat} (w : World) (g : Nat) (cs : Array Value) (h : g ∈ S) : Only S w (w.setRow g cs) :=
  ⟨rfl, rfl, rfl, by simp, fun k _ hs => setRow_other w g k cs (fun e => hs (e ▸ h))⟩
theorem Only.below {w w' : World} (h : Only [] w w') : Below w.heap.size w w' := ⟨h.os, h.tape, h.output, h.size, fun k hk => h.block k hk (by simp)⟩
theorem Only.of_grown {w w' : World} {row : Option Nat} (h : w.grownBy w' row) : Only row.toList w w' :=
  ⟨h.os, h.tape, h.output, h.size, fun k hk hs => h.block k hk (fun e => hs (by rw [← e]; simp))⟩
theorem Only.of_below {w w' : World} (h : Below w.heap.size w w') : Only [] w w' := ⟨h.os, h.tape, h.output, h.size, fun k hk _ => h.block k hk⟩
theorem Only.cell {S : List Nat} {w w' : World} (h : Only S w w') {a : Addr} {v : Value} (hc : w.cell? a = some v) (ha : a.block ∉ S) : w'.cell? a = some v := by
  rw [World.cell?_of_block (h.block _ (World.block_lt_of_cell? w a hc) ha)]; exact hc
theorem lt_of_heap {w : World} {k : Nat} {o : Obj} (h : w.heap[k]? = some o) : k < w.heap.size := (Array.getElem?_eq_some_iff.1 h).1
theorem Only.heap {S : List Nat} {w w' : World} (h : Only S w w') {k : Nat} {o : Obj} (hk : w.heap[k]? = some o) (hs : k ∉ S) : w'.heap[k]? = some o :=
  (h.block k (lt_of_heap hk) hs).trans hk

/-! ### blocks behind a step -/
theorem heap_alloc_at (w : World) (o : Obj) (k : Nat) : (w.alloc o).heap[k]? = if k = w.heap.size then some o else w.heap[k]? := by
  split
  · rename_i h; subst h; exact heap_alloc_new w o
  · show (w.heap.push o)[k]? = _
    rw [Array.getElem?_push, if_neg ‹_›]
theorem size_alloc (w : World) (o : Obj) : (w.alloc o).heap.size = w.heap.size + 1 := by simp

/-! ### bytes -/
def u8 (x : UInt8) : Value := .int .u8 (x.toNat : Int)
theorem u8_one (x : UInt8) : (u8 x).oneCell' = true := rfl
theorem u8_inj {x y : UInt8} (h : u8 x = u8 y) : x = y := by
  unfold u8 at h; injection h with _ h; exact UInt8.toNat_inj.1 (by omega)
def u8s (l : List UInt8) : List Value := l.map u8
theorem u8s_len (l : List UInt8) : (u8s l).length = l.length := by simp [u8s]
theorem u8s_app (l m : List UInt8) : u8s (l ++ m) = u8s l ++ u8s m := by simp [u8s]
theorem u8s_one (l : List UInt8) : ∀ v ∈ u8s l, v.oneCell' = true := by
  intro v hv; simp only [u8s, List.mem_map] at hv; obtain ⟨x, _, rfl⟩ := hv; rfl

/-- The cells xs lie from address a on. -/
def CellsAt (w : World) (a : Option Addr) (xs : List Value) : Prop := ∀ j x, xs[j]? = some x → ∃ ad, a = some ad ∧ w.cell? (ad.add j) = some x
/-- a slice that reads as n elements of sz cells, xs in all -/
def Sl (w : World) (v : Value) (sz n : Nat) (xs : List Value) : Prop := ∃ a c, v = .slice a n c ∧ xs.length = n * sz ∧ n ≤ c ∧ c ≤ maxLen ∧ CellsAt w a xs
def Bs (w : World) (v : Value) (l : List UInt8) : Prop := Sl w v 1 l.length (u8s l)

theorem CellsAt.kept {w w' : World} {a : Option Addr} {xs : List Value} (h : CellsAt w a xs) (hk : ∀ ad, a = some ad → w'.heap[ad.block]? = w.heap[ad.block]?) : CellsAt w' a xs := by
  intro j x hx
  obtain ⟨ad, ha, hc⟩ := h j x hx
  have hb : w'.heap[(ad.add j).block]? = w.heap[(ad.add j).block]? := by rw [Reg.add_block]; exact hk ad ha
  exact ⟨ad, ha, (World.cell?_of_block hb).trans hc⟩
theorem Sl.kept {w w' : World} {v : Value} {sz n : Nat} {xs : List Value} (h : Sl w v sz n xs) (hk : ∀ k, v.ownBlock = some k → w'.heap[k]? = w.heap[k]?) : Sl w' v sz n xs := by
  obtain ⟨a, c, rfl, h1, h2, h3, h4⟩ := h
  exact ⟨a, c, rfl, h1, h2, h3, h4.kept fun ad ha => hk _ (by rw [ha]; rfl)⟩
/-- the block of a slice with a cell is there -/
theorem CellsAt.lt {w : World} {ad : Addr} {xs : List Value} (h : CellsAt w (some ad) xs) (hn : xs ≠ []) : ad.block < w.heap.size := by
  cases xs with
  | nil => exact absurd rfl hn
  | cons x r =>
    obtain ⟨ad', ha, hc⟩ := h 0 x rfl
    cases ha
    have := World.block_lt_of_cell? w _ hc
    rwa [Reg.add_block] at this
theorem Sl.only {S : List Nat} {w w' : World} {v : Value} {sz n : Nat} {xs : List Value} (h : Sl w v sz n xs) (ho : Only S w w') (hs : ∀ k, v.ownBlock = some k → k ∉ S) : Sl w' v sz n xs := by
  obtain ⟨a, c, rfl, h1, h2, h3, h4⟩ := h
  refine ⟨a, c, rfl, h1, h2, h3, ?_⟩
  intro j x hx
  obtain ⟨ad, ha, hc⟩ := h4 j x hx
  exact ⟨ad, ha, ho.cell hc (by rw [Reg.add_block]; exact hs _ (by rw [ha]; rfl))⟩

/-- what reads so in every world in which at most F has turned -/
def Stable (w : World) (F : List Nat) (v : Value) (sz n : Nat) (xs : List Value) : Prop := ∀ w', Only F w w' → Sl w' v sz n xs
theorem Stable.now {w : World} {F : List Nat} {v : Value} {sz n : Nat} {xs : List Value} (h : Stable w F v sz n xs) : Sl w v sz n xs := h w (Only.refl _ _)
theorem stable_of {w : World} {F : List Nat} {v : Value} {sz n : Nat} {xs : List Value} (h : Sl w v sz n xs) (hk : ∀ k, v.ownBlock = some k → k ∉ F) : Stable w F v sz n xs := fun w' ho => h.only ho hk
theorem sl_nil_any {w w' : World} {v : Value} {sz n : Nat} (h : Sl w v sz n []) : Sl w' v sz n [] := by
  obtain ⟨a, c, rfl, h1, h2, h3, _⟩ := h
  exact ⟨a, c, rfl, h1, h2, h3, fun j x hx => by simp at hx⟩
/-- an argument, whatever the call has made since -/
theorem stable_arg {w0 w : World} {F : List Nat} {v : Value} {sz n : Nat} {xs : List Value} (h : Sl w0 v sz n xs) (ho : Only [] w0 w) (hF : ∀ k ∈ F, w0.heap.size ≤ k) : Stable w F v sz n xs := by
  intro w' ho'
  by_cases hx : xs = []
  · subst hx; exact sl_nil_any h
  · have h2 := h.only ho (by simp)
    refine h2.only ho' (fun k hk hm => ?_)
    obtain ⟨a, c, rfl, h3, _, _, h4⟩ := h
    cases a with
    | none => cases hk
    | some ad =>
      cases hk
      have h5 := h4.lt hx
      have h6 := hF _ hm
      omega

/-! ### rows of the call's own -/
theorem own_sl {w : World} {b : Nat} {e : TypeId} {sz : Nat} {v : Value} {n : Nat} {xs : List Value} (h : w.ownsRow b e sz v n xs) : Sl w v sz n xs := by
  obtain ⟨h1, h2⟩ := h
  rcases h2 with ⟨rfl, rfl⟩ | ⟨g, cap, cur, rfl, _, hg, h3, h4, h5, h6⟩
  · exact ⟨none, 0, rfl, h1, Nat.le_refl _, Nat.zero_le _, fun j x hx => by
      have : xs = [] := List.eq_nil_of_length_eq_zero (by simpa using h1)
      subst this; simp at hx⟩
  · refine ⟨_, cap, rfl, h1, h3, h4, fun j x hx => ⟨_, rfl, ?_⟩⟩
    rw [Addr.add_mid, Nat.zero_add, cell_of_row w g j cur e (0, 0) hg]
    rw [← h6, List.getElem?_take] at hx
    split at hx
    · simpa using hx
    · cases hx
theorem own_only {S : List Nat} {w w' : World} {b : Nat} {e : TypeId} {sz : Nat} {v : Value} {n : Nat} {xs : List Value} (h : w.ownsRow b e sz v n xs) (ho : Only S w w') (hs : ∀ k, v.ownBlock = some k → k ∉ S) : w'.ownsRow b e sz v n xs := by
  refine ⟨h.1, ?_⟩
  rcases h.2 with hn | ⟨g, cap, cur, rfl, hb, hgg, rest⟩
  · exact .inl hn
  · exact .inr ⟨g, cap, cur, rfl, hb, ho.heap hgg (hs g rfl), rest⟩
theorem own_kept {w w' : World} {b : Nat} {e : TypeId} {sz : Nat} {v : Value} {n : Nat} {xs : List Value} (h : w.ownsRow b e sz v n xs) (hk : ∀ k, v.ownBlock = some k → w'.heap[k]? = w.heap[k]?) : w'.ownsRow b e sz v n xs := by
  refine ⟨h.1, ?_⟩
  rcases h.2 with hn | ⟨g, cap, cur, rfl, hb, hgg, rest⟩
  · exact .inl hn
  · exact .inr ⟨g, cap, cur, rfl, hb, (hk g rfl).trans hgg, rest⟩
theorem own_lt {w : World} {b : Nat} {e : TypeId} {sz : Nat} {v : Value} {n : Nat} {xs : List Value} (h : w.ownsRow b e sz v n xs) {k : Nat} (hk : v.ownBlock = some k) : k < w.heap.size := (h.lt k hk).2

theorem own_setCell {w : World} {b : Nat} {e : TypeId} {sz : Nat} {v : Value} {n : Nat} {xs : List Value} (h : w.ownsRow b e sz v n xs) {a : Addr} (u : Value) (ha : v.ownBlock ≠ some a.block) : (w.setCell a u).ownsRow b e sz v n xs :=
  own_kept h fun k hk => heap_setCell_other _ _ _ _ fun e => ha (by rw [hk, e])
theorem own_setRow {w : World} {b : Nat} {e : TypeId} {sz : Nat} {v : Value} {n : Nat} {xs : List Value} (h : w.ownsRow b e sz v n xs) {g : Nat} (cs : Array Value) (ha : v.ownBlock ≠ some g) : (w.setRow g cs).ownsRow b e sz v n xs :=
  own_kept h fun k hk => setRow_other _ _ _ _ fun e => ha (by rw [hk, e])

theorem own_base {w : World} {b b' : Nat} {e : TypeId} {sz : Nat} {v : Value} {n : Nat} {xs : List Value} (h : w.ownsRow b e sz v n xs) (hb : ∀ k, v.ownBlock = some k → b' ≤ k) : w.ownsRow b' e sz v n xs := by
  refine ⟨h.1, ?_⟩
  rcases h.2 with hn | ⟨g, cap, cur, rfl, _, rest⟩
  · exact .inl hn
  · exact .inr ⟨g, cap, cur, rfl, hb g rfl, rest⟩
theorem cells_of_cell {w : World} {a : Addr} {x : Value} (h : w.cell? a = some x) : ∃ c t f, w.heap[a.block]? = some (.cells c t f) := by
  unfold World.cell? at h
  split at h
  · rename_i c t f hb; exact ⟨c, t, f, hb⟩
  · cases h
theorem sl_block {w : World} {ad : Addr} {n c sz m : Nat} {xs : List Value} (h : Sl w (.slice (some ad) n c) sz m xs) (hn : 0 < xs.length) : ∃ c t f, w.heap[ad.block]? = some (.cells c t f) := by
  obtain ⟨a, c', he, _, _, _, hc⟩ := h
  cases he
  obtain ⟨ad', ha, hcell⟩ := hc 0 xs[0] (by simp [hn])
  cases ha
  have := cells_of_cell hcell
  rwa [Reg.add_block] at this
theorem keep_only {S L : List Nat} {w w' : World} (ho : Only S w w') (h : ∀ k ∈ L, k ∉ S ∧ ∃ c t f, w.heap[k]? = some (.cells c t f)) : Reg.Keep L w w' := by
  intro k hk
  obtain ⟨h1, c, t, f, h2⟩ := h k hk
  exact Reg.seen_cells h2 (ho.block k (lt_of_heap h2) h1)
theorem ext_only {w w' : World} (ho : Only [] w w') : Reg.Ext w w' := ⟨ho.size, fun k hk => ho.block k hk (by simp)⟩
theorem sl_new {w : World} {cs : List Value} {t : TypeId} {n sz m : Nat} (hn : w.heap.size = n) (hl : cs.length = m * sz) (hm : m ≤ maxLen) : Sl (w.alloc (.cells cs.toArray t)) (.slice (some ⟨n, 0, none⟩) m m) sz m cs :=
  ⟨_, m, rfl, hl, Nat.le_refl _, hm, fun j x hx => ⟨_, rfl, by
    subst hn
    rw [Addr.add_mid, Nat.zero_add, cell_of_row _ _ _ _ _ _ (heap_alloc_new w _)]; simpa using hx⟩⟩
theorem Sl.drew {w : World} {v : Value} {sz n : Nat} {xs : List Value} (h : Sl w v sz n xs) : Sl w.drew v sz n xs := h.only (S := []) (only_drew _ _) (by simp)

end Go.Own

/- Loads, conversions, new memory: what worlds that are alike give; a drawn region walked as a list. -/
import Derived.Test.YtmcojfpomejnnaaRunB
set_option linter.unusedSimpArgs false
set_option linter.unusedVariables false
namespace Go.Reg
open Go

/-! ### worlds that are alike -/
def seen (w : World) (k : Nat) : Option Obj × Option Obj :=
  (w.heap[k]?, match w.heap[k]? with | some (.view at_ _) => w.heap[at_.block]? | _ => none)
/-- The blocks of L are the same. -/
def Keep (L : List Nat) (w w' : World) : Prop := ∀ k ∈ L, seen w' k = seen w k
/-- Old blocks are the same. -/
def Ext (w w' : World) : Prop := w.heap.size ≤ w'.heap.size ∧ ∀ k, k < w.heap.size → w'.heap[k]? = w.heap[k]?

theorem likes_keep (L : List Nat) : Likes (Keep L) true :=
  ⟨fun w k _ => rfl, fun a b c h1 h2 k hk => (h2 k hk).trans (h1 k hk), fun _ a b h k hk => (h k hk).symm⟩
theorem likes_ext : Likes Ext false :=
  ⟨fun w => ⟨Nat.le_refl _, fun _ _ => rfl⟩, fun a b c h1 h2 => ⟨Nat.le_trans h1.1 h2.1, fun k hk => (h2.2 k (Nat.lt_of_lt_of_le hk h1.1)).trans (h1.2 k hk)⟩, fun h => by cases h⟩

theorem seen_cells {w w' : World} {k : Nat} {c : Array Value} {t : TypeId} {f : Nat × Nat} (h : w.heap[k]? = some (.cells c t f)) (h' : w'.heap[k]? = w.heap[k]?) : seen w' k = seen w k := by
  unfold seen; rw [h', h]

section
variable {P : Program} {Sim : World → World → Prop} {α β : Type}

theorem seenW_congr {w w2 : World} {at_ : Addr} (h : w2.heap[at_.block]? = w.heap[at_.block]?) (u : TypeId) (k : Addr) (b : Bool) : w2.seen P at_ u k b = w.seen P at_ u k b := by
  unfold World.seen; simp only [h]
theorem viewLoad_congr {w w2 : World} {at_ : Addr} (h : w2.heap[at_.block]? = w.heap[at_.block]?) (u : TypeId) (k : Addr) (b : Bool) : w2.viewLoad P at_ u k b = w.viewLoad P at_ u k b := by
  unfold World.viewLoad; simp only [seenW_congr h]

theorem seen_none {w : World} {at_ : Addr} (hn : w.heap[at_.block]? = none) (u : TypeId) (k : Addr) (b : Bool) : ∀ r, w.seen P at_ u k b ≠ .ok r := by
  intro r
  unfold World.seen
  rw [hn]
  dsimp only [bind, Except.bind, MonadExcept.throw, throwThe, MonadExceptOf.throw, Except.pure, Pure.pure]
  repeat' first | (intro h; cases h; done) | split
theorem viewLoad_none {w : World} {at_ : Addr} (hn : w.heap[at_.block]? = none) (u : TypeId) (k : Addr) (b : Bool) : ∀ r, w.viewLoad P at_ u k b ≠ .ok r := by
  intro r
  unfold World.viewLoad
  cases hs : w.seen P at_ u k b with
  | ok r' => exact absurd hs (seen_none hn u k b r')
  | error e => simp [bind, Except.bind]

theorem cell_congr {w w2 : World} {a : Addr} (h : w2.heap[a.block]? = w.heap[a.block]?) : w2.cell? a = w.cell? a := by unfold World.cell?; rw [h]

theorem rd_load_keep {L : List Nat} {a : Addr} (ha : a.block ∈ L) : Rd P (Keep L) (load a) := by
  intro w v w' h
  have hw : w' = w := by
    rw [run_load] at h
    split at h
    · cases h; rfl
    · split at h
      · cases h; rfl
      · cases h
  refine ⟨hw, fun w2 hs => ?_⟩
  subst hw
  have h1 := hs a.block ha
  have hb : w2.heap[a.block]? = w'.heap[a.block]? := congrArg Prod.fst h1
  have hv := congrArg Prod.snd h1
  rw [run_load] at h ⊢
  rw [cell_congr hb]
  cases hc : w'.cell? a with
  | some x => rw [hc] at h; simp only [] at h ⊢; cases h; rfl
  | none =>
    rw [hc] at h
    simp only [] at h ⊢
    unfold World.farLoad at h ⊢
    simp only [seen] at hv
    rw [hb]
    rw [hb] at hv
    cases ho : w'.heap[a.block]? with
    | none => rw [ho] at h; simp [World.noCell, ho] at h
    | some o =>
      rw [ho] at h hv
      cases o <;> simp only [] at h hv ⊢ <;> first
        | (rw [viewLoad_congr hv]; split at h <;> rename_i q <;> (split at q <;> simp_all))
        | (simp at h)

theorem rd_load_ext {a : Addr} : Rd P Ext (load a) := by
  intro w v w' h
  have hw : w' = w := by
    rw [run_load] at h
    split at h
    · cases h; rfl
    · split at h
      · cases h; rfl
      · cases h
  refine ⟨hw, fun w2 hs => ?_⟩
  subst hw
  have hlt : a.block < w'.heap.size := by
    rcases Nat.lt_or_ge a.block w'.heap.size with h' | h'
    · exact h'
    · rw [run_load] at h
      have hn : w'.heap[a.block]? = none := by simp; omega
      simp [World.cell?, World.farLoad, World.noCell, hn] at h
  have hb := hs.2 _ hlt
  rw [run_load] at h ⊢
  rw [cell_congr hb]
  cases hc : w'.cell? a with
  | some x => rw [hc] at h; simp only [] at h ⊢; cases h; rfl
  | none =>
    rw [hc] at h
    simp only [] at h ⊢
    unfold World.farLoad at h ⊢
    rw [hb]
    cases ho : w'.heap[a.block]? with
    | none => rw [ho] at h; simp [World.noCell, ho] at h
    | some o =>
      rw [ho] at h
      cases o <;> simp only [] at h ⊢ <;> first
        | (rename_i at_ u
           have hlt2 : at_.block < w'.heap.size := by
             rcases Nat.lt_or_ge at_.block w'.heap.size with h' | h'
             · exact h'
             · exfalso
               have hn : w'.heap[at_.block]? = none := by simp; omega
               cases hq : w'.viewLoad P at_ u a (Mode.plain == .atomic) with
               | ok r => exact viewLoad_none hn u a _ r hq
               | error e => rw [hq] at h; simp at h
           rw [viewLoad_congr (hs.2 _ hlt2)]; split at h <;> rename_i q <;> (split at q <;> simp_all))
        | (simp at h)

theorem add_block (a : Addr) (n : Nat) : (a.add n).block = a.block := by unfold Addr.add; split <;> rfl

theorem rd_loadCellsFrom {a : Addr} (hl : ∀ b : Addr, b.block = a.block → Rd P Sim (load b)) : ∀ (n i : Nat) (acc : Array Value), Rd P Sim (loadCellsFrom a i n acc)
  | 0, i, acc => .pure _
  | n + 1, i, acc => by
    unfold loadCellsFrom
    exact (hl _ (add_block a i)).bind fun v => rd_loadCellsFrom hl n (i + 1) _
theorem rd_loadCells {a : Addr} (hl : ∀ b : Addr, b.block = a.block → Rd P Sim (load b)) (n : Nat) : Rd P Sim (loadCells a n) := rd_loadCellsFrom hl n 0 _
theorem rd_loadVar {a : Addr} (hl : ∀ b : Addr, b.block = a.block → Rd P Sim (load b)) (t : TypeId) : Rd P Sim (loadVar t a) := by
  unfold loadVar
  refine (rd_isAgg t).bind fun b => ?_
  split
  · exact (rd_sizeOf t).bind fun _ => (rd_loadCells hl _).bind fun _ => .pure _
  · exact hl a rfl

theorem rd_forIn_list {γ : Type} {l : List α} {f : α → γ → Sem (ForInStep γ)} (h : ∀ x s, Rd P Sim (f x s)) : ∀ (s : γ), Rd P Sim (forIn l s f) := by
  induction l with
  | nil => intro s; simp only [List.forIn_nil]; exact .pure _
  | cons x l ih =>
    intro s
    rw [List.forIn_cons]
    refine (h x s).bind fun r => ?_
    cases r with
    | done b => exact .pure _
    | yield b => exact ih b
theorem rd_bytesToString {x : Value} (hx : ∀ a n c, x = .slice (some a) n c → ∀ b : Addr, b.block = a.block → Rd P Sim (load b)) : Rd P Sim (Conv.bytesToString x) := by
  unfold Conv.bytesToString
  split
  · exact .pure _
  · rename_i a n c
    dsimp only
    refine (rd_loadCells (hx _ _ _ rfl) _).bind fun cs => ?_
    refine Rd.bind ?_ fun _ => .pure _
    rw [← Array.forIn_toList]
    refine rd_forIn_list (fun y s => ?_) _
    split
    · exact .pure _
    · exact ((dead_stuck _).bind _).rd
  · exact (dead_stuck _).rd

theorem rd_len (t : Array TypeId) (ty : TypeId) (x : Value) (h : (match x with | .slice _ _ _ | .string _ => true | _ => false) = true) : Rd P Sim (Builtin.len_ t ty #[x]) := by
  unfold Builtin.len_
  cases h0 : t[0]? with
  | none => simp only [h0]; exact (dead_stuck _).rd
  | some t0 =>
    simp only [h0, List.getElem?_toArray, List.getElem?_cons_zero]
    refine (rd_underlying _).bind fun d => ?_
    cases x <;> simp at h <;> cases d <;> dsimp only <;> first
      | exact .pure _
      | exact (dead_stuck _).rd
      | (refine (rd_underlying _).bind fun d' => ?_; split <;> first | exact .pure _ | exact (dead_stuck _).rd)

theorem rd_mapM_list {γ : Type} {f : α → Sem γ} (h : ∀ x, Rd P Sim (f x)) : ∀ (l : List α), Rd P Sim (l.mapM f)
  | [] => by rw [List.mapM_nil]; exact .pure _
  | x :: l => by rw [List.mapM_cons]; exact (h x).bind fun _ => (rd_mapM_list h l).bind fun _ => .pure _
theorem Rd.map {s : Sem α} (f : α → β) (h : Rd P Sim s) : Rd P Sim (f <$> s) := by
  rw [map_eq_pure_bind]; exact h.bind fun _ => .pure _
theorem rd_build (t : TypeId) (ps : Array (Nat × Value)) : Rd P Sim (Instr.build t ps) := by
  unfold Instr.build
  refine (rd_zeroValue t).bind fun z => ?_
  dsimp only
  refine (rd_underlying t).bind fun d => ?_
  split
  · refine Rd.bind ?_ fun pl => ?_
    · rw [Array.mapM_eq_mapM_toList]
      exact (rd_mapM_list (fun f => (rd_sizeOf _).bind fun _ => .pure _) _).map _
    · split
      · exact .pure _
      · exact (dead_stuck _).rd
  · refine (rd_sizeOf _).bind fun s => ?_
    split
    · exact .pure _
    · exact (dead_stuck _).rd
  · exact (dead_stuck _).rd
end
end Go.Reg

/- The document's disk (nacelleref05) as it lies in memory; contracts of its functions, over the same plain data DM. -/
import Derived.Test.YteoopnhogfjeaaaDiskJ
set_option linter.unusedSimpArgs false
set_option linter.unusedVariables false
namespace Go.Proofs.Yteoopnhogfjeaaa
open Go Go.RowKit Go.Own

/-- a slice that reads xs; R holds its block, where it has elements -/
def Rd (w : World) (v : Value) (sz n : Nat) (xs : List Value) (R : List Nat) : Prop := Sl w v sz n xs ∧ (xs ≠ [] → ∀ k, v.ownBlock = some k → k ∈ R ∧ k < w.heap.size)
theorem Rd.only {w w' : World} {v : Value} {sz n : Nat} {xs : List Value} {R S : List Nat} (h : Rd w v sz n xs R) (ho : Only S w w') (hd : ∀ k ∈ R, k ∉ S) : Rd w' v sz n xs R := by
  by_cases hx : xs = []
  · subst hx
    exact ⟨sl_nil_any h.1, fun hh => absurd rfl hh⟩
  · exact ⟨h.1.only ho (fun k hk => hd k (h.2 hx k hk).1), fun _ k hk => ⟨(h.2 hx k hk).1, Nat.lt_of_lt_of_le (h.2 hx k hk).2 ho.size⟩⟩
theorem Rd.mono {w : World} {v : Value} {sz n : Nat} {xs : List Value} {R R' : List Nat} (h : Rd w v sz n xs R) (hr : ∀ k ∈ R, k ∈ R') : Rd w v sz n xs R' :=
  ⟨h.1, fun hx k hk => ⟨hr _ (h.2 hx k hk).1, (h.2 hx k hk).2⟩⟩
theorem Rd.nil (w : World) (sz : Nat) (R : List Nat) : Rd w (.slice none 0 0) sz 0 [] R :=
  ⟨⟨none, 0, rfl, by simp, Nat.le_refl _, Nat.zero_le _, fun j x hx => by simp at hx⟩, fun h => absurd rfl h⟩

def bst (l : List UInt8) : ByteArray := ⟨l.toArray⟩
theorem bst_size (l : List UInt8) : (bst l).size = l.length := by simp [bst, ByteArray.size]
theorem bst_inj {l m : List UInt8} (h : bst l = bst m) : l = m := by
  unfold bst at h
  injection h with h
  exact List.toArray_inj h
def strs (l : List (List UInt8)) : List Value := l.map fun s => .string (bst s)
theorem strs_len (l : List (List UInt8)) : (strs l).length = l.length := by simp [strs]
theorem strs_one (l : List (List UInt8)) : ∀ v ∈ strs l, v.oneCell' = true := by
  intro v hv; simp only [strs, List.mem_map] at hv; obtain ⟨_, _, rfl⟩ := hv; rfl
def rwr (p : Nat × List UInt8) : List Value := [.int .i64 (p.1 : Int), .string (bst p.2)]
theorem rwr_one (l : List (Nat × List UInt8)) : ∀ v ∈ l.flatMap rwr, v.oneCell' = true := by
  intro v hv; simp only [List.mem_flatMap, rwr] at hv; obtain ⟨p, _, hv⟩ := hv; simp at hv; rcases hv with rfl | rfl <;> rfl

/-- the document's disk: the value v reads as d; R: the blocks that it reads -/
structure RefAt (w : World) (v : Value) (d : DM) (R : List Nat) : Prop where
  wf : d.Wf
  lies : ∃ vh vw vs surv, v = .agg #[vh, vw, .bool d.off, .int .i64 (if d.armed then d.left else -1), vs] ∧ Rd w vh 1 d.secs.length (strs d.secs) R ∧ Rd w vw 2 d.pend.length (d.pend.flatMap rwr) R ∧ Rd w vs 1 surv.length (surv.map Value.bool) R ∧ (d.armed = true → surv = d.surv)
theorem RefAt.only {w w' : World} {v : Value} {d : DM} {R S : List Nat} (h : RefAt w v d R) (ho : Only S w w') (hd : ∀ k ∈ R, k ∉ S) : RefAt w' v d R := by
  obtain ⟨hw, vh, vw, vs, sv, h1, h2, h3, h4, h5⟩ := h
  exact ⟨hw, vh, vw, vs, sv, h1, h2.only ho hd, h3.only ho hd, h4.only ho hd, h5⟩
theorem RefAt.mono {w : World} {v : Value} {d : DM} {R R' : List Nat} (h : RefAt w v d R) (hr : ∀ k ∈ R, k ∈ R') : RefAt w v d R' := by
  obtain ⟨hw, vh, vw, vs, sv, h1, h2, h3, h4, h5⟩ := h
  exact ⟨hw, vh, vw, vs, sv, h1, h2.mono hr, h3.mono hr, h4.mono hr, h5⟩

theorem own_pos {w : World} {b : Nat} {e : TypeId} {sz : Nat} {v : Value} {n : Nat} {xs : List Value} (h : w.ownsRow b e sz v n xs) (hn : 0 < n) : ∃ g cap cur, v = .slice (some ⟨g, 0, none⟩) n cap ∧ b ≤ g ∧ w.heap[g]? = some (.cells cur e (0, 0)) ∧ n ≤ cap ∧ cap ≤ maxLen ∧ cur.size = cap * sz ∧ cur.toList.take (n * sz) = xs := by
  rcases h.2 with ⟨_, h⟩ | h
  · omega
  · exact h
theorem eStrs : ElT Try.prog 90 9 1 16 (.string ⟨#[]⟩) := elT Try.underlying90 (by kernel_rfl) rfl (by decide)

theorem strs_set (l : List (List UInt8)) (n : Nat) (s : List UInt8) : (strs l).set n (.string (bst s)) = strs (l.set n s) := by simp [strs, List.map_set]

theorem with_at (v : Value) (l : List (List UInt8)) (n : Nat) (s : List UInt8) (w : World) (h : Sl w v 1 l.length (strs l)) (hn : n < l.length) (hl : l.length ≤ 256) :
    Calls Try.prog 76 #[v, .int .i64 n, .string (bst s)] w fun e w' => ∃ v', e = .returned v' ∧ w'.ownsRow w.heap.size 9 1 v' l.length (strs (l.set n s)) ∧ Only [] w w' := by
  have hsl : Sl (w.alloc (.cells #[] 9)) v 1 l.length (strs l) := h.only (S := []) (only_alloc _ _ _) (by simp)
  have hown : (w.alloc (.cells #[] 9)).ownsRow 0 9 1 (.slice (some ⟨w.heap.size, 0, none⟩) 0 0) 0 [] := World.ownsRow_made w #[] 0 (Nat.zero_le _) (by decide) (by simp)
  have HSL := Lib.hid hsl
  have HOWN := Lib.hid hown
  clear hsl hown h
  go_enter Try.func76, Try.ntmps76
  go_wp2_with ((with_reducible show wpList _ _ _ (⟨_, .call ⟨.builtin .append, _, _⟩, _, _, _, _⟩ :: _) _ _); go_must (refine append_row (s := .tmp 8) (x := .tmp 9) (v := .slice (some ⟨w.heap.size, 0, none⟩) 0 0) (xv := v) eStrs rfl rfl rfl HOWN.out rfl HSL.out (strs_one _) (by unfold maxLen; omega) (by omega) ?_; intro v' w' hq1 hq2 hq3; rw [Nat.zero_add, List.nil_append] at hq1; obtain ⟨g, cap, cur, rfl, _, q4, q5, q6, q7, q8⟩ := own_pos hq1 (by omega); have hc : w'.cell? ⟨g, n, none⟩ = some (.string (bst l[n])) := (by rw [cell_of_row _ _ _ _ _ _ q4]; have := congrArg (·[n]?) q8; simp [List.getElem?_take, strs, hn] at this; simpa using this); have hf : w'.frozen? ⟨g, n, none⟩ = false := (by simp [World.frozen?, q4]); have HQ2 := Lib.hid hq2; have HQ3 := Lib.hid hq3; have Q4 := Lib.hid q4; have Q7 := Lib.hid q7; have Q8 := Lib.hid q8; clear hq1 hq2 hq3 q4 q7 q8))
  go_ret
  have hg : w.heap.size ≤ g := by
    rcases HQ3.out g rfl with h | h
    · cases h; exact Nat.le_refl _
    · simp at h; omega
  refine ⟨_, rfl, ⟨by simp [strs_len], .inr ⟨g, cap, _, rfl, hg, heap_setCell_same _ _ n _ _ _ Q4.out, q5, q6, by simp [Q7.out], ?_⟩⟩, ?_⟩
  · have := Q8.out
    rw [← strs_set, ← this, Array.toList_setIfInBounds, List.take_set]
  · exact ((only_alloc [] _ _).trans' HQ2.out (fun x hx => .inr (by simp [Value.ownBlock] at hx; omega))).trans' (only_setCell (S := [g]) _ _ _ (by simp)) (fun z hz => .inr (by simp at hz; omega))
end Go.Proofs.Yteoopnhogfjeaaa

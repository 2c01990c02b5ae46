/- The types of the program, as instances; by types.py. Rings and partitions of iosched, as they lie in memory; push, pop, Clone. The schedule as plain data; iosched.formed, isPart, Ask, Next, Waiting, Served. -/
import Derived.Test.YtmcojfpomejnnaaRows
import Derived.Test.YtmcojfpomejnnaaNdK4
import Derived.Test.YtmcojfpomejnnaaNdEx
set_option linter.unusedSimpArgs false
namespace Go.Proofs.Ytmcojfpomejnnaa
open Go Go.RowKit Go.Own
-- 45 api.Request
instance : RowC Try.prog 45 3 := ⟨⟨_, Try.underlying45, rfl⟩, by kernel_rfl⟩
instance : ZeroC Try.prog 45 ([.int .i64 0, .int .i64 0, .slice none 0 0]) := ⟨⟨.agg ([.int .i64 0, .int .i64 0, .slice none 0 0]).toArray, by kernel_rfl, by kernel_rfl⟩⟩
instance : FldC Try.prog 45 0 0 := ⟨⟨_, _, Try.underlying45, rfl, rfl, 0, by kernel_rfl⟩⟩
instance : FldC Try.prog 45 1 1 := ⟨⟨_, _, Try.underlying45, rfl, rfl, 0, by kernel_rfl⟩⟩
instance : FldC Try.prog 45 2 2 := ⟨⟨_, _, Try.underlying45, rfl, rfl, 0, by kernel_rfl⟩⟩
-- 48 api.Done
instance : RowC Try.prog 48 4 := ⟨⟨_, Try.underlying48, rfl⟩, by kernel_rfl⟩
instance : ZeroC Try.prog 48 ([.int .i64 0, .int .u64 0, .slice none 0 0, .int .i64 0]) := ⟨⟨.agg ([.int .i64 0, .int .u64 0, .slice none 0 0, .int .i64 0]).toArray, by kernel_rfl, by kernel_rfl⟩⟩
instance : FldC Try.prog 48 0 0 := ⟨⟨_, _, Try.underlying48, rfl, rfl, 0, by kernel_rfl⟩⟩
instance : FldC Try.prog 48 2 2 := ⟨⟨_, _, Try.underlying48, rfl, rfl, 0, by kernel_rfl⟩⟩
instance : FldC Try.prog 48 3 3 := ⟨⟨_, _, Try.underlying48, rfl, rfl, 0, by kernel_rfl⟩⟩
-- 136 iosched.Schedule
instance : FldC Try.prog 136 0 0 := ⟨⟨_, _, Try.underlying136, rfl, rfl, 0, by kernel_rfl⟩⟩
instance : FldC Try.prog 136 1 1 := ⟨⟨_, _, Try.underlying136, rfl, rfl, 0, by kernel_rfl⟩⟩
instance : FldC Try.prog 136 2 2 := ⟨⟨_, _, Try.underlying136, rfl, rfl, 0, by kernel_rfl⟩⟩
-- 138 iosched.asked
instance : RowC Try.prog 138 4 := ⟨⟨_, Try.underlying138, rfl⟩, by kernel_rfl⟩
instance : ZeroC Try.prog 138 ([.int .u64 0, .int .i64 0, .int .i64 0, .slice none 0 0]) := ⟨⟨.agg ([.int .u64 0, .int .i64 0, .int .i64 0, .slice none 0 0]).toArray, by kernel_rfl, by kernel_rfl⟩⟩
instance : FldC Try.prog 138 0 0 := ⟨⟨_, _, Try.underlying138, rfl, rfl, 0, by kernel_rfl⟩⟩
instance : FldC Try.prog 138 1 1 := ⟨⟨_, _, Try.underlying138, rfl, rfl, 2, by kernel_rfl⟩⟩
-- 143 iosched.partition
instance : RowC Try.prog 143 70 := ⟨⟨_, Try.underlying143, rfl⟩, by kernel_rfl⟩
instance : ZeroC Try.prog 143 ([.pointer none, .int .i64 0, .int .u64 0, .int .u64 0, .int .u64 0, .int .i64 0, .int .i64 0, .slice none 0 0, .int .u64 0, .int .i64 0, .int .i64 0, .slice none 0 0, .int .u64 0, .int .i64 0, .int .i64 0, .slice none 0 0, .int .u64 0, .int .i64 0, .int .i64 0, .slice none 0 0, .int .u64 0, .int .i64 0, .int .i64 0, .slice none 0 0, .int .u64 0, .int .i64 0, .int .i64 0, .slice none 0 0, .int .u64 0, .int .i64 0, .int .i64 0, .slice none 0 0, .int .u64 0, .int .i64 0, .int .i64 0, .slice none 0 0, .int .u64 0, .int .i64 0, .int .i64 0, .slice none 0 0, .int .u64 0, .int .i64 0, .int .i64 0, .slice none 0 0, .int .u64 0, .int .i64 0, .int .i64 0, .slice none 0 0, .int .u64 0, .int .i64 0, .int .i64 0, .slice none 0 0, .int .u64 0, .int .i64 0, .int .i64 0, .slice none 0 0, .int .u64 0, .int .i64 0, .int .i64 0, .slice none 0 0, .int .u64 0, .int .i64 0, .int .i64 0, .slice none 0 0, .int .u64 0, .int .i64 0, .int .i64 0, .slice none 0 0, .int .i64 0, .int .i64 0]) := ⟨⟨.agg ([.pointer none, .int .i64 0, .int .u64 0, .int .u64 0, .int .u64 0, .int .i64 0, .int .i64 0, .slice none 0 0, .int .u64 0, .int .i64 0, .int .i64 0, .slice none 0 0, .int .u64 0, .int .i64 0, .int .i64 0, .slice none 0 0, .int .u64 0, .int .i64 0, .int .i64 0, .slice none 0 0, .int .u64 0, .int .i64 0, .int .i64 0, .slice none 0 0, .int .u64 0, .int .i64 0, .int .i64 0, .slice none 0 0, .int .u64 0, .int .i64 0, .int .i64 0, .slice none 0 0, .int .u64 0, .int .i64 0, .int .i64 0, .slice none 0 0, .int .u64 0, .int .i64 0, .int .i64 0, .slice none 0 0, .int .u64 0, .int .i64 0, .int .i64 0, .slice none 0 0, .int .u64 0, .int .i64 0, .int .i64 0, .slice none 0 0, .int .u64 0, .int .i64 0, .int .i64 0, .slice none 0 0, .int .u64 0, .int .i64 0, .int .i64 0, .slice none 0 0, .int .u64 0, .int .i64 0, .int .i64 0, .slice none 0 0, .int .u64 0, .int .i64 0, .int .i64 0, .slice none 0 0, .int .u64 0, .int .i64 0, .int .i64 0, .slice none 0 0, .int .i64 0, .int .i64 0]).toArray, by kernel_rfl, by kernel_rfl⟩⟩
instance : FldC Try.prog 143 0 0 := ⟨⟨_, _, Try.underlying143, rfl, rfl, 0, by kernel_rfl⟩⟩
instance : FldC Try.prog 143 1 1 := ⟨⟨_, _, Try.underlying143, rfl, rfl, 0, by kernel_rfl⟩⟩
instance : FldC Try.prog 143 2 2 := ⟨⟨_, _, Try.underlying143, rfl, rfl, 0, by kernel_rfl⟩⟩
instance : FldC Try.prog 143 3 3 := ⟨⟨_, _, Try.underlying143, rfl, rfl, 0, by kernel_rfl⟩⟩
instance : FldC Try.prog 143 4 4 := ⟨⟨_, _, Try.underlying143, rfl, rfl, 65, by kernel_rfl⟩⟩
end Go.Proofs.Ytmcojfpomejnnaa
set_option linter.unusedSimpArgs false
set_option linter.unusedVariables false
namespace Go.Proofs.Ytmcojfpomejnnaa
open Go Go.RowKit Go.Own
section
variable {s : Ro} {w : World} {R : List Asn}
theorem CloneI_s {a : Option Addr} {c : Nat} {l : List Int} (H : Holds s w R) (h : Src s R (.slice a l.length c) 1 l.length (l.map (Value.int .i64))) (hl : l.length ≤ 1000000) : Calls Try.prog 62 #[.slice a l.length c] w fun e w' => ∃ aa cc, e = .returned (.slice aa l.length cc) ∧ Holds s w' (row 3 1 (.slice aa l.length cc) l.length (l.map (Value.int .i64)) :: R) := by
  cases a with
  | none =>
    have hl0 : l = [] := by
      obtain ⟨a, c, hv, _, _, _, h4⟩ := h.sl H
      cases l with
      | nil => rfl
      | cons x r => obtain ⟨ad, ha, _⟩ := h4 0 (.int .i64 x) rfl; cases hv; cases ha
    subst hl0
    refine enter Try.func62 rfl Try.ntmps62 rfl ?_
    repeat' (first | (refine X.nilS ?_) | refine Z H ?_ | (refine Zc ?_ ?_ <;> intro hc <;> first | (exfalso; omega) | skip) | (refine Y ?_; try change C _ _ _ _ _ _) | (refine Zs H ?_; clear H; (try clear w); intro w H) | (refine Zn H ?_; clear H; (try clear w); intro _ w H) | (refine Ze H ?_; clear H; (try clear w); intro gv w H))
    exact ⟨_, resT rfl, none, 0, rfl, H.nilRow _ _⟩
  | some a =>
    refine enter Try.func62 rfl Try.ntmps62 rfl ?_
    repeat' (first | (refine X.nilS ?_) | refine Z H ?_ | (refine Zc ?_ ?_ <;> intro hc <;> first | (exfalso; omega) | skip) | (refine Y ?_; try change C _ _ _ _ _ _) | (refine Zs H ?_; clear H; (try clear w); intro w H) | (refine Zn H ?_; clear H; (try clear w); intro _ w H) | (refine Ze H ?_; clear H; (try clear w); intro gv w H))
    have h' : Src s (row 3 1 (.slice (some ⟨gv, 0, none⟩) 0 0) 0 [] :: R) (.slice (some a) l.length c) 1 l.length (l.map (Value.int .i64)) := ⟨fun w H => h.reads w H.tail, fun hx k hk => (h.blk hx k hk).imp id fun ⟨i, A, h1, h2⟩ => ⟨i + 1, A, by simpa using h1, h2⟩⟩
    refine K.app0 0 H rfl h' (by simp [Value.oneCell']) (by unfold maxLen; omega) (by omega) rfl rfl rfl ?_; clear H; intro aa cc w H; (try simp only [List.set_cons_zero, List.set_cons_succ, List.eraseIdx_cons_zero, List.eraseIdx_cons_succ] at H)
    repeat' (first | refine Z H ?_ | (refine Zc ?_ ?_ <;> intro hc <;> first | (exfalso; omega) | skip) | (refine Y ?_; try change C _ _ _ _ _ _) | (refine Zs H ?_; clear H; (try clear w); intro w H) | (refine Zn H ?_; clear H; (try clear w); intro _ w H) | (refine Ze H ?_; clear H; (try clear w); intro gv w H))
    exact ⟨_, resT rfl, aa, cc, rfl, H⟩
theorem CloneB_s {a : Option Addr} {c : Nat} {l : List UInt8} (H : Holds s w R) (h : Src s R (.slice a l.length c) 1 l.length (u8s l)) (hl : l.length ≤ 1000000) : Calls Try.prog 65 #[.slice a l.length c] w fun e w' => ∃ aa cc, e = .returned (.slice aa l.length cc) ∧ Holds s w' (row 5 1 (.slice aa l.length cc) l.length (u8s l) :: R) := by
  cases a with
  | none =>
    have hl0 : l = [] := by
      obtain ⟨a, c, hv, _, _, _, h4⟩ := h.sl H
      cases l with
      | nil => rfl
      | cons x r => obtain ⟨ad, ha, _⟩ := h4 0 (u8 x) rfl; cases hv; cases ha
    subst hl0
    refine enter Try.func65 rfl Try.ntmps65 rfl ?_
    repeat' (first | (refine X.nilS ?_) | refine Z H ?_ | (refine Zc ?_ ?_ <;> intro hc <;> first | (exfalso; omega) | skip) | (refine Y ?_; try change C _ _ _ _ _ _) | (refine Zs H ?_; clear H; (try clear w); intro w H) | (refine Zn H ?_; clear H; (try clear w); intro _ w H) | (refine Ze H ?_; clear H; (try clear w); intro gv w H))
    exact ⟨_, resT rfl, none, 0, rfl, H.nilRow _ _⟩
  | some a =>
    refine enter Try.func65 rfl Try.ntmps65 rfl ?_
    repeat' (first | (refine X.nilS ?_) | refine Z H ?_ | (refine Zc ?_ ?_ <;> intro hc <;> first | (exfalso; omega) | skip) | (refine Y ?_; try change C _ _ _ _ _ _) | (refine Zs H ?_; clear H; (try clear w); intro w H) | (refine Zn H ?_; clear H; (try clear w); intro _ w H) | (refine Ze H ?_; clear H; (try clear w); intro gv w H))
    have h' : Src s (row 5 1 (.slice (some ⟨gv, 0, none⟩) 0 0) 0 [] :: R) (.slice (some a) l.length c) 1 l.length (u8s l) := ⟨fun w H => h.reads w H.tail, fun hx k hk => (h.blk hx k hk).imp id fun ⟨i, A, h1, h2⟩ => ⟨i + 1, A, by simpa using h1, h2⟩⟩
    refine K.app0 0 H rfl h' (u8s_one _) (by unfold maxLen; omega) (by omega) rfl rfl rfl ?_; clear H; intro aa cc w H; (try simp only [List.set_cons_zero, List.set_cons_succ, List.eraseIdx_cons_zero, List.eraseIdx_cons_succ] at H)
    repeat' (first | refine Z H ?_ | (refine Zc ?_ ?_ <;> intro hc <;> first | (exfalso; omega) | skip) | (refine Y ?_; try change C _ _ _ _ _ _) | (refine Zs H ?_; clear H; (try clear w); intro w H) | (refine Zn H ?_; clear H; (try clear w); intro _ w H) | (refine Ze H ?_; clear H; (try clear w); intro gv w H))
    exact ⟨_, resT rfl, aa, cc, rfl, H⟩
end
/-- a partition as it lies in memory -/
structure Pr where
  pv : Option Nat
  room : Int
  last : Nat
  served : Nat
  items : List Value
  first : Nat
  count : Nat
def ptr (p : Option Nat) : Value := .pointer (p.map fun b => ⟨b, 0, none⟩)
def Pr.cells (p : Pr) : List Value := ptr p.pv :: .int .i64 p.room :: .int .u64 (p.last : Int) :: .int .u64 (p.served : Int) :: (p.items ++ [.int .i64 (p.first : Int), .int .i64 (p.count : Int)])
structure Pr.Ok (p : Pr) : Prop where
  len : p.items.length = 64
  one : ∀ v ∈ p.items, v.oneCell' = true
  f16 : p.first < 16
  c16 : p.count ≤ 16
theorem Pr.Ok.cells {p : Pr} (h : p.Ok) : p.cells.length = 70 := by simp [Pr.cells, h.len]
theorem Pr.Ok.ones {p : Pr} (h : p.Ok) : ∀ v ∈ p.cells, v.oneCell' = true := by
  intro v hv
  simp only [Pr.cells, List.mem_cons, List.mem_append, List.not_mem_nil, or_false] at hv
  rcases hv with rfl | rfl | rfl | rfl | hv | rfl | rfl
  · rfl
  · rfl
  · rfl
  · rfl
  · exact h.one v hv
  · rfl
  · rfl
theorem Pr.get_first {p : Pr} (h : p.Ok) : p.cells[68]? = some (.int .i64 (p.first : Int)) := by
  show (p.items ++ [_, _])[64]? = _
  rw [List.getElem?_append_right (by rw [h.len]; omega), h.len]; rfl
theorem Pr.get_count {p : Pr} (h : p.Ok) : p.cells[69]? = some (.int .i64 (p.count : Int)) := by
  show (p.items ++ [_, _])[65]? = _
  rw [List.getElem?_append_right (by rw [h.len]; omega), h.len]; rfl
theorem Pr.set_first {p : Pr} (h : p.Ok) (n : Nat) : ({ p with first := n } : Pr).cells = p.cells.set 68 (.int .i64 (n : Int)) := by
  show _ = ptr p.pv :: .int .i64 p.room :: .int .u64 (p.last : Int) :: .int .u64 (p.served : Int) :: (p.items ++ [_, _]).set 64 _
  rw [List.set_append_right _ _ (by rw [h.len]; omega), h.len]; rfl
theorem Pr.set_count {p : Pr} (h : p.Ok) (n : Nat) : ({ p with count := n } : Pr).cells = p.cells.set 69 (.int .i64 (n : Int)) := by
  show _ = ptr p.pv :: .int .i64 p.room :: .int .u64 (p.last : Int) :: .int .u64 (p.served : Int) :: (p.items ++ [_, _]).set 65 _
  rw [List.set_append_right _ _ (by rw [h.len]; omega), h.len]; rfl
theorem Pr.put_item {p : Pr} (h : p.Ok) {j : Nat} {ys : List Value} (hj : j + ys.length ≤ 64) : ({ p with items := putL p.items j ys } : Pr).cells = putL p.cells (4 + j) ys := by
  have hl := h.len
  apply List.ext_getElem?
  intro q
  have h70 := h.cells
  rw [putL_get (by omega)]
  match q with
  | 0 => rw [if_neg (by omega)]; rfl
  | 1 => rw [if_neg (by omega)]; rfl
  | 2 => rw [if_neg (by omega)]; rfl
  | 3 => rw [if_neg (by omega)]; rfl
  | q + 4 =>
    show (putL p.items j ys ++ _)[q]? = if _ then ys[q + 4 - (4 + j)]? else (p.items ++ _)[q]?
    rw [show q + 4 - (4 + j) = q - j by omega]
    by_cases hq : q < 64
    · rw [List.getElem?_append_left (by rw [putL_len (by omega)]; omega), List.getElem?_append_left (by omega), putL_get (by omega)]
      by_cases h2 : j ≤ q ∧ q < j + ys.length
      · rw [if_pos h2, if_pos (by omega)]
      · rw [if_neg h2, if_neg (by omega)]
    · rw [if_neg (by omega), List.getElem?_append_right (by rw [putL_len (by omega)]; omega), List.getElem?_append_right (by omega), putL_len (by omega)]
theorem Pr.item {p : Pr} (h : p.Ok) {j k : Nat} (hj : j + k ≤ 64) : (p.cells.drop (4 + j)).take k = (p.items.drop j).take k := by
  have hl := h.len
  show ((ptr p.pv :: .int .i64 p.room :: .int .u64 (p.last : Int) :: .int .u64 (p.served : Int) :: (p.items ++ [_, _])).drop (4 + j)).take k = _
  rw [Nat.add_comm 4 j]
  show (((p.items ++ [_, _])).drop j).take k = _
  rw [List.drop_append_of_le_length (by omega), List.take_append_of_le_length (by simp; omega)]
theorem flatMap_len70 {α : Type} {f : α → List Value} : ∀ (l : List α), (∀ x ∈ l, (f x).length = 70) → (l.flatMap f).length = l.length * 70
  | [], _ => by simp
  | x :: l, hf => by
    rw [List.flatMap_cons, List.length_append, hf x (by simp), flatMap_len70 l (fun y hy => hf y (by simp [hy])), List.length_cons]; omega
section
variable {s : Ro} {w : World} {R : List Asn} {g c i o : Nat} {ps : List Pr} {p : Pr}
theorem at_of (hps : ∀ q ∈ ps, q.Ok) (hi : i < ps.length) (hp : ps[i] = p) : ∀ j v, j < 70 → p.cells[j]? = some v → (ps.flatMap Pr.cells)[i * 70 + j]? = some v := by
  intro j v hj hv
  subst hp
  rw [flat_get ps (fun q hq => (hps q hq).cells) i j hi hj]
  exact hv
def askC (n : Nat) (k a : Int) (dv : Value) : List Value := [.int .u64 (n : Int), .int .i64 k, .int .i64 a, dv]
def Pr.push (p : Pr) (n : Nat) (k a : Int) (dv : Value) : Pr := { p with items := putL p.items ((p.first + p.count) % 16 * 4) (askC n k a dv), count := p.count + 1 }
theorem Pr.Ok.push {p : Pr} (h : p.Ok) (hc : p.count < 16) {n : Nat} {k a : Int} {dv : Value} (hd : dv.oneCell' = true) : (p.push n k a dv).Ok := by
  have hl := h.len
  have hm : (p.first + p.count) % 16 < 16 := Nat.mod_lt _ (by decide)
  refine ⟨by simp only [Pr.push]; rw [putL_len (by simp [askC]; omega)]; exact hl, ?_, h.f16, by simp only [Pr.push]; omega⟩
  intro v hv
  simp only [Pr.push, putL, List.mem_append] at hv
  rcases hv with (hv | hv) | hv
  · exact h.one v (List.mem_of_mem_take hv)
  · simp only [askC, List.mem_cons, List.not_mem_nil, or_false] at hv
    rcases hv with rfl | rfl | rfl | rfl
    · rfl
    · rfl
    · rfl
    · exact hd
  · exact h.one v (List.mem_of_mem_drop hv)
set_option maxRecDepth 100000 in
set_option maxHeartbeats 1000000 in
theorem push_s {n : Nat} {k a : Int} {da : Option Addr} {dn dc : Nat} (H : Holds s w (row 143 70 (.slice (some ⟨g, 0, none⟩) ps.length c) ps.length (ps.flatMap Pr.cells) :: R)) (hps : ∀ q ∈ ps, q.Ok) (hi : i < ps.length) (hp : ps[i] = p) (hc : p.count < 16) (ho : o = 0 + i * 70 + 4) :
    Calls Try.prog 66 #[.pointer (some ⟨g, o, none⟩), .agg #[.int .u64 (n : Int), .int .i64 k, .int .i64 a, .slice da dn dc]] w fun e w' => e = .returned (.tuple #[]) ∧ Holds s w' (row 143 70 (.slice (some ⟨g, 0, none⟩) ps.length c) ps.length ((ps.set i (p.push n k a (.slice da dn dc))).flatMap Pr.cells) :: R) := by
  have hok : p.Ok := by rw [← hp]; exact hps _ (List.getElem_mem _)
  have hxl : (ps.flatMap Pr.cells).length = ps.length * 70 := flatMap_len70 ps (fun q hq => (hps q hq).cells)
  have hf : (ps.flatMap Pr.cells)[o + 64]? = some (.int .i64 (p.first : Int)) := by rw [ho, show 0 + i * 70 + 4 + 64 = i * 70 + 68 by omega]; exact at_of hps hi hp 68 _ (by omega) (Pr.get_first hok)
  have hct : (ps.flatMap Pr.cells)[o + 65]? = some (.int .i64 (p.count : Int)) := by rw [ho, show 0 + i * 70 + 4 + 65 = i * 70 + 69 by omega]; exact at_of hps hi hp 69 _ (by omega) (Pr.get_count hok)
  have h16 := hok.f16
  have hm : (p.first + p.count) % 16 < 16 := Nat.mod_lt _ (by decide)
  have hrem : ((p.first : Int) + (p.count : Int)).tmod 16 = (((p.first + p.count) % 16 : Nat) : Int) := by
    rw [Int.tmod_eq_emod_of_nonneg (by omega)]; omega
  have hi70 : (i + 1) * 70 ≤ ps.length * 70 := Nat.mul_le_mul_right _ hi
  generalize hidx : (p.first + p.count) % 16 = ix at *
  obtain ⟨p1, hp1⟩ : ∃ p1 : Pr, p1 = { p with items := putL p.items (ix * 4) (askC n k a (.slice da dn dc)) } := ⟨_, rfl⟩
  have hok1 : p1.Ok := by
    have := hok.push hc (n := n) (k := k) (a := a) (dv := .slice da dn dc) rfl
    rw [Pr.push, hidx] at this
    rw [hp1]
    exact ⟨this.len, this.one, this.f16, hok.c16⟩
  have e1 : p1.count = p.count := by rw [hp1]
  have epush : p.push n k a (.slice da dn dc) = { p1 with count := p.count + 1 } := by rw [hp1, Pr.push, hidx]
  have hput := flatS_put ps (fun q hq => (hps q hq).cells) i (4 + ix * 4) (askC n k a (.slice da dn dc)) p1 hi (by simp [askC]; omega) (by rw [hp, hp1]; exact Pr.put_item hok (by simp [askC]; omega))
  have hput' : putL (ps.flatMap Pr.cells) (o + 0 + ix * 4) (askC n k a (.slice da dn dc)) = (ps.set i p1).flatMap Pr.cells := by
    rw [← hput]; congr 1; omega
  have hps1 : ∀ q ∈ ps.set i p1, q.Ok := fun q hq => by
    rcases List.mem_or_eq_of_mem_set hq with h | h
    · exact hps q h
    · rw [h]; exact hok1
  have hct1 : ((ps.set i p1).flatMap Pr.cells)[o + 65]? = some (.int .i64 (p.count : Int)) := by
    rw [ho, show 0 + i * 70 + 4 + 65 = i * 70 + 69 by omega, ← e1]
    exact at_of (p := p1) hps1 (by simpa using hi) (by simp) 69 _ (by omega) (Pr.get_count hok1)
  have hset := flatS_set (ps.set i p1) (fun q hq => (hps1 q hq).cells) i 69 (.int .i64 ((p.count : Int) + 1)) { p1 with count := p.count + 1 } (by simpa using hi) (by omega) (by
    have := Pr.set_count hok1 (p.count + 1)
    simpa using this)
  rw [List.set_set, ← epush] at hset
  have hxl1 : ((ps.set i p1).flatMap Pr.cells).length = ps.length * 70 := by
    have := flatMap_len70 _ (fun q hq => (hps1 q hq).cells)
    simpa using this
  clear hp1 hput hps1 hok1
  refine enter Try.func66 rfl Try.ntmps66 rfl ?_
  repeat' (first | refine Z H ?_ | (refine Zc ?_ ?_ <;> intro hc <;> first | (exfalso; omega) | skip) | (refine Y ?_; try change C _ _ _ _ _ _) | (refine Zs H ?_; clear H; (try clear w); intro w H) | (refine Zn H ?_; clear H; (try clear w); intro _ w H) | (refine Ze H ?_; clear H; (try clear w); intro gv w H))
  refine C.drawn1 [0, 0, 0, 0, 1, 0, 0, 0, 1, 0, 0, 1, 0, 0, 0, 3] [0, 0, 2, 6, 14, 0, 32, 96, 224, 510, 1022, 0, 1, 4097, 16383, 32767] (by kernel_rfl) ?_; replace H := H.drew
  repeat' (first | (refine K.rem rfl rfl rfl rfl (by decide) ?_; rw [hrem]) | (refine X.rstp (ys := askC n k a (.slice da dn dc)) H ?_ (h1 := by simp [askC, Value.oneCell']); clear H; (try clear w); intro w H; rw [hput'] at H) | refine Z H ?_ | (refine Zc ?_ ?_ <;> intro hc <;> first | (exfalso; omega) | skip) | (refine Y ?_; try change C _ _ _ _ _ _) | (refine Zs H ?_; clear H; (try clear w); intro w H) | (refine Zn H ?_; clear H; (try clear w); intro _ w H) | (refine Ze H ?_; clear H; (try clear w); intro gv w H))
  rw [show o + 65 = i * 70 + 69 by omega, hset] at H
  exact ⟨_, res0 rfl, rfl, H.tail⟩
/-- one partition among all -/
structure View (ps : List Pr) (i : Nat) (p : Pr) : Prop where
  ok : ∀ q ∈ ps, q.Ok
  lt : i < ps.length
  eq : ps[i]'lt = p
theorem View.pok (h : View ps i p) : p.Ok := by rw [← h.eq]; exact h.ok _ (List.getElem_mem _)
theorem View.get (h : View ps i p) {j o : Nat} {v : Value} (hj : p.cells[j]? = some v) (ho : o = i * 70 + j) (h70 : j < 70 := by omega) : (ps.flatMap Pr.cells)[o]? = some v := by
  rw [ho]; exact at_of h.ok h.lt h.eq j v h70 hj
theorem View.set (h : View ps i p) {p' : Pr} (h' : p'.Ok) : View (ps.set i p') i p' := by
  refine ⟨fun q hq => ?_, by simpa using h.lt, by simp⟩
  rcases List.mem_or_eq_of_mem_set hq with k | k
  · exact h.ok q k
  · rw [k]; exact h'
theorem View.wr (h : View ps i p) {p' : Pr} {j o : Nat} {v : Value} (hc : p'.cells = p.cells.set j v) (ho : o = i * 70 + j) (h70 : j < 70 := by omega) : (ps.flatMap Pr.cells).set o v = (ps.set i p').flatMap Pr.cells := by
  rw [ho]; exact flatS_set ps (fun q hq => (h.ok q hq).cells) i j v p' h.lt h70 (by rw [h.eq]; exact hc)
theorem View.len (h : View ps i p) : (ps.flatMap Pr.cells).length = ps.length * 70 := flatMap_len70 ps (fun q hq => (h.ok q hq).cells)
theorem View.len70 (h : View ps i p) : i * 70 + 70 ≤ (ps.flatMap Pr.cells).length := by
  have := Nat.mul_le_mul_right 70 h.lt
  rw [h.len]; omega
def noneC : List Value := [.int .u64 0, .int .i64 0, .int .i64 0, .slice none 0 0]
def Pr.pop (p : Pr) : Pr := { p with items := putL p.items (p.first * 4) noneC, first := (p.first + 1) % 16, count := p.count - 1 }
theorem Pr.Ok.none {p : Pr} (h : p.Ok) : ({ p with items := putL p.items (p.first * 4) noneC } : Pr).Ok := by
  have hl := h.len
  have hf := h.f16
  refine ⟨by simp only; rw [putL_len (by simp [noneC]; omega)]; exact hl, ?_, h.f16, h.c16⟩
  intro v hv
  simp only [putL, List.mem_append] at hv
  rcases hv with (hv | hv) | hv
  · exact h.one v (List.mem_of_mem_take hv)
  · simp only [noneC, List.mem_cons, List.not_mem_nil, or_false] at hv
    rcases hv with rfl | rfl | rfl | rfl <;> rfl
  · exact h.one v (List.mem_of_mem_drop hv)
set_option maxRecDepth 100000 in
set_option maxHeartbeats 1000000 in
theorem pop_s {n : Nat} {k a : Int} {da : Option Addr} {dn dc : Nat} (H : Holds s w (row 143 70 (.slice (some ⟨g, 0, none⟩) ps.length c) ps.length (ps.flatMap Pr.cells) :: R)) (hv : View ps i p) (hc : 0 < p.count) (ho : o = 0 + i * 70 + 4) (hit : (p.items.drop (p.first * 4)).take 4 = askC n k a (.slice da dn dc)) :
    Calls Try.prog 67 #[.pointer (some ⟨g, o, none⟩)] w fun e w' => e = .returned (.agg #[.int .u64 (n : Int), .int .i64 k, .int .i64 a, .slice da dn dc]) ∧ Holds s w' (row 143 70 (.slice (some ⟨g, 0, none⟩) ps.length c) ps.length ((ps.set i p.pop).flatMap Pr.cells) :: R) := by
  have hok := hv.pok
  have hl := hok.len
  have h16 := hok.f16
  have hc16 := hok.c16
  have hl70 := hv.len70
  have hf : (ps.flatMap Pr.cells)[o + 64]? = some (.int .i64 (p.first : Int)) := hv.get (Pr.get_first hok) (by omega)
  have hitem : ((ps.flatMap Pr.cells).drop (o + 0 + p.first * 4)).take 4 = [.int .u64 (n : Int), .int .i64 k, .int .i64 a, .slice da dn dc] := by
    have := flatS_part ps (fun q hq => (hv.ok q hq).cells) i (4 + p.first * 4) 4 hv.lt (by omega)
    rw [show o + 0 + p.first * 4 = i * 70 + (4 + p.first * 4) by omega, this, hv.eq, Pr.item hok (by omega), hit]; rfl
  obtain ⟨p1, hp1⟩ : ∃ p1 : Pr, p1 = { p with items := putL p.items (p.first * 4) noneC } := ⟨_, rfl⟩
  have hok1 : p1.Ok := by rw [hp1]; exact hok.none
  have hput : putL (ps.flatMap Pr.cells) (o + 0 + p.first * 4) noneC = (ps.set i p1).flatMap Pr.cells := by
    have := flatS_put ps (fun q hq => (hv.ok q hq).cells) i (4 + p.first * 4) noneC p1 hv.lt (by simp [noneC]; omega) (by rw [hv.eq, hp1]; exact Pr.put_item hok (by simp [noneC]; omega))
    rw [← this]; congr 1; omega
  have hv1 := hv.set hok1
  have ef : p1.first = p.first := by rw [hp1]
  have ec : p1.count = p.count := by rw [hp1]
  have hf1 : ((ps.set i p1).flatMap Pr.cells)[o + 64]? = some (.int .i64 (p.first : Int)) := by rw [← ef]; exact hv1.get (Pr.get_first hok1) (by omega)
  have hrem : ((p.first : Int) + 1).tmod 16 = (((p.first + 1) % 16 : Nat) : Int) := by
    rw [Int.tmod_eq_emod_of_nonneg (by omega)]; omega
  have hm : (p.first + 1) % 16 < 16 := Nat.mod_lt _ (by decide)
  obtain ⟨p2, hp2⟩ : ∃ p2 : Pr, p2 = { p1 with first := (p.first + 1) % 16 } := ⟨_, rfl⟩
  have hok2 : p2.Ok := by rw [hp2]; exact ⟨hok1.len, hok1.one, hm, hok1.c16⟩
  have hset2 : ((ps.set i p1).flatMap Pr.cells).set (o + 64) (.int .i64 (((p.first + 1) % 16 : Nat) : Int)) = (ps.set i p2).flatMap Pr.cells := by
    have := hv1.wr (p' := p2) (j := 68) (o := o + 64) (v := .int .i64 (((p.first + 1) % 16 : Nat) : Int)) (by rw [hp2]; exact Pr.set_first hok1 _) (by omega)
    rw [this, List.set_set]
  have hv2 : View (ps.set i p2) i p2 := hv.set hok2
  have hc2 : ((ps.set i p2).flatMap Pr.cells)[o + 65]? = some (.int .i64 (p.count : Int)) := by
    rw [show p.count = p2.count by rw [hp2, ← ec]]; exact hv2.get (Pr.get_count hok2) (by omega)
  have hset3 : ((ps.set i p2).flatMap Pr.cells).set (o + 65) (.int .i64 ((p.count : Int) - 1)) = (ps.set i p.pop).flatMap Pr.cells := by
    have := hv2.wr (p' := p.pop) (j := 69) (o := o + 65) (v := .int .i64 ((p.count - 1 : Nat) : Int)) (by
      rw [← Pr.set_count hok2, hp2, hp1]; rfl) (by omega)
    rw [List.set_set, show ((p.count - 1 : Nat) : Int) = (p.count : Int) - 1 by omega] at this
    exact this
  have l1 := hv1.len70
  have l2 := hv2.len70
  refine enter Try.func67 rfl Try.ntmps67 rfl ?_
  repeat' (first | refine Z H ?_ | (refine Zc ?_ ?_ <;> intro hc <;> first | (exfalso; omega) | skip) | (refine Y ?_; try change C _ _ _ _ _ _) | (refine Zs H ?_; clear H; (try clear w); intro w H) | (refine Zn H ?_; clear H; (try clear w); intro _ w H) | (refine Ze H ?_; clear H; (try clear w); intro gv w H))
  refine C.drawn1 [0, 0, 0, 0, 1, 0, 0, 0, 1, 2, 3] [0, 0, 2, 6, 14, 1, 33, 127, 255, 0, 1023] (by kernel_rfl) ?_; replace H := H.drew
  repeat' (first | (refine X.rdp H ?_) | refine Z H ?_ | (refine Zc ?_ ?_ <;> intro hc <;> first | (exfalso; omega) | skip) | (refine Y ?_; try change C _ _ _ _ _ _) | (refine Zs H ?_; clear H; (try clear w); intro w H) | (refine Zn H ?_; clear H; (try clear w); intro _ w H) | (refine Ze H ?_; clear H; (try clear w); intro gv w H))
  refine C.drawn1 [0, 0, 0, 0, 1, 1, 0, 0, 0, 3] [0, 0, 2, 6, 14, 0, 1, 65, 255, 511] (by kernel_rfl) ?_; replace H := H.drew
  repeat' (first | (refine X.rstp (ys := noneC) H ?_ (h1 := by simp [noneC, Value.oneCell']); clear H; (try clear w); intro w H; rw [hput] at H) | (refine K.rem rfl rfl rfl rfl (by decide) ?_; rw [hrem]) | refine Z H ?_ | (refine Zc ?_ ?_ <;> intro hc <;> first | (exfalso; omega) | skip) | (refine Y ?_; try change C _ _ _ _ _ _) | (refine Zs H ?_; clear H; (try clear w); intro w H) | (refine Zn H ?_; clear H; (try clear w); intro _ w H) | (refine Ze H ?_; clear H; (try clear w); intro gv w H))
  rw [hset2] at H
  repeat' (first | refine Z H ?_ | (refine Zc ?_ ?_ <;> intro hc <;> first | (exfalso; omega) | skip) | (refine Y ?_; try change C _ _ _ _ _ _) | (refine Zs H ?_; clear H; (try clear w); intro w H) | (refine Zn H ?_; clear H; (try clear w); intro _ w H) | (refine Ze H ?_; clear H; (try clear w); intro gv w H))
  rw [hset3] at H
  exact ⟨_, resC 2 H rfl rfl rfl rfl, rfl, H.arr⟩
end
end Go.Proofs.Ytmcojfpomejnnaa
set_option linter.unusedSimpArgs false
set_option linter.unusedVariables false
namespace Go.Proofs.Ytmcojfpomejnnaa
open Go Go.RowKit Go.Own
/-- a request that waits -/
structure Rq where
  n : Nat
  kind : Int
  at_ : Int
  data : List UInt8
structure PM where
  ext : Option Ext
  room : Int
  last : Nat
  served : Nat
  q : List Rq
structure SM where
  parts : List PM
  slots : List Int
  next : Nat
def formedM (k a : Int) (n : Nat) : Bool := if k = 1 then decide (n = 64) else if k = 2 then decide (a = 0 ∧ n = 0) else if k = 0 then decide (n = 0) else false
def askP (p : PM) (k a : Int) (data : List UInt8) : PM × Nat × Int :=
  match p.ext with
  | none => (p, 0, 6)
  | some x =>
    if formedM k a data.length = false then (p, 0, 1)
    else if k ≠ 2 ∧ (a < 0 ∨ x.2 ≤ a) then (p, 0, 4)
    else if p.room ≤ (p.q.length : Int) then (p, 0, 5)
    else ({ p with last := p.last + 1, q := p.q ++ [⟨p.last + 1, k, a, data⟩] }, p.last + 1, 0)
def SM.ask (m : SM) (i : Int) (k a : Int) (data : List UInt8) : SM × Nat × Int :=
  if 0 ≤ i then match m.parts[i.toNat]? with
    | none => (m, 0, 6)
    | some p => ({ m with parts := m.parts.set i.toNat (askP p k a data).1 }, (askP p k a data).2)
  else (m, 0, 6)
def Rq.ok (r : Rq) : Prop := (0 ≤ r.kind ∧ r.kind ≤ 2) ∧ I64 r.at_ ∧ r.data.length ≤ 1000
/-- a partition lies in memory as its model says; b: the disk's block -/
structure PRep (s : Ro) (b : Nat) (p : Pr) (m : PM) : Prop where
  ok : p.Ok
  pv : (m.ext = none ∧ p.pv = none ∧ m.q = []) ∨ ∃ x bp, m.ext = some x ∧ p.pv = some bp ∧ PartS s bp b x
  room : p.room = m.room
  r1 : 1 ≤ m.room ∧ m.room ≤ 16
  last : p.last = m.last
  served : p.served = m.served
  cnt : p.count = m.q.length
  qok : ∀ r ∈ m.q, r.ok
  its : ∀ k (h : k < m.q.length), ∃ da dc, (p.items.drop ((p.first + k) % 16 * 4)).take 4 = askC m.q[k].n m.q[k].kind m.q[k].at_ (.slice da m.q[k].data.length dc) ∧ SlS s (.slice da m.q[k].data.length dc) 1 m.q[k].data.length (u8s m.q[k].data)
theorem PRep.mono {s s' : Ro} {b : Nat} {p : Pr} {m : PM} (h : PRep s b p m) (hs : s.Le s') : PRep s' b p m := by
  refine ⟨h.ok, h.pv.imp id fun ⟨x, bp, h1, h2, h3⟩ => ⟨x, bp, h1, h2, h3.mono hs⟩, h.room, h.r1, h.last, h.served, h.cnt, h.qok, fun k hk => ?_⟩
  obtain ⟨da, dc, h1, h2⟩ := h.its k hk
  exact ⟨da, dc, h1, h2.mono hs⟩
structure SRep (s : Ro) (b : Nat) (ps : List Pr) (m : SM) : Prop where
  len : ps.length = m.parts.length
  all : ∀ i (h : i < ps.length) (h' : i < m.parts.length), PRep s b ps[i] m.parts[i]
  few : m.parts.length ≤ 8
  sln : m.slots.length ≤ 32
  nxt : m.next < m.slots.length ∨ (m.slots = [] ∧ m.next = 0)
  slv : ∀ v ∈ m.slots, -1 ≤ v ∧ v < (m.parts.length : Int)
theorem SRep.mono {s s' : Ro} {b : Nat} {ps : List Pr} {m : SM} (h : SRep s b ps m) (hs : s.Le s') : SRep s' b ps m := ⟨h.len, fun i h1 h2 => (h.all i h1 h2).mono hs, h.few, h.sln, h.nxt, h.slv⟩
theorem SRep.oks {s : Ro} {b : Nat} {ps : List Pr} {m : SM} (h : SRep s b ps m) : ∀ q ∈ ps, q.Ok := by
  intro q hq
  obtain ⟨i, hi, rfl⟩ := List.mem_iff_getElem.1 hq
  exact (h.all i hi (by rw [← h.len]; exact hi)).ok
theorem SRep.set {s : Ro} {b : Nat} {ps : List Pr} {m : SM} (h : SRep s b ps m) {i : Nat} {p : Pr} {pm : PM} (hp : PRep s b p pm) : SRep s b (ps.set i p) { m with parts := m.parts.set i pm } := by
  refine ⟨by simp [h.len], fun j h1 h2 => ?_, by simp [h.few], h.sln, h.nxt, by simpa using h.slv⟩
  simp only [List.getElem_set]
  split
  · exact hp
  · exact h.all j (by simpa using h1) (by simpa using h2)
/-- the schedule at bS lies in memory as m says, and the pieces rs beside it -/
def Sch (s : Ro) (w : World) (b bS : Nat) (m : SM) (rs : List Asn) : Prop := ∃ va cap sa sc ps, SRep s b ps m ∧ SlS s (.slice sa m.slots.length sc) 1 m.slots.length (m.slots.map (Value.int .i64)) ∧
  Holds s w (var bS 136 [.slice va ps.length cap, .slice sa m.slots.length sc, .int .i64 (m.next : Int)] :: row 143 70 (.slice va ps.length cap) ps.length (ps.flatMap Pr.cells) :: rs)
section
variable {s : Ro} {w : World} {R : List Asn} {b bS : Nat} {m : SM} {k a i : Int} {da : Option Addr} {dc : Nat} {l : List UInt8}
theorem formed_t {k a : Int} {n : Nat} (h : k = 1 ∧ n = 64 ∨ k = 2 ∧ a = 0 ∧ n = 0 ∨ k = 0 ∧ n = 0) : formedM k a n = true := by
  unfold formedM
  rcases h with ⟨rfl, h⟩ | ⟨rfl, h⟩ | ⟨rfl, h⟩
  · simpa using h
  · rw [if_neg (by decide), if_pos rfl]; simpa using h
  · rw [if_neg (by decide), if_neg (by decide), if_pos rfl]; simpa using h
theorem formed_f {k a : Int} {n : Nat} (h : ¬ (k = 1 ∧ n = 64 ∨ k = 2 ∧ a = 0 ∧ n = 0 ∨ k = 0 ∧ n = 0)) : formedM k a n = false := by
  unfold formedM
  split
  · rw [decide_eq_false (by omega)]
  · split
    · rw [decide_eq_false (by omega)]
    · split
      · rw [decide_eq_false (by omega)]
      · rfl
theorem formed_s (H : Holds s w R) : Calls Try.prog 64 #[.agg #[.int .i64 k, .int .i64 a, .slice da l.length dc]] w fun e w' => e = .returned (.bool (formedM k a l.length)) ∧ Holds s w' R := by
  refine enter Try.func64 rfl Try.ntmps64 rfl ?_
  repeat' (first | refine Z H ?_ | (refine Zc ?_ ?_ <;> intro hc <;> first | (exfalso; omega) | skip) | (refine Y ?_; try change C _ _ _ _ _ _) | (refine Zs H ?_; clear H; (try clear w); intro w H) | (refine Zn H ?_; clear H; (try clear w); intro _ w H) | (refine Ze H ?_; clear H; (try clear w); intro gv w H))
  all_goals
    refine ⟨_, resT rfl, ?_, H.tail⟩
    first
      | rw [formed_t (by omega)]; rfl
      | rw [formed_f (by omega)]; rfl
theorem isPart_s {v1 v2 : Value} {va : Option Addr} {n c : Nat} (hn : n ≤ 8) (H : Holds s w (var bS 136 [.slice va n c, v1, v2] :: R)) : Calls Try.prog 63 #[.pointer (some ⟨bS, 0, none⟩), .int .i64 i] w fun e w' => e = .returned (.bool (decide (0 ≤ i ∧ i < (n : Int)))) ∧ Holds s w' (var bS 136 [.slice va n c, v1, v2] :: R) := by
  refine enter Try.func63 rfl Try.ntmps63 rfl ?_
  repeat' (first | refine Z H ?_ | (refine Zc ?_ ?_ <;> intro hc <;> first | (exfalso; omega) | skip) | (refine Y ?_; try change C _ _ _ _ _ _) | (refine Zs H ?_; clear H; (try clear w); intro w H) | (refine Zn H ?_; clear H; (try clear w); intro _ w H) | (refine Ze H ?_; clear H; (try clear w); intro gv w H))
  all_goals
    refine ⟨_, resT rfl, ?_, H⟩
    first
      | rw [decide_eq_true (by omega)]; rfl
      | rw [decide_eq_false (by omega)]; rfl
def SM.waiting (m : SM) (i : Int) : Nat := if 0 ≤ i then ((m.parts[i.toNat]?).map fun p => p.q.length).getD 0 else 0
end
end Go.Proofs.Ytmcojfpomejnnaa

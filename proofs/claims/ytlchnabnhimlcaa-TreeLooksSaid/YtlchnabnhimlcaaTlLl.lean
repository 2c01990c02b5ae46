/- nacelleref17, walked exactly: Read. Strings in order. slices.Sort of a few strings, walked: they come in order. -/
import Derived.Test.YtlchnabnhimlcaaTlLk
import Derived.Test.YtlchnabnhimlcaaTlTr
set_option linter.unusedSimpArgs false
set_option linter.unusedVariables false
namespace Go.Proofs.Ytlchnabnhimlcaa
open Go Go.RowKit Go.Own
theorem read_take {t : TR} {f o k : Nat} {n size : Int} (hs : size = (t.n f).size) (h0 : 0 ≤ (t.n f).size) (hn : n = k) (ho : o ≤ (t.n f).size.toNat) : (List.range (least n (size - o)).toNat).map (fun i => peekM t f (o + i)) = ((bytesOf t f).drop o).take k := by
  subst hs
  subst hn
  unfold bytesOf
  rw [← List.map_drop, ← List.map_take]
  have e : (List.range (t.n f).size.toNat).drop o = (List.range ((t.n f).size.toNat - o)).map (o + ·) := by
    refine List.ext_getElem? (fun i => ?_)
    rw [List.getElem?_drop, List.getElem?_map]
    by_cases h : o + i < (t.n f).size.toNat
    · rw [List.getElem?_range h, List.getElem?_range (show i < (t.n f).size.toNat - o by omega)]
      rfl
    · rw [List.getElem?_eq_none (by rw [List.length_range]; omega), List.getElem?_eq_none (by rw [List.length_range]; omega)]
      rfl
  rw [e, ← List.map_take, List.map_map, List.take_range]
  have e2 : (least ((k : Nat) : Int) ((t.n f).size - o)).toNat = min k ((t.n f).size.toNat - o) := by
    unfold least
    split <;> omega
  rw [e2]
  rfl
section
variable {w : World} {s : Ro} {R : List Asn} {p : Str} {m : List RN} {t : TR}
set_option maxRecDepth 100000 in
set_option maxHeartbeats 1000000 in
theorem Read_x {at_ n : Int} (H : Holds s w R) (hD : Doc s m t) (hW : WF t) (hc : checkM t = true) (hl : p.length ≤ 140737488355328) : Calls Try.prog 23 #[.agg (rcells m).toArray, .string ⟨p.toArray⟩, .int .i64 at_, .int .i64 n] w fun e w' => e = .returned (.tuple #[.string ⟨(readM t p at_ n).1.toArray⟩, .int .i64 (readM t p at_ n).2]) ∧ Holds s w' R := by
  have hm8 := hD.l8
  have hm32 := rcells_len hm8
  have hm0 : readM t p at_ n = readM t p at_ n := rfl
  conv at hm0 => rhs; unfold readM
  rw [if_neg (by rw [hc]; decide)] at hm0
  refine enter Try.func23 rfl Try.ntmps23 rfl ?_
  repeat' (first | (refine X.lenL ?_) | (refine X.lv H ?_) | (refine X.lw H ?_) | (refine X.lp H ?_) | (refine X.stR H ?_; clear H; (try clear w); intro w H) | (refine X.eqL ?_ ?_ <;> intro hc <;> first | (exfalso; first | exact absurd hc (by assumption) | exact absurd (by assumption) hc) | skip) | refine Z H ?_ | (refine Zc ?_ ?_ <;> intro hc <;> first | (exfalso; omega) | skip) | (refine Y ?_; try change C _ _ _ _ _ _) | (refine Zs H ?_; clear H; (try clear w); intro w H) | (refine Zn H ?_; clear H; (try clear w); intro _ w H) | (refine Ze H ?_; clear H; (try clear w); intro gv w H))
  (refine X.call (File_x (p := p) H hD hW hl) ?_; (try clear H); rintro _ w ⟨f, hf, rfl, hko, H⟩; refine ⟨_, rfl, ?_⟩)
  by_cases her : (kindOfM t p 2).2 = 0
  rotate_left
  · rw [if_pos her] at hm0
    repeat' (first | (refine X.lenL ?_) | (refine X.lv H ?_) | (refine X.lw H ?_) | (refine X.lp H ?_) | (refine X.stR H ?_; clear H; (try clear w); intro w H) | (refine X.eqL ?_ ?_ <;> intro hc <;> first | (exfalso; first | exact absurd hc (by assumption) | exact absurd (by assumption) hc) | skip) | refine Z H ?_ | (refine Zc ?_ ?_ <;> intro hc <;> first | (exfalso; omega) | skip) | (refine Y ?_; try change C _ _ _ _ _ _) | (refine Zs H ?_; clear H; (try clear w); intro w H) | (refine Zn H ?_; clear H; (try clear w); intro _ w H) | (refine Ze H ?_; clear H; (try clear w); intro gv w H))
    exact ⟨_, resTT rfl, by rw [hm0]; rfl, H.tail⟩
  obtain ⟨hko1, hfk, hk2⟩ := hko her
  rw [if_neg (by simpa using her), hko1, Int.toNat_natCast] at hm0
  rw [hko1] at her ⊢
  by_cases h1 : at_ < 0
  · rw [if_pos (.inl h1)] at hm0
    repeat' (first | (refine X.lenL ?_) | (refine X.lv H ?_) | (refine X.lw H ?_) | (refine X.lp H ?_) | (refine X.stR H ?_; clear H; (try clear w); intro w H) | (refine X.eqL ?_ ?_ <;> intro hc <;> first | (exfalso; first | exact absurd hc (by assumption) | exact absurd (by assumption) hc) | skip) | refine Z H ?_ | (refine Zc ?_ ?_ <;> intro hc <;> first | (exfalso; omega) | skip) | (refine Y ?_; try change C _ _ _ _ _ _) | (refine Zs H ?_; clear H; (try clear w); intro w H) | (refine Zn H ?_; clear H; (try clear w); intro _ w H) | (refine Ze H ?_; clear H; (try clear w); intro gv w H))
    exact ⟨_, resTT rfl, by rw [hm0]; rfl, H.tail⟩
  by_cases h2 : n < 0
  · rw [if_pos (.inr h2)] at hm0
    repeat' (first | (refine X.lenL ?_) | (refine X.lv H ?_) | (refine X.lw H ?_) | (refine X.lp H ?_) | (refine X.stR H ?_; clear H; (try clear w); intro w H) | (refine X.eqL ?_ ?_ <;> intro hc <;> first | (exfalso; first | exact absurd hc (by assumption) | exact absurd (by assumption) hc) | skip) | refine Z H ?_ | (refine Zc ?_ ?_ <;> intro hc <;> first | (exfalso; omega) | skip) | (refine Y ?_; try change C _ _ _ _ _ _) | (refine Zs H ?_; clear H; (try clear w); intro w H) | (refine Zn H ?_; clear H; (try clear w); intro _ w H) | (refine Ze H ?_; clear H; (try clear w); intro gv w H))
    exact ⟨_, resTT rfl, by rw [hm0]; rfl, H.tail⟩
  rw [if_neg (fun h => h.elim h1 h2)] at hm0
  obtain ⟨o, rfl⟩ : ∃ o : Nat, at_ = o := ⟨at_.toNat, by omega⟩
  obtain ⟨k, rfl⟩ : ∃ k : Nat, n = k := ⟨n.toNat, by omega⟩
  have hsz := file_size hW hf hk2
  have hdlen : (bytesOf t f).length = (t.n f).size.toNat := bytesOf_len
  have hdata : (rn m f).data = bytesOf t f := (hD.nd f hf).d
  have c2 := rcell hm8 hf 2 _ rfl
  rw [hdata] at c2
  by_cases h3 : (bytesOf t f).length < o
  · rw [if_pos (by omega)] at hm0
    repeat' (first | (refine K.iaA (i := f) rfl rfl rfl rfl rfl hf ?_) | (refine X.lenL ?_) | (refine X.lv H ?_) | (refine X.lw H ?_) | (refine X.lp H ?_) | (refine X.stR H ?_; clear H; (try clear w); intro w H) | (refine X.eqL ?_ ?_ <;> intro hc <;> first | (exfalso; first | exact absurd hc (by assumption) | exact absurd (by assumption) hc) | skip) | refine Z H ?_ | (refine Zc ?_ ?_ <;> intro hc <;> first | (exfalso; omega) | skip) | (refine Y ?_; try change C _ _ _ _ _ _) | (refine Zs H ?_; clear H; (try clear w); intro w H) | (refine Zn H ?_; clear H; (try clear w); intro _ w H) | (refine Ze H ?_; clear H; (try clear w); intro gv w H))
    exact ⟨_, resTT rfl, by rw [hm0]; rfl, H.tail⟩
  have hres : readM t p o k = (((bytesOf t f).drop o).take k, 0) := by
    rw [hm0]
    by_cases h4 : (t.n f).size ≤ (o : Int)
    · rw [if_pos h4, List.drop_of_length_le (by omega), List.take_nil]
    · rw [if_neg h4, Int.toNat_natCast, read_take rfl hsz.1 rfl (by omega)]
  rw [hres]
  have hdl : ((bytesOf t f).drop o).length = (bytesOf t f).length - o := List.length_drop
  by_cases h5 : k < (bytesOf t f).length - o
  · repeat' (first | (refine K.iaA (i := f) rfl rfl rfl rfl rfl hf ?_) | (refine X.from (l := bytesOf t f) o ?_ rfl (by omega)) | (refine X.upto (l := (bytesOf t f).drop o) k ?_ rfl (by omega)) | (refine X.lenL ?_) | (refine X.lv H ?_) | (refine X.lw H ?_) | (refine X.lp H ?_) | (refine X.stR H ?_; clear H; (try clear w); intro w H) | (refine X.eqL ?_ ?_ <;> intro hc <;> first | (exfalso; first | exact absurd hc (by assumption) | exact absurd (by assumption) hc) | skip) | refine Z H ?_ | (refine Zc ?_ ?_ <;> intro hc <;> first | (exfalso; omega) | skip) | (refine Y ?_; try change C _ _ _ _ _ _) | (refine Zs H ?_; clear H; (try clear w); intro w H) | (refine Zn H ?_; clear H; (try clear w); intro _ w H) | (refine Ze H ?_; clear H; (try clear w); intro gv w H))
    exact ⟨_, resTT rfl, rfl, H.tail⟩
  · rw [List.take_of_length_le (by omega)]
    repeat' (first | (refine K.iaA (i := f) rfl rfl rfl rfl rfl hf ?_) | (refine X.from (l := bytesOf t f) o ?_ rfl (by omega)) | (refine X.lenL ?_) | (refine X.lv H ?_) | (refine X.lw H ?_) | (refine X.lp H ?_) | (refine X.stR H ?_; clear H; (try clear w); intro w H) | (refine X.eqL ?_ ?_ <;> intro hc <;> first | (exfalso; first | exact absurd hc (by assumption) | exact absurd (by assumption) hc) | skip) | refine Z H ?_ | (refine Zc ?_ ?_ <;> intro hc <;> first | (exfalso; omega) | skip) | (refine Y ?_; try change C _ _ _ _ _ _) | (refine Zs H ?_; clear H; (try clear w); intro w H) | (refine Zn H ?_; clear H; (try clear w); intro _ w H) | (refine Ze H ?_; clear H; (try clear w); intro gv w H))
    exact ⟨_, resTT rfl, rfl, H.tail⟩
end
abbrev ltB (a b : Str) : Bool := Op.bytesLess a b
theorem ltB_irrefl : ∀ a : Str, ltB a a = false
  | [] => rfl
  | x :: a => by
    show Op.bytesLess (x :: a) (x :: a) = false
    rw [Op.bytesLess, show Op.bytesLess a a = false from ltB_irrefl a]
    simp
theorem ltB_nil (a : Str) : ltB a [] = false := by cases a <;> rfl
theorem ltB_cons {x y : UInt8} {a b : Str} : ltB (x :: a) (y :: b) = true ↔ x.toNat < y.toNat ∨ (x = y ∧ ltB a b = true) := by
  show Op.bytesLess (x :: a) (y :: b) = true ↔ _
  rw [Op.bytesLess, Bool.or_eq_true, Bool.and_eq_true, decide_eq_true_eq, beq_iff_eq, UInt8.lt_iff_toNat_lt]
theorem ltB_trans : ∀ {a b c : Str}, ltB a b = true → ltB b c = true → ltB a c = true
  | a, [], _, h, _ => by
    rw [ltB_nil] at h
    cases h
  | _, _ :: _, [], _, h => by cases h
  | [], _ :: _, _ :: _, _, _ => rfl
  | x :: a, y :: b, z :: c, h1, h2 => by
    rw [ltB_cons] at h1 h2 ⊢
    rcases h1 with h1 | ⟨rfl, h1⟩
    · rcases h2 with h2 | ⟨rfl, h2⟩
      · exact .inl (by omega)
      · exact .inl h1
    · rcases h2 with h2 | ⟨rfl, h2⟩
      · exact .inl h2
      · exact .inr ⟨rfl, ltB_trans h1 h2⟩
theorem ltB_total : ∀ {a b : Str}, a ≠ b → ltB a b = false → ltB b a = true
  | [], [], h, _ => absurd rfl h
  | [], _ :: _, _, h => by cases h
  | _ :: _, [], _, _ => rfl
  | x :: a, y :: b, h, h2 => by
    rw [ltB_cons]
    have h3 : ¬ (x.toNat < y.toNat ∨ (x = y ∧ ltB a b = true)) := fun h => by rw [← ltB_cons, h2] at h; cases h
    by_cases e : x = y
    · subst e
      refine .inr ⟨rfl, ltB_total (fun e => h (by rw [e])) ?_⟩
      rw [Bool.eq_false_iff]
      exact fun h => h3 (.inr ⟨rfl, h⟩)
    · left
      have : x.toNat ≠ y.toNat := fun h => e (UInt8.toNat_inj.1 h)
      have h4 : ¬ x.toNat < y.toNat := fun h => h3 (.inl h)
      omega
theorem ltB_asymm {a b : Str} (h : ltB a b = true) : ltB b a = false := by
  rw [Bool.eq_false_iff]
  intro h2
  have := ltB_trans h h2
  rw [ltB_irrefl] at this
  cases this
/-- into a list that is in order -/
def insB (x : Str) : List Str → List Str
  | [] => [x]
  | y :: r => if ltB y x = true then y :: insB x r else x :: y :: r
def Sorted (l : List Str) : Prop := l.Pairwise fun a b => ltB a b = true
theorem mem_insB {x y : Str} : ∀ {l : List Str}, y ∈ insB x l ↔ y = x ∨ y ∈ l
  | [] => by rw [insB]; simp
  | z :: r => by
    rw [insB]
    split
    · rw [List.mem_cons, mem_insB, List.mem_cons]
      exact ⟨fun h => h.elim (fun h => .inr (.inl h)) (fun h => h.elim .inl (fun h => .inr (.inr h))), fun h => h.elim (fun h => .inr (.inl h)) (fun h => h.elim .inl (fun h => .inr (.inr h)))⟩
    · rw [List.mem_cons]
theorem len_insB {x : Str} : ∀ {l : List Str}, (insB x l).length = l.length + 1
  | [] => rfl
  | z :: r => by
    rw [insB]
    split
    · rw [List.length_cons, len_insB, List.length_cons]
    · rfl
theorem insB_sorted {x : Str} : ∀ {l : List Str}, Sorted l → x ∉ l → Sorted (insB x l)
  | [], _, _ => by rw [insB]; exact List.pairwise_singleton _ _
  | z :: r, h, hx => by
    obtain ⟨h1, h2⟩ := List.pairwise_cons.1 h
    rw [insB]
    split
    · rename_i hz
      refine List.pairwise_cons.2 ⟨fun y hy => ?_, insB_sorted h2 (fun h => hx (List.mem_cons_of_mem _ h))⟩
      rcases mem_insB.1 hy with rfl | hy
      · exact hz
      · exact h1 y hy
    · rename_i hz
      have hxz : ltB x z = true := ltB_total (fun e => hx (by rw [e]; exact List.mem_cons_self)) (by simpa using hz)
      refine List.pairwise_cons.2 ⟨fun y hy => ?_, h⟩
      rcases List.mem_cons.1 hy with rfl | hy
      · exact hxz
      · exact ltB_trans hxz (h1 y hy)
/-- its place: those ahead are less, those behind are not -/
theorem insB_at {x : Str} : ∀ {a b : List Str}, (∀ y ∈ a, ltB y x = true) → (∀ y, b[0]? = some y → ltB y x = false) → insB x (a ++ b) = a ++ x :: b
  | [], [], _, _ => rfl
  | [], y :: b, _, h => by
    rw [List.nil_append, insB, if_neg (by rw [h y rfl]; decide)]
    rfl
  | z :: a, b, h1, h2 => by
    rw [List.cons_append, insB, if_pos (h1 z List.mem_cons_self), insB_at (fun y hy => h1 y (List.mem_cons_of_mem _ hy)) h2]
    rfl
def sortB (l : List Str) : List Str := l.foldl (fun r x => insB x r) []
theorem sort_snoc {l : List Str} {x : Str} : sortB (l ++ [x]) = insB x (sortB l) := by
  unfold sortB
  rw [List.foldl_append]
  rfl
theorem mem_sortB {y : Str} (l : List Str) : y ∈ sortB l ↔ y ∈ l := by
  have key : ∀ (l r : List Str), y ∈ l.foldl (fun r x => insB x r) r ↔ y ∈ l ∨ y ∈ r := by
    intro l
    induction l with
    | nil => intro r; simp
    | cons x l ih =>
      intro r
      rw [List.foldl_cons, ih, mem_insB, List.mem_cons]
      exact ⟨fun h => h.elim (fun h => .inl (.inr h)) (fun h => h.elim (fun h => .inl (.inl h)) .inr), fun h => h.elim (fun h => h.elim (fun h => .inr (.inl h)) .inl) (fun h => .inr (.inr h))⟩
  have := key l []
  simpa [sortB] using this
theorem len_sortB (l : List Str) : (sortB l).length = l.length := by
  have key : ∀ (l r : List Str), (l.foldl (fun r x => insB x r) r).length = l.length + r.length := by
    intro l
    induction l with
    | nil => intro r; simp
    | cons x l ih => intro r; rw [List.foldl_cons, ih, len_insB, List.length_cons]; omega
  have := key l []
  simpa [sortB] using this
theorem sort_take {l : List Str} (hd : l.Nodup) : ∀ i, i ≤ l.length → Sorted (sortB (l.take i))
  | 0, _ => List.Pairwise.nil
  | i + 1, h => by
    have e : l.take (i + 1) = l.take i ++ [l[i]] := by rw [List.take_add_one, List.getElem?_eq_getElem (by omega)]; rfl
    rw [e, sort_snoc]
    refine insB_sorted (sort_take hd i (by omega)) (fun hm => ?_)
    rw [mem_sortB] at hm
    obtain ⟨j, hj, hx⟩ := List.getElem_of_mem hm
    have hj2 : j < i := by have := hj; rw [List.length_take] at this; omega
    rw [List.getElem_take] at hx
    exact (List.pairwise_iff_getElem.1 hd) j i (by omega) (by omega) hj2 hx
end Go.Proofs.Ytlchnabnhimlcaa
set_option linter.unusedSimpArgs false
set_option linter.unusedVariables false
namespace Go.Proofs.Ytlchnabnhimlcaa
open Go Go.RowKit Go.Own
section
variable {P : Program} {n : Nat} {ops : Array Oper} {Q : Post} {rest : List Oper} {e : Env} {w : World} {tt : Nat} {pp : String} {af : Array Edge} {g : Option (Nat × Bool)} {d : Nat}
theorem X.lssL {x y : Operand} {t u : TypeId} {a b : List UInt8} (h : L P n ops Q rest (upd e d (.bool (ltB a b))) w) (hw : wg n ops g e = true := by rfl) (hd : Nat.blt d n = true := by rfl) (hx : ev e x = .string ⟨a.toArray⟩ := by rfl) (hy : ev e y = .string ⟨b.toArray⟩ := by rfl) : L P n ops Q (⟨some d, .binOp .lss t x y u, tt, pp, af, g⟩ :: rest) e w :=
  L.val (o := ⟨some d, .binOp .lss t x y u, tt, pp, af, g⟩) _ w hw hd (by
    unfold execOp
    simp [hx, hy, eqGuard, binOp, Op.stringOp, ByteArray.toList_eq]) h
end
theorem X.sidxA {P : Program} {n : Nat} {ops : Array Oper} {Q : Post} {rest : List Oper} {e : Env} {w : World} {tt : Nat} {pp : String} {af : Array Edge} {g : Option (Nat × Bool)} {d : Nat} {x y : Operand} {t : TypeId} [T : StrC P t] {l : List UInt8} {k : IntKind} {ii : Int} (i : Nat) (h : ∀ ch : UInt8, L P n ops Q rest (upd e d (.int .u8 (ch.toNat : Int))) w) (hw : wg n ops g e = true := by rfl) (hd : Nat.blt d n = true := by rfl) (hx : ev e x = .string ⟨l.toArray⟩ := by rfl) (hy : ev e y = .int k ii := by rfl) (hii : ii = (i : Int) := by first | rfl | omega) (hl : i < l.length := by first | assumption | decide | omega) : L P n ops Q (⟨some d, .index t x y, tt, pp, af, g⟩ :: rest) e w :=
  X.sidx i (h _) hw hd hx hy hii hl
def strL (l : List Str) : List Value := l.map fun x => .string ⟨x.toArray⟩
theorem strL_len (l : List Str) : (strL l).length = l.length := List.length_map ..
theorem strL_get {l : List Str} {i : Nat} {x : Str} (h : l[i]? = some x) : (strL l)[0 + i * 1]? = some (.string ⟨x.toArray⟩) := by
  unfold strL
  rw [Nat.zero_add, Nat.mul_one, List.getElem?_map, h]
  rfl
theorem strL_set {l : List Str} {i : Nat} {x : Str} : (strL l).set (0 + i * 1) (.string ⟨x.toArray⟩) = strL (l.set i x) := by
  unfold strL
  rw [Nat.zero_add, Nat.mul_one, ← List.map_set]
theorem strL_app (a b : List Str) : strL (a ++ b) = strL a ++ strL b := List.map_append
theorem strL_one (l : List Str) : ∀ v ∈ strL l, v.oneCell' = true := by
  intro v hv
  obtain ⟨x, _, rfl⟩ := List.mem_map.1 hv
  rfl
theorem ins_stop {s : List Str} {x : Str} {j : Nat} (hs : Sorted s) (hx : x ∉ s) (hj : j ≤ s.length) (hb : ∀ y, (s.drop j)[0]? = some y → ltB x y = true) (ha : ∀ k, j = k + 1 → ∀ y, s[k]? = some y → ltB x y = false) : s.take j ++ x :: s.drop j = insB x s := by
  conv => rhs; rw [← List.take_append_drop j s]
  refine (insB_at (fun y hy => ?_) (fun y hy => ltB_asymm (hb y hy))).symm
  obtain ⟨q, hq, rfl⟩ := List.getElem_of_mem hy
  rw [List.length_take] at hq
  rw [List.getElem_take]
  have hqs : q < s.length := by omega
  obtain ⟨k, rfl⟩ : ∃ k, j = k + 1 := ⟨j - 1, by omega⟩
  have hk : k < s.length := by omega
  have h1 := ha k rfl s[k] (List.getElem?_eq_getElem hk)
  have h2 : ltB s[k] x = true := ltB_total (fun e => hx (by rw [e]; exact List.getElem_mem _)) h1
  by_cases e : q = k
  · subst e; exact h2
  · exact ltB_trans ((List.pairwise_iff_getElem.1 hs) q k hqs hk (by omega)) h2
/-- two neighbours change places -/
theorem swap_ins {s rest : List Str} {x y : Str} {k : Nat} (hk : s[k]? = some y) : ((s.take (k + 1) ++ x :: s.drop (k + 1) ++ rest).set (k + 1) y).set k x = s.take k ++ x :: s.drop k ++ rest := by
  have hks : k < s.length := (List.getElem?_eq_some_iff.1 hk).1
  have e1 : s.take (k + 1) = s.take k ++ [y] := by rw [List.take_add_one, hk]; rfl
  have e2 : s.drop k = y :: s.drop (k + 1) := by
    rw [List.drop_eq_getElem_cons hks]
    rw [List.getElem?_eq_getElem hks] at hk
    injection hk with hk
    rw [hk]
  have hl : (s.take k).length = k := by rw [List.length_take]; omega
  rw [e1, e2]
  simp only [List.append_assoc, List.cons_append, List.nil_append]
  rw [List.set_append_right _ _ (by omega), hl, show k + 1 - k = 1 by omega]
  simp only [List.set_cons_succ, List.set_cons_zero]
  rw [List.set_append_right _ _ (by omega), hl, Nat.sub_self]
  rfl
theorem get_ins0 {s rest : List Str} {x : Str} {j : Nat} (hj : j ≤ s.length) : (s.take j ++ x :: s.drop j ++ rest)[j]? = some x := by
  have hl : (s.take j).length = j := by rw [List.length_take]; omega
  rw [List.append_assoc, List.getElem?_append_right (by omega), hl, Nat.sub_self]
  rfl
theorem get_ins1 {s rest : List Str} {x y : Str} {k : Nat} (hk : s[k]? = some y) : (s.take (k + 1) ++ x :: s.drop (k + 1) ++ rest)[k]? = some y := by
  have hks : k < s.length := (List.getElem?_eq_some_iff.1 hk).1
  rw [List.append_assoc, List.getElem?_append_left (by rw [List.length_take]; omega), List.getElem?_take_of_lt (by omega), hk]
instance : FunC Try.prog 72 := ⟨⟨_, _, Try.func72, by kernel_rfl, rfl⟩⟩
instance : FunC Try.prog 89 := ⟨⟨_, _, Try.func89, by kernel_rfl, rfl⟩⟩
section
variable {w : World} {s : Ro} {R : List Asn} {a b : Str} {l : List Str} {va : Option Addr} {c : Nat}
set_option maxRecDepth 100000 in
set_option maxHeartbeats 1000000 in
theorem isNaN_s (H : Holds s w R) : Calls Try.prog 97 #[.string ⟨a.toArray⟩] w fun e w' => e = .returned (.bool false) ∧ Holds s w' R := by
  refine enter Try.func97 rfl Try.ntmps97 rfl ?_
  repeat' (first | (refine X.neL (a := a) (b := a) ?_ ?_ <;> intro hc <;> first | (exfalso; exact hc rfl) | skip) | refine Z H ?_ | (refine Zc ?_ ?_ <;> intro hc <;> first | (exfalso; omega) | skip) | (refine Y ?_; try change C _ _ _ _ _ _) | (refine Zs H ?_; clear H; (try clear w); intro w H) | (refine Zn H ?_; clear H; (try clear w); intro _ w H) | (refine Ze H ?_; clear H; (try clear w); intro gv w H))
  exact ⟨_, resT rfl, rfl, H⟩
set_option maxRecDepth 100000 in
set_option maxHeartbeats 1000000 in
theorem Less_s (H : Holds s w R) : Calls Try.prog 85 #[.string ⟨a.toArray⟩, .string ⟨b.toArray⟩] w fun e w' => e = .returned (.bool (ltB a b)) ∧ Holds s w' R := by
  refine enter Try.func85 rfl Try.ntmps85 rfl ?_
  repeat' (first | refine Z H ?_ | (refine Zc ?_ ?_ <;> intro hc <;> first | (exfalso; omega) | skip) | (refine Y ?_; try change C _ _ _ _ _ _) | (refine Zs H ?_; clear H; (try clear w); intro w H) | (refine Zn H ?_; clear H; (try clear w); intro _ w H) | (refine Ze H ?_; clear H; (try clear w); intro gv w H))
  (refine X.call (isNaN_s (a := a) H) ?_; (try clear H); rintro _ w ⟨rfl, H⟩; refine ⟨_, rfl, ?_⟩)
  repeat' (first | (refine X.lssL (a := a) (b := b) ?_) | refine Z H ?_ | (refine Zc ?_ ?_ <;> intro hc <;> first | (exfalso; omega) | skip) | (refine Y ?_; try change C _ _ _ _ _ _) | (refine Zs H ?_; clear H; (try clear w); intro w H) | (refine Zn H ?_; clear H; (try clear w); intro _ w H) | (refine Ze H ?_; clear H; (try clear w); intro gv w H))
  exact ⟨_, resT rfl, rfl, H⟩
theorem Less_e (H : Holds s w R) : Calls Try.prog 85 #[.string ⟨a.toArray⟩, .string ⟨b.toArray⟩] w fun e w' => e = .returned (.bool (ltB a b)) ∧ Only [] w w' ∧ Holds s w' R :=
  (Less_s H.full).mono fun e w' ⟨he, H'⟩ => ⟨he, H.pure0 H'⟩
set_option maxRecDepth 100000 in
set_option maxHeartbeats 1000000 in
theorem Len64_s {x : Nat} (H : Holds s w R) (hx : x < 256) : Calls Try.prog 89 #[.int .u64 (x : Int)] w fun e w' => ∃ k : Int, e = .returned (.int .i64 k) ∧ Holds s w' R := by
  refine enter Try.func89 rfl Try.ntmps89 rfl ?_
  repeat' (first | refine Z H ?_ | (refine Zc ?_ ?_ <;> intro hc <;> first | (exfalso; omega) | skip) | (refine Y ?_; try change C _ _ _ _ _ _) | (refine Zs H ?_; clear H; (try clear w); intro w H) | (refine Zn H ?_; clear H; (try clear w); intro _ w H) | (refine Ze H ?_; clear H; (try clear w); intro gv w H))
  have h8 : x % 2 ^ 8 = x := Nat.mod_eq_of_lt (by omega)
  refine B.conv Try.underlying111 ?_
  rw [h8]
  repeat' (first | refine Z H ?_ | (refine Zc ?_ ?_ <;> intro hc <;> first | (exfalso; omega) | skip) | (refine Y ?_; try change C _ _ _ _ _ _) | (refine Zs H ?_; clear H; (try clear w); intro w H) | (refine Zn H ?_; clear H; (try clear w); intro _ w H) | (refine Ze H ?_; clear H; (try clear w); intro gv w H))
  refine X.sidxA x (fun ch => ?_)
  have hch := ch.toNat_lt
  refine K.convI Try.underlying5 rfl rfl rfl ?_
  rw [IntWalk.i64_in _ (by omega)]
  repeat' (first | refine Z H ?_ | (refine Zc ?_ ?_ <;> intro hc <;> first | (exfalso; omega) | skip) | (refine Y ?_; try change C _ _ _ _ _ _) | (refine Zs H ?_; clear H; (try clear w); intro w H) | (refine Zn H ?_; clear H; (try clear w); intro _ w H) | (refine Ze H ?_; clear H; (try clear w); intro gv w H))
  exact ⟨_, resT rfl, _, rfl, H⟩
set_option maxRecDepth 100000 in
set_option maxHeartbeats 1000000 in
theorem Len_s {x : Nat} (H : Holds s w R) (hx : x < 256) : Calls Try.prog 72 #[.int .u64 (x : Int)] w fun e w' => ∃ k : Int, e = .returned (.int .i64 k) ∧ Holds s w' R := by
  refine enter Try.func72 rfl Try.ntmps72 rfl ?_
  repeat' (first | refine Z H ?_ | (refine Zc ?_ ?_ <;> intro hc <;> first | (exfalso; omega) | skip) | (refine Y ?_; try change C _ _ _ _ _ _) | (refine Zs H ?_; clear H; (try clear w); intro w H) | (refine Zn H ?_; clear H; (try clear w); intro _ w H) | (refine Ze H ?_; clear H; (try clear w); intro gv w H))
  (refine X.call (Len64_s H hx) ?_; (try clear H); rintro _ w ⟨k, rfl, H⟩; refine ⟨_, rfl, ?_⟩)
  repeat' (first | refine Z H ?_ | (refine Zc ?_ ?_ <;> intro hc <;> first | (exfalso; omega) | skip) | (refine Y ?_; try change C _ _ _ _ _ _) | (refine Zs H ?_; clear H; (try clear w); intro w H) | (refine Zn H ?_; clear H; (try clear w); intro _ w H) | (refine Ze H ?_; clear H; (try clear w); intro gv w H))
  exact ⟨_, resT rfl, k, rfl, H⟩
set_option maxRecDepth 100000 in
set_option maxHeartbeats 1000000 in
theorem insertion_s (H : Holds s w (row 9 1 (.slice va l.length c) l.length (strL l) :: R)) (hd : l.Nodup) (hn : l.length ≤ 12) : Calls Try.prog 79 #[.slice va l.length c, .int .i64 0, .int .i64 (l.length : Int)] w fun e w' => e = .returned (.tuple #[]) ∧ Holds s w' (row 9 1 (.slice va l.length c) l.length (strL (sortB l)) :: R) := by
  refine enter Try.func79 rfl Try.ntmps79 rfl ?_
  repeat' (first | refine Z H ?_ | (refine Zc ?_ ?_ <;> intro hc <;> first | (exfalso; omega) | skip) | (refine Y ?_; try change C _ _ _ _ _ _) | (refine Zs H ?_; clear H; (try clear w); intro w H) | (refine Zn H ?_; clear H; (try clear w); intro _ w H) | (refine Ze H ?_; clear H; (try clear w); intro gv w H))
  refine C.loopR H [6, 7, 10, 11, 12, 13, 14, 15, 16, 17, 18, 19, 20, 21, 22, 23, 24, 25, 26, 27, 28, 29, 30, 31, 32, 33, 34, 35, 36, 37, 38, 39, 40, 41, 42, 43, 44, 45, 46, 47, 48] [6] rfl (fun m vs A => ∃ i : Nat, m = l.length - i ∧ 1 ≤ i ∧ (i ≤ l.length ∨ i = 1) ∧ vs = [.int .i64 (i : Int)] ∧ A = row 9 1 (.slice va l.length c) l.length (strL (sortB (l.take i) ++ l.drop i))) (l.length - 1) ⟨1, rfl, Nat.le_refl _, .inr rfl, rfl, by
    cases l with
    | nil => rfl
    | cons x r => rfl⟩ ?_
  clear H
  rintro m vs hv w A ⟨i, rfl, hi1, hi, rfl, rfl⟩ H
  by_cases hlt : i < l.length
  rotate_left
  · rw [List.take_of_length_le (by omega), List.drop_of_length_le (by omega), List.append_nil] at H
    repeat' (first | refine Z H ?_ | (refine Zc ?_ ?_ <;> intro hc <;> first | (exfalso; omega) | skip) | (refine Y ?_; try change C _ _ _ _ _ _) | (refine Zs H ?_; clear H; (try clear w); intro w H) | (refine Zn H ?_; clear H; (try clear w); intro _ w H) | (refine Ze H ?_; clear H; (try clear w); intro gv w H))
    exact ⟨_, res0 rfl, rfl, H⟩
  have hgi : l[i]? = some l[i] := List.getElem?_eq_getElem hlt
  have hdr : l.drop i = l[i] :: l.drop (i + 1) := List.drop_eq_getElem_cons hlt
  have htk : l.take (i + 1) = l.take i ++ [l[i]] := by rw [List.take_add_one, hgi]; rfl
  have hso := sort_take hd i (by omega)
  have hnx := sort_take hd (i + 1) (by omega)
  have hni : l[i] ∉ sortB (l.take i) := fun hm => by
    rw [mem_sortB] at hm
    obtain ⟨j, hj, hx⟩ := List.getElem_of_mem hm
    have hj2 : j < i := by have := hj; rw [List.length_take] at this; omega
    rw [List.getElem_take] at hx
    exact (List.pairwise_iff_getElem.1 hd) j i (by omega) (by omega) hj2 hx
  have hsl : (sortB (l.take i)).length = i := by rw [len_sortB, List.length_take]; omega
  have hsnoc : sortB (l.take (i + 1)) = insB l[i] (sortB (l.take i)) := by rw [htk, sort_snoc]
  rw [hdr] at H
  generalize hxe : l[i] = x at *
  generalize hse : sortB (l.take i) = q at *
  generalize hre : l.drop (i + 1) = rest at *
  have hrl : rest.length = l.length - (i + 1) := by rw [← hre, List.length_drop]
  repeat' (first | refine Z H ?_ | (refine Zc ?_ ?_ <;> intro hc <;> first | (exfalso; omega) | skip) | (refine Y ?_; try change C _ _ _ _ _ _) | (refine Zs H ?_; clear H; (try clear w); intro w H) | (refine Zn H ?_; clear H; (try clear w); intro _ w H) | (refine Ze H ?_; clear H; (try clear w); intro gv w H))
  refine C.loopR H [7, 16, 17, 18, 19, 20, 21, 22, 23, 24, 25, 26, 27, 28, 29, 30, 31, 32, 33, 34, 35, 36, 37, 38, 39, 40, 41, 42, 43, 44, 45, 46, 47, 48] [7] rfl (fun m vs A => ∃ j : Nat, m = j ∧ j ≤ i ∧ vs = [.int .i64 (j : Int)] ∧ A = row 9 1 (.slice va l.length c) l.length (strL (q.take j ++ x :: q.drop j ++ rest)) ∧ ∀ y, (q.drop j)[0]? = some y → ltB x y = true) i ⟨i, rfl, Nat.le_refl _, rfl, by rw [List.take_of_length_le (by omega), List.drop_of_length_le (by omega)]; simp, fun y hy => by rw [List.drop_of_length_le (by omega)] at hy; cases hy⟩ ?_
  clear H
  rintro m vs hv2 w A ⟨j, rfl, hj, rfl, rfl, hbe⟩ H
  have hstop : (∀ k, m = k + 1 → ∀ y, q[k]? = some y → ltB x y = false) → q.take m ++ x :: q.drop m ++ rest = sortB (l.take (i + 1)) ++ l.drop (i + 1) := fun ha => by
    rw [ins_stop hso hni (by omega) hbe ha, hsnoc, hre]
  obtain ⟨gb, hgb, _, _⟩ := H.form (i := 0) rfl (by omega)
  subst hgb
  by_cases hm0 : m = 0
  · subst hm0
    rw [hstop (fun k h => by omega)] at H
    repeat' (first | refine Z H ?_ | (refine Zc ?_ ?_ <;> intro hc <;> first | (exfalso; omega) | skip) | (refine Y ?_; try change C _ _ _ _ _ _) | (refine Zs H ?_; clear H; (try clear w); intro w H) | (refine Zn H ?_; clear H; (try clear w); intro _ w H) | (refine Ze H ?_; clear H; (try clear w); intro gv w H))
    refine C.drawn5 [0, 1, 2, 3, 4, 5, 6, 7, 8, 9, 10, 11, 12, 13, 14] [0, 0, 0, 0, 0, 0, 0, 4, 0, 0, 0, 0, 4, 3, 0] [14] [0, 0, 3, 7, 15, 15, 63, 127, 15, 15, 527, 1807, 3855, 8191, 16383] (by kernel_rfl) ?_; replace H := H.drew; simp only [Reg.pick, List.filterMap_cons, List.filterMap_nil, List.getElem?_toArray, List.getElem?_cons_zero, List.getElem?_cons_succ, segN, List.take_succ_cons, List.take_zero, List.drop_succ_cons, List.drop_zero]
    repeat' (first | refine Z H ?_ | (refine Zc ?_ ?_ <;> intro hc <;> first | (exfalso; omega) | skip) | (refine Y ?_; try change C _ _ _ _ _ _) | (refine Zs H ?_; clear H; (try clear w); intro w H) | (refine Zn H ?_; clear H; (try clear w); intro _ w H) | (refine Ze H ?_; clear H; (try clear w); intro gv w H))
    refine ⟨rfl, rfl, (by first | exact fun h => Bool.noConfusion (show false = true from h) | exact fun _ => ext_same | exact fun _ => ext_only (by assumption)), ?_⟩
    repeat' (first | refine Z H ?_ | (refine Zc ?_ ?_ <;> intro hc <;> first | (exfalso; omega) | skip) | (refine Y ?_; try change C _ _ _ _ _ _) | (refine Zs H ?_; clear H; (try clear w); intro w H) | (refine Zn H ?_; clear H; (try clear w); intro _ w H) | (refine Ze H ?_; clear H; (try clear w); intro gv w H))
    exact ⟨by (repeat (first | exact Agr.refl | exact Agr.hav | refine Agr.upd rfl ?_ | refine Agr.in rfl ?_)), l.length - (i + 1), by omega, _, ⟨i + 1, rfl, by omega, .inl (by omega), rfl, rfl⟩, H⟩
  obtain ⟨k, rfl⟩ : ∃ k, m = k + 1 := ⟨m - 1, by omega⟩
  have hks : k < q.length := by omega
  have hqk : q[k]? = some q[k] := List.getElem?_eq_getElem hks
  generalize q[k] = y at hqk
  have r0 := strL_get (get_ins0 (s := q) (rest := rest) (x := x) (j := k + 1) (by omega))
  have r1 := strL_get (get_ins1 (rest := rest) (x := x) hqk)
  have hll : (q.take (k + 1) ++ x :: q.drop (k + 1) ++ rest).length = l.length := by
    simp only [List.length_append, List.length_cons, List.length_take, List.length_drop]
    omega
  have hsl0 : 0 + k * 1 < (strL (q.take (k + 1) ++ x :: q.drop (k + 1) ++ rest)).length := by rw [strL_len, hll]; omega
  have hsl1 : 0 + (k + 1) * 1 < (strL (q.take (k + 1) ++ x :: q.drop (k + 1) ++ rest)).length := by rw [strL_len, hll]; omega
  by_cases hless : ltB x y = true
  · repeat' (first | refine Z H ?_ | (refine Zc ?_ ?_ <;> intro hc <;> first | (exfalso; omega) | skip) | (refine Y ?_; try change C _ _ _ _ _ _) | (refine Zs H ?_; clear H; (try clear w); intro w H) | (refine Zn H ?_; clear H; (try clear w); intro _ w H) | (refine Ze H ?_; clear H; (try clear w); intro gv w H))
    refine C.drawn5 [0, 1, 2, 3, 4, 5, 6, 7, 8, 9, 10, 11, 12, 13, 14] [0, 0, 0, 0, 0, 0, 0, 4, 0, 0, 0, 0, 4, 3, 0] [14] [0, 0, 3, 7, 15, 15, 63, 127, 15, 15, 527, 1807, 3855, 8191, 16383] (by kernel_rfl) ?_; replace H := H.drew; simp only [Reg.pick, List.filterMap_cons, List.filterMap_nil, List.getElem?_toArray, List.getElem?_cons_zero, List.getElem?_cons_succ, segN, List.take_succ_cons, List.take_zero, List.drop_succ_cons, List.drop_zero]
    repeat' (first | (refine X.rd H ?_ (hv := r0)) | (refine X.rd H ?_ (hv := r1)) | (refine K.ia (i := k) rfl rfl rfl rfl (by omega) (by omega) ?_) | refine Z H ?_ | (refine Zc ?_ ?_ <;> intro hc <;> first | (exfalso; omega) | skip) | (refine Y ?_; try change C _ _ _ _ _ _) | (refine Zs H ?_; clear H; (try clear w); intro w H) | (refine Zn H ?_; clear H; (try clear w); intro _ w H) | (refine Ze H ?_; clear H; (try clear w); intro gv w H))
    have hL := Less_e (a := x) (b := y) H
    rw [hless] at hL
    (refine X.call (hL) ?_; (try clear H); rintro _ w ⟨rfl, ho, H⟩; refine ⟨_, rfl, ?_⟩); refine L.nil ?_; refine ⟨rfl, rfl, (by first | exact fun h => Bool.noConfusion (show false = true from h) | exact fun _ => ext_same | exact fun _ => ext_only (by assumption)), ?_⟩
    clear ho hL
    repeat' (first | refine Z H ?_ | (refine Zc ?_ ?_ <;> intro hc <;> first | (exfalso; omega) | skip) | (refine Y ?_; try change C _ _ _ _ _ _) | (refine Zs H ?_; clear H; (try clear w); intro w H) | (refine Zn H ?_; clear H; (try clear w); intro _ w H) | (refine Ze H ?_; clear H; (try clear w); intro gv w H))
    refine C.drawn1 [0, 0, 0, 0, 0, 0, 0, 0, 0, 1, 0, 0, 0, 1, 0, 3, 0, 3] [0, 0, 0, 0, 8, 0, 0, 64, 224, 480, 0, 0, 3072, 7168, 16355, 32739, 65535, 131071] (by kernel_rfl) ?_; replace H := H.drew
    repeat' (first | (refine X.rd H ?_ (hv := r0)) | (refine X.rd H ?_ (hv := r1)) | (refine K.ia (i := k) rfl rfl rfl rfl (by omega) (by omega) ?_) | (refine X.rst H ?_ (hl := hsl1); clear H; intro w H) | (refine X.rst H ?_ (hl := by rw [List.length_set]; exact hsl0); clear H; intro w H) | refine Z H ?_ | (refine Zc ?_ ?_ <;> intro hc <;> first | (exfalso; omega) | skip) | (refine Y ?_; try change C _ _ _ _ _ _) | (refine Zs H ?_; clear H; (try clear w); intro w H) | (refine Zn H ?_; clear H; (try clear w); intro _ w H) | (refine Ze H ?_; clear H; (try clear w); intro gv w H))
    rw [strL_set, strL_set, swap_ins hqk] at H
    refine ⟨by (repeat (first | exact Agr.refl | exact Agr.hav | refine Agr.upd rfl ?_ | refine Agr.in rfl ?_)), k, by omega, _, ⟨k, rfl, by omega, ?_, rfl, fun z hz => by
      rw [List.getElem?_drop, Nat.add_zero, hqk] at hz
      injection hz with hz
      rw [← hz]; exact hless⟩, H⟩
    show [Value.int .i64 (((k + 1 : Nat) : Int) - 1)] = _
    rw [show ((k + 1 : Nat) : Int) - 1 = (k : Int) by omega]
  · have hless' : ltB x y = false := by simpa using hless
    have hst := hstop (fun k' e y' hy' => by
      obtain rfl : k = k' := by omega
      rw [hqk] at hy'
      injection hy' with hy'
      rw [← hy']; exact hless')
    repeat' (first | refine Z H ?_ | (refine Zc ?_ ?_ <;> intro hc <;> first | (exfalso; omega) | skip) | (refine Y ?_; try change C _ _ _ _ _ _) | (refine Zs H ?_; clear H; (try clear w); intro w H) | (refine Zn H ?_; clear H; (try clear w); intro _ w H) | (refine Ze H ?_; clear H; (try clear w); intro gv w H))
    refine C.drawn5 [0, 1, 2, 3, 4, 5, 6, 7, 8, 9, 10, 11, 12, 13, 14] [0, 0, 0, 0, 0, 0, 0, 4, 0, 0, 0, 0, 4, 3, 0] [14] [0, 0, 3, 7, 15, 15, 63, 127, 15, 15, 527, 1807, 3855, 8191, 16383] (by kernel_rfl) ?_; replace H := H.drew; simp only [Reg.pick, List.filterMap_cons, List.filterMap_nil, List.getElem?_toArray, List.getElem?_cons_zero, List.getElem?_cons_succ, segN, List.take_succ_cons, List.take_zero, List.drop_succ_cons, List.drop_zero]
    repeat' (first | (refine X.rd H ?_ (hv := r0)) | (refine X.rd H ?_ (hv := r1)) | (refine K.ia (i := k) rfl rfl rfl rfl (by omega) (by omega) ?_) | refine Z H ?_ | (refine Zc ?_ ?_ <;> intro hc <;> first | (exfalso; omega) | skip) | (refine Y ?_; try change C _ _ _ _ _ _) | (refine Zs H ?_; clear H; (try clear w); intro w H) | (refine Zn H ?_; clear H; (try clear w); intro _ w H) | (refine Ze H ?_; clear H; (try clear w); intro gv w H))
    have hL := Less_e (a := x) (b := y) H
    rw [hless'] at hL
    (refine X.call (hL) ?_; (try clear H); rintro _ w ⟨rfl, ho, H⟩; refine ⟨_, rfl, ?_⟩); refine L.nil ?_; refine ⟨rfl, rfl, (by first | exact fun h => Bool.noConfusion (show false = true from h) | exact fun _ => ext_same | exact fun _ => ext_only (by assumption)), ?_⟩
    clear ho hL
    rw [hst] at H
    repeat' (first | refine Z H ?_ | (refine Zc ?_ ?_ <;> intro hc <;> first | (exfalso; omega) | skip) | (refine Y ?_; try change C _ _ _ _ _ _) | (refine Zs H ?_; clear H; (try clear w); intro w H) | (refine Zn H ?_; clear H; (try clear w); intro _ w H) | (refine Ze H ?_; clear H; (try clear w); intro gv w H))
    exact ⟨by (repeat (first | exact Agr.refl | exact Agr.hav | refine Agr.upd rfl ?_ | refine Agr.in rfl ?_)), l.length - (i + 1), by omega, _, ⟨i + 1, rfl, by omega, .inl (by omega), rfl, rfl⟩, H⟩
set_option maxRecDepth 100000 in
set_option maxHeartbeats 1000000 in
theorem pdq_s {d : Int} (H : Holds s w (row 9 1 (.slice va l.length c) l.length (strL l) :: R)) (hd : l.Nodup) (hn : l.length ≤ 12) : Calls Try.prog 71 #[.slice va l.length c, .int .i64 0, .int .i64 (l.length : Int), .int .i64 d] w fun e w' => e = .returned (.tuple #[]) ∧ Holds s w' (row 9 1 (.slice va l.length c) l.length (strL (sortB l)) :: R) := by
  refine enter Try.func71 rfl Try.ntmps71 rfl ?_
  repeat' (first | refine Z H ?_ | (refine Zc ?_ ?_ <;> intro hc <;> first | (exfalso; omega) | skip) | (refine Y ?_; try change C _ _ _ _ _ _) | (refine Zs H ?_; clear H; (try clear w); intro w H) | (refine Zn H ?_; clear H; (try clear w); intro _ w H) | (refine Ze H ?_; clear H; (try clear w); intro gv w H))
  refine C.loopH H [] [] rfl (fun m vs => vs = []) 0 rfl ?_
  clear H
  rintro m vs hv w rfl H
  repeat' (first | refine Z H ?_ | (refine Zc ?_ ?_ <;> intro hc <;> first | (exfalso; omega) | skip) | (refine Y ?_; try change C _ _ _ _ _ _) | (refine Zs H ?_; clear H; (try clear w); intro w H) | (refine Zn H ?_; clear H; (try clear w); intro _ w H) | (refine Ze H ?_; clear H; (try clear w); intro gv w H))
  (refine X.call (insertion_s H hd hn) ?_; (try clear H); rintro _ w ⟨rfl, H⟩; refine ⟨_, rfl, ?_⟩)
  repeat' (first | refine Z H ?_ | (refine Zc ?_ ?_ <;> intro hc <;> first | (exfalso; omega) | skip) | (refine Y ?_; try change C _ _ _ _ _ _) | (refine Zs H ?_; clear H; (try clear w); intro w H) | (refine Zn H ?_; clear H; (try clear w); intro _ w H) | (refine Ze H ?_; clear H; (try clear w); intro gv w H))
  exact ⟨_, res0 rfl, rfl, H⟩
set_option maxRecDepth 100000 in
set_option maxHeartbeats 1000000 in
theorem SortL_s (H : Holds s w (row 9 1 (.slice va l.length c) l.length (strL l) :: R)) (hd : l.Nodup) (hn : l.length ≤ 12) : Calls Try.prog 51 #[.slice va l.length c] w fun e w' => e = .returned (.tuple #[]) ∧ Holds s w' (row 9 1 (.slice va l.length c) l.length (strL (sortB l)) :: R) := by
  refine enter Try.func51 rfl Try.ntmps51 rfl ?_
  repeat' (first | refine Z H ?_ | (refine Zc ?_ ?_ <;> intro hc <;> first | (exfalso; omega) | skip) | (refine Y ?_; try change C _ _ _ _ _ _) | (refine Zs H ?_; clear H; (try clear w); intro w H) | (refine Zn H ?_; clear H; (try clear w); intro _ w H) | (refine Ze H ?_; clear H; (try clear w); intro gv w H))
  have h64 : l.length % 2 ^ 64 = l.length := Nat.mod_eq_of_lt (by omega)
  refine B.conv Try.underlying3 ?_
  rw [h64]
  repeat' (first | refine Z H ?_ | (refine Zc ?_ ?_ <;> intro hc <;> first | (exfalso; omega) | skip) | (refine Y ?_; try change C _ _ _ _ _ _) | (refine Zs H ?_; clear H; (try clear w); intro w H) | (refine Zn H ?_; clear H; (try clear w); intro _ w H) | (refine Ze H ?_; clear H; (try clear w); intro gv w H))
  (refine X.call (Len_s (x := l.length) H (by omega)) ?_; (try clear H); rintro _ w ⟨k, rfl, H⟩; refine ⟨_, rfl, ?_⟩)
  repeat' (first | refine Z H ?_ | (refine Zc ?_ ?_ <;> intro hc <;> first | (exfalso; omega) | skip) | (refine Y ?_; try change C _ _ _ _ _ _) | (refine Zs H ?_; clear H; (try clear w); intro w H) | (refine Zn H ?_; clear H; (try clear w); intro _ w H) | (refine Ze H ?_; clear H; (try clear w); intro gv w H))
  (refine X.call (pdq_s (d := k) H hd hn) ?_; (try clear H); rintro _ w ⟨rfl, H⟩; refine ⟨_, rfl, ?_⟩)
  repeat' (first | refine Z H ?_ | (refine Zc ?_ ?_ <;> intro hc <;> first | (exfalso; omega) | skip) | (refine Y ?_; try change C _ _ _ _ _ _) | (refine Zs H ?_; clear H; (try clear w); intro w H) | (refine Zn H ?_; clear H; (try clear w); intro _ w H) | (refine Ze H ?_; clear H; (try clear w); intro gv w H))
  exact ⟨_, res0 rfl, rfl, H⟩
end
end Go.Proofs.Ytlchnabnhimlcaa

/- More rules of the walk: structs within rows of our own. Over any program. The types of the program, as instances; by types.py. DERIVED: THE SHELF's CONTRACTS AT THIS DUMP, IN PLAIN WORDS (tools/lay-plain.mjs out of 'YtmcojfpomejnnaaShelf0.lean', which tools/lay-shelf.mjs wrote): THE SAME DECLARATIONS UNDER THE SAME NAMES: 'import', 'namespace', 'open', 'def', 'theorem' AND NOTHING ELSE: no command of the shelf's: FOR A HAND-IN. Each laying: the table of numbers ('.._ren') and one theorem, a field a fact of the dump's own or the kernel's comparison; each contract: ONE APPLICATION. -/
import Derived.Test.YtmcojfpomejnnaaNdK3
import Derived.Test.YtmcojfpomejnnaaRows
import Derived.Shelf.SlSortCmp.WholeK
import Derived.Shelf.SlicesG.Cmp
import Derived.Shelf.Small.Bits
import Derived.Test.YtmcojfpomejnnaaProg
set_option linter.unusedSimpArgs false
set_option linter.unusedVariables false
namespace Go.Own
open Go Go.RowKit
/-- cells from a place on are written -/
def putL (xs : List Value) (off : Nat) (ys : List Value) : List Value := xs.take off ++ ys ++ xs.drop (off + ys.length)
theorem putL_len {xs ys : List Value} {off : Nat} (h : off + ys.length ≤ xs.length) : (putL xs off ys).length = xs.length := by
  simp [putL]; omega
theorem putL_get {xs ys : List Value} {off j : Nat} (h : off + ys.length ≤ xs.length) : (putL xs off ys)[j]? = if off ≤ j ∧ j < off + ys.length then ys[j - off]? else xs[j]? := by
  have l1 : (xs.take off).length = off := by rw [List.length_take]; omega
  unfold putL
  rw [List.append_assoc]
  by_cases h1 : j < off
  · rw [List.getElem?_append_left (by omega), List.getElem?_take_of_lt h1, if_neg (by omega)]
  · rw [List.getElem?_append_right (by omega), l1]
    by_cases h2 : j < off + ys.length
    · rw [List.getElem?_append_left (by omega), if_pos (by omega)]
    · rw [List.getElem?_append_right (by omega), List.getElem?_drop, if_neg (by omega)]
      congr 1; omega
section
variable {P : Program} {n : Nat} {ops : Array Oper} {Q : Post} {rest : List Oper} {e : Env} {w w' : World} {s : Ro} {rs : List Asn} {tt : Nat} {pp : String} {af : Array Edge} {g : Option (Nat × Bool)} {d : Nat}
theorem K.storeRP {ty : TypeId} {x y : Operand} {k : Nat} [T : RowC P ty k] (i : Nat) {gg off c m sz : Nat} {el : TypeId} {xs ys : List Value} (H : Holds s w rs) (hw : wg n ops g e = true) (hx : ev e x = .pointer (some ⟨gg, off, none⟩)) (hi : rs[i]? = some (row el sz (.slice (some ⟨gg, 0, none⟩) m c) m xs)) (hy : ev e y = .agg ys.toArray) (h1 : ∀ v ∈ ys, v.oneCell' = true) (hn : ys.length = k) (hl : off + k ≤ xs.length)
    (h : ∀ w', Holds s w' (rs.set i (row el sz (.slice (some ⟨gg, 0, none⟩) m c) m (putL xs off ys))) → L P n ops Q rest e w') : L P n ops Q (⟨none, .store ty x y, tt, pp, af, g⟩ :: rest) e w := by
  refine ⟨fun a ha => wpList_step fun K hK => ?_⟩
  rw [ha.wn, if_pos (by exact hw)]
  obtain ⟨hlen, hrow⟩ := H.row hi
  rcases hrow with ⟨hn0, _⟩ | ⟨g', cap, cur, hv, _, hg, h3, h4, h5, h6⟩
  · cases hn0
  · cases hv
    have hs := T.size
    have hcl : xs.length ≤ cur.size := by
      have := congrArg List.length h6
      simp at this; omega
    cases hq : P.info? ty with
    | none => simp [hq] at hs
    | some ii =>
      simp [hq] at hs
      have hst := run_storeCells_at P gg off el ys 0 cur w hg (by simp; omega) h1
      simp only [Nat.add_zero] at hst
      have hst' : (storeVar ty ⟨gg, off, none⟩ (.agg ys.toArray)).run P w = .ok () (w.setRow gg (putL cur.toList off ys).toArray) := by
        simp [storeVar, sizeOf, typeInfo, hq, Value.cells, hs, hn, putL]
        simpa [hn] using hst
      unfold Oper.wp
      rw [ha.eval]
      unfold execOp
      simp only [hx, hy, Instr.storeAt, Instr.sureAddr, Sem.run_bind, Sem.run_pure, Result.andThen_ok, hst', Oper.upon]
      refine hK _ _ ((h _ (H.only_row hi (v' := .slice (some ⟨gg, 0, none⟩) m c) (n' := m) (xs' := putL xs off ys) ⟨by rw [putL_len (by omega)]; exact hlen, .inr ⟨gg, c, (putL cur.toList off ys).toArray, rfl, Nat.zero_le _, setRow_heap _ _ _ _ _ _ hg, h3, h4, by simp [putL_len (xs := cur.toList) (ys := ys) (off := off) (by simp; omega)]; exact h5, ?_⟩⟩ (only_setRow _ _ _ (by simp [Value.ownBlock])) (fun k hk => .inl hk))).go _ ha)
      have hms : m * sz = xs.length := hlen.symm
      apply List.ext_getElem?
      intro j
      rw [putL_get (by omega), List.getElem?_take]
      have hget : ∀ j, j < xs.length → cur.toList[j]? = xs[j]? := fun j hj => by rw [← h6, List.getElem?_take_of_lt (by omega)]
      split
      · rename_i hj
        show (putL cur.toList off ys)[j]? = _
        rw [putL_get (by simp; omega)]
        split
        · rfl
        · exact hget j (by omega)
      · rename_i hj
        rw [if_neg (by omega), List.getElem?_eq_none (by omega)]
/-- a struct within a row of our own is written -/
theorem X.rstp {ty : TypeId} {x y : Operand} {k : Nat} [T : RowC P ty k] {b off m c sz : Nat} {t : TypeId} {xs ys : List Value} {f : List Value → List Asn} (H : Holds s w rs) (h : ∀ w', Holds s w' (f (putL xs off ys)) → L P n ops Q rest e w') (hw : wg n ops g e = true := by rfl) (hx : ev e x = .pointer (some ⟨b, off, none⟩) := by rfl) (V : PutR rs b t sz m c xs f := by infer_instance) (hy : ev e y = .agg ys.toArray := by rfl) (h1 : ∀ v ∈ ys, v.oneCell' = true := by simp [Value.oneCell']) (hn : ys.length = k := by rfl) (hl : off + k ≤ xs.length := by omega) : L P n ops Q (⟨none, .store ty x y, tt, pp, af, g⟩ :: rest) e w := by
  obtain ⟨i, hi, hf⟩ := V.ix
  exact K.storeRP i H hw hx hi hy h1 hn hl (fun w' H' => h w' (by rw [hf] at H'; exact H'))
/-- a struct within a row of our own is read -/
theorem X.rdp {ty : TypeId} {x : Operand} {k : Nat} [T : RowC P ty k] {b off m c sz : Nat} {t : TypeId} {xs ys : List Value} {f : List Value → List Asn} (H : Holds s w rs) (h : L P n ops Q rest (upd e d (.agg ys.toArray)) w) (hw : wg n ops g e = true := by rfl) (hd : Nat.blt d n = true := by rfl) (hx : ev e x = .pointer (some ⟨b, off, none⟩) := by rfl) (V : PutR rs b t sz m c xs f := by infer_instance) (hys : (xs.drop off).take k = ys := by assumption) (hn : ys.length = k := by rfl) : L P n ops Q (⟨some d, .load ty x, tt, pp, af, g⟩ :: rest) e w := by
  obtain ⟨i, hi, hf⟩ := V.ix
  exact K.loadRP i ys H hw hd hx hi hys hn h
/-- a slice against nil -/
theorem X.nilS {x y : Operand} {t u el : TypeId} {sz by_ : Nat} {zz : List Value} [E : ElC P t el sz by_ zz] {a : Option Addr} {m c : Nat} {r : Bool} (h : L P n ops Q rest (upd e d (.bool r)) w) (hw : wg n ops g e = true := by rfl) (hd : Nat.blt d n = true := by rfl) (hx : ev e x = .slice a m c := by rfl) (hy : ev e y = .slice none 0 0 := by rfl) (hr : a.isNone = r := by rfl) : L P n ops Q (⟨some d, .binOp .eql t x y u, tt, pp, af, g⟩ :: rest) e w := by
  obtain ⟨v, E', _⟩ := E.el
  subst hr
  refine L.val (o := ⟨some d, .binOp .eql t x y u, tt, pp, af, g⟩) _ w hw hd ?_ h
  unfold execOp
  simp [hx, hy, eqGuard, Lib.run_eql_slice_nil w t el a m c 0 0 E'.slice]
theorem flatS_set {α : Type} {f : α → List Value} {sz : Nat} : ∀ (l : List α), (∀ x ∈ l, (f x).length = sz) → ∀ (i j : Nat) (v : Value) (x' : α) (hi : i < l.length), j < sz → f x' = (f l[i]).set j v → (l.flatMap f).set (i * sz + j) v = (l.set i x').flatMap f
  | [], _, i, j, v, x', hi, _, _ => by simp at hi
  | x :: l, hf, 0, j, v, x', hi, hj, he => by
    have hx := hf x (by simp)
    simp only [List.getElem_cons_zero] at he
    rw [List.set_cons_zero, List.flatMap_cons, List.flatMap_cons, Nat.zero_mul, Nat.zero_add, List.set_append_left _ _ (by omega), he]
  | x :: l, hf, i + 1, j, v, x', hi, hj, he => by
    have hx := hf x (by simp)
    have e1 : (i + 1) * sz + j - (f x).length = i * sz + j := by rw [hx, Nat.add_mul]; omega
    rw [List.set_cons_succ, List.flatMap_cons, List.flatMap_cons, List.set_append_right _ _ (by rw [hx, Nat.add_mul]; omega), e1, flatS_set l (fun y hy => hf y (by simp [hy])) i j v x' (by simpa using hi) hj (by simpa using he)]
theorem flatS_put {α : Type} {f : α → List Value} {sz : Nat} : ∀ (l : List α), (∀ x ∈ l, (f x).length = sz) → ∀ (i j : Nat) (ys : List Value) (x' : α) (hi : i < l.length), j + ys.length ≤ sz → f x' = putL (f l[i]) j ys → putL (l.flatMap f) (i * sz + j) ys = (l.set i x').flatMap f
  | [], _, i, j, v, x', hi, _, _ => by simp at hi
  | x :: l, hf, 0, j, ys, x', hi, hj, he => by
    have hx := hf x (by simp)
    simp only [List.getElem_cons_zero] at he
    rw [List.set_cons_zero, List.flatMap_cons, List.flatMap_cons, Nat.zero_mul, Nat.zero_add, he]
    unfold putL
    rw [List.take_append_of_le_length (by omega), List.drop_append_of_le_length (by omega)]
    simp
  | x :: l, hf, i + 1, j, ys, x', hi, hj, he => by
    have hx := hf x (by simp)
    have ih := flatS_put l (fun y hy => hf y (by simp [hy])) i j ys x' (by simpa using hi) hj (by simpa using he)
    rw [List.set_cons_succ, List.flatMap_cons, List.flatMap_cons, ← ih]
    have e1 : (i + 1) * sz + j = (f x).length + (i * sz + j) := by rw [hx, Nat.add_mul]; omega
    unfold putL
    rw [e1, List.take_append, List.take_of_length_le (by omega), Nat.add_sub_cancel_left, Nat.add_assoc, List.drop_append, List.drop_of_length_le (by omega), Nat.add_sub_cancel_left]
    simp
theorem flatS_part {α : Type} {f : α → List Value} {sz : Nat} (l : List α) (hf : ∀ x ∈ l, (f x).length = sz) (i j k : Nat) (hi : i < l.length) (hj : j + k ≤ sz) : ((l.flatMap f).drop (i * sz + j)).take k = ((f l[i]).drop j).take k := by
  apply List.ext_getElem?
  intro q
  rw [List.getElem?_take, List.getElem?_take]
  split
  · rw [List.getElem?_drop, List.getElem?_drop, Nat.add_assoc, flat_get l hf i (j + q) hi (by omega)]
  · rfl
/-- a result that lies in a variable -/
theorem resV {fn : Func} {r ty k : Nat} [T : RowC P ty k] {b t : Nat} {cs : List Value} {f : List Value → List Asn} (H : Holds s w rs) (h : fn.results = #[.cell r ty]) (hr : e r = .pointer (some ⟨b, 0, none⟩) := by rfl) (V : PutV rs b t cs f := by infer_instance) (hn : cs.length = k := by rfl) : ResE P fn e w (.agg cs.toArray) := by
  obtain ⟨i, hi, _⟩ := V.ix
  exact resC i H h hr hi hn
end
end Go.Own
set_option linter.unusedSimpArgs false
namespace Go.Proofs.Ytmcojfpomejnnaa
open Go Go.RowKit Go.Own
-- 1 func()
-- 2 int64
-- 3 int
instance : OneC Try.prog 3 := ⟨⟨_, Try.underlying3, rfl⟩, by kernel_rfl⟩
-- 4 bool
instance : OneC Try.prog 4 := ⟨⟨_, Try.underlying4, rfl⟩, by kernel_rfl⟩
-- 5 uint8
instance : OneC Try.prog 5 := ⟨⟨_, Try.underlying5, rfl⟩, by kernel_rfl⟩
-- 6 abi.BoundsErrorCode
-- 7 struct%20{%20x%20int64;%20y%20int;%20signed%20bool;%20code%20abi.BoundsErrorCode%20}
-- 9 string
instance : StrC Try.prog 9 := ⟨Try.underlying9⟩
-- 10 runtime.errorString
-- 11 runtime.plainError
-- 12 uintptr
-- 13 struct%20{%20msg%20string;%20addr%20uintptr%20}
-- 15 *runtime.TypeAssertionError
-- 16 *runtime.PanicNilError
-- 17 *abi.Type
-- 18 struct%20{%20typ%20*abi.Type%20}
-- 20 interface%20{}
-- 21 int32
-- 22 []int
instance : OneC Try.prog 22 := ⟨⟨_, Try.underlying22, rfl⟩, by kernel_rfl⟩
instance : ElC Try.prog 22 3 1 8 ([.int .i64 0]) := ⟨⟨.int .i64 0, elT Try.underlying22 (by kernel_rfl) (by kernel_rfl) (by decide), by kernel_rfl⟩⟩
-- 23 []nacellelaw15.Act
instance : OneC Try.prog 23 := ⟨⟨_, Try.underlying23, rfl⟩, by kernel_rfl⟩
instance : ElC Try.prog 23 40 8 72 ([.int .i64 0, .int .i64 0, .int .i64 0, .int .i64 0, .bool false, .int .u8 0, .int .i64 0, .slice none 0 0]) := ⟨⟨.agg ([.int .i64 0, .int .i64 0, .int .i64 0, .int .i64 0, .bool false, .int .u8 0, .int .i64 0, .slice none 0 0]).toArray, elT Try.underlying23 (by kernel_rfl) (by kernel_rfl) (by decide), by kernel_rfl⟩⟩
-- 24 []bool
-- 25 *disk.Disk
instance : OneC Try.prog 25 := ⟨⟨_, Try.underlying25, rfl⟩, by kernel_rfl⟩
-- 26 api.Errno
instance : OneC Try.prog 26 := ⟨⟨_, Try.underlying26, rfl⟩, by kernel_rfl⟩
-- 28 func(int)%20(*disk.Disk,%20api.Errno)
-- 29 *iosched.Schedule
instance : PtrC Try.prog 29 136 := ⟨Try.underlying29⟩
-- 31 func(*disk.Disk,%20[]extent.Extent,%20[]int,%20[]int)%20(*iosched.Schedule,%20api.Errno)
-- 32 struct%20{%20From%20int;%20Count%20int%20}
-- 33 extent.Extent
instance : RowC Try.prog 33 2 := ⟨⟨_, Try.underlying33, rfl⟩, by kernel_rfl⟩
instance : ZeroC Try.prog 33 ([.int .i64 0, .int .i64 0]) := ⟨⟨.agg ([.int .i64 0, .int .i64 0]).toArray, by kernel_rfl, by kernel_rfl⟩⟩
instance : FldC Try.prog 33 0 0 := ⟨⟨_, _, Try.underlying33, rfl, rfl, 0, by kernel_rfl⟩⟩
instance : FldC Try.prog 33 1 1 := ⟨⟨_, _, Try.underlying33, rfl, rfl, 0, by kernel_rfl⟩⟩
-- 34 []extent.Extent
instance : ElC Try.prog 34 33 2 16 ([.int .i64 0, .int .i64 0]) := ⟨⟨.agg ([.int .i64 0, .int .i64 0]).toArray, elT Try.underlying34 (by kernel_rfl) (by kernel_rfl) (by decide), by kernel_rfl⟩⟩
-- 35 []uint8
instance : OneC Try.prog 35 := ⟨⟨_, Try.underlying35, rfl⟩, by kernel_rfl⟩
instance : ElC Try.prog 35 5 1 1 ([.int .u8 0]) := ⟨⟨.int .u8 0, elT Try.underlying35 (by kernel_rfl) (by kernel_rfl) (by decide), by kernel_rfl⟩⟩
instance : BytesC Try.prog 35 := ⟨⟨_, Try.underlying35, Try.underlying5, by kernel_rfl⟩⟩
-- 36 [12][]uint8
instance : ZeroC Try.prog 36 ([.slice none 0 0, .slice none 0 0, .slice none 0 0, .slice none 0 0, .slice none 0 0, .slice none 0 0, .slice none 0 0, .slice none 0 0, .slice none 0 0, .slice none 0 0, .slice none 0 0, .slice none 0 0]) := ⟨⟨.agg ([.slice none 0 0, .slice none 0 0, .slice none 0 0, .slice none 0 0, .slice none 0 0, .slice none 0 0, .slice none 0 0, .slice none 0 0, .slice none 0 0, .slice none 0 0, .slice none 0 0, .slice none 0 0]).toArray, by kernel_rfl, by kernel_rfl⟩⟩
instance : ArrC Try.prog 36 12 1 true := ⟨⟨_, _, Try.underlying36, by kernel_rfl, Try.underlying35, rfl⟩⟩
-- 37 [12]uint8
instance : ZeroC Try.prog 37 ([.int .u8 0, .int .u8 0, .int .u8 0, .int .u8 0, .int .u8 0, .int .u8 0, .int .u8 0, .int .u8 0, .int .u8 0, .int .u8 0, .int .u8 0, .int .u8 0]) := ⟨⟨.agg ([.int .u8 0, .int .u8 0, .int .u8 0, .int .u8 0, .int .u8 0, .int .u8 0, .int .u8 0, .int .u8 0, .int .u8 0, .int .u8 0, .int .u8 0, .int .u8 0]).toArray, by kernel_rfl, by kernel_rfl⟩⟩
instance : ArrC Try.prog 37 12 1 true := ⟨⟨_, _, Try.underlying37, by kernel_rfl, Try.underlying5, rfl⟩⟩
-- 38 [2][]nacellelaw15.Act
instance : ZeroC Try.prog 38 ([.slice none 0 0, .slice none 0 0]) := ⟨⟨.agg ([.slice none 0 0, .slice none 0 0]).toArray, by kernel_rfl, by kernel_rfl⟩⟩
instance : ArrC Try.prog 38 2 1 true := ⟨⟨_, _, Try.underlying38, by kernel_rfl, Try.underlying23, rfl⟩⟩
-- 39 struct%20{%20Do%20int;%20Part%20int;%20Kind%20int;%20At%20int;%20Data%20bool;%20Fill%20uint8;%20Off%20int;%20Keep%20[]bool%20}
-- 40 nacellelaw15.Act
instance : RowC Try.prog 40 8 := ⟨⟨_, Try.underlying40, rfl⟩, by kernel_rfl⟩
instance : ZeroC Try.prog 40 ([.int .i64 0, .int .i64 0, .int .i64 0, .int .i64 0, .bool false, .int .u8 0, .int .i64 0, .slice none 0 0]) := ⟨⟨.agg ([.int .i64 0, .int .i64 0, .int .i64 0, .int .i64 0, .bool false, .int .u8 0, .int .i64 0, .slice none 0 0]).toArray, by kernel_rfl, by kernel_rfl⟩⟩
instance : FldC Try.prog 40 1 1 := ⟨⟨_, _, Try.underlying40, rfl, rfl, 0, by kernel_rfl⟩⟩
instance : FldC Try.prog 40 2 2 := ⟨⟨_, _, Try.underlying40, rfl, rfl, 0, by kernel_rfl⟩⟩
instance : FldC Try.prog 40 3 3 := ⟨⟨_, _, Try.underlying40, rfl, rfl, 0, by kernel_rfl⟩⟩
instance : FldC Try.prog 40 4 4 := ⟨⟨_, _, Try.underlying40, rfl, rfl, 0, by kernel_rfl⟩⟩
instance : FldC Try.prog 40 5 5 := ⟨⟨_, _, Try.underlying40, rfl, rfl, 0, by kernel_rfl⟩⟩
instance : FldC Try.prog 40 6 6 := ⟨⟨_, _, Try.underlying40, rfl, rfl, 0, by kernel_rfl⟩⟩
-- 41 uint64
instance : OneC Try.prog 41 := ⟨⟨_, Try.underlying41, rfl⟩, by kernel_rfl⟩
instance : IntC Try.prog 41 .u64 := ⟨Try.underlying41⟩
-- 43 func(int,%20api.Request)%20(uint64,%20api.Errno)
-- 44 struct%20{%20Kind%20int;%20At%20int;%20Data%20[]uint8%20}
-- 46 func(nacellelaw15.Act)%20api.Request
-- 47 struct%20{%20Part%20int;%20N%20uint64;%20Data%20[]uint8;%20Code%20api.Errno%20}
-- 50 func()%20(api.Done,%20bool)
-- 51 func(uint8,%20int)%20[]uint8
-- 52 func([]bool)
-- 54 func(int)%20([]uint8,%20api.Errno)
-- 55 func()%20string
-- 56 func([]int,%20[]nacellelaw15.Act,%20[]bool)%20bool
-- 57 struct%20{%20Extents%20[]extent.Extent;%20Rooms%20[]int;%20Slots%20[]int%20}
-- 58 nacellelaw15.Shape
-- 59 func(nacellelaw15.Shape)%20nacellelaw15.Shape
-- 60 []string
-- 61 []nacelleref05.Write
-- 62 struct%20{%20Has%20[]string;%20Waits%20[]nacelleref05.Write;%20Off%20bool;%20Left%20int;%20Survivors%20[]bool%20}
-- 63 nacelleref05.Disk
-- 65 func(int)%20(nacelleref05.Disk,%20bool)
-- 66 func(int,%20[][2]int,%20[]int,%20[]int)%20int
-- 67 [][2]int
-- 68 func([]extent.Extent)%20[][2]int
-- 69 func()%20bool
-- 70 *nacelleref15.Schedule
-- 71 func(nacelleref05.Disk,%20[][2]int,%20[]int,%20[]int)%20*nacelleref15.Schedule
-- 73 func(int,%20api.Request)%20(uint64,%20int)
-- 74 [][]api.Request
-- 75 []uint64
-- 76 struct%20{%20D%20nacelleref05.Disk;%20Extents%20[][2]int;%20Rooms%20[]int;%20Waits%20[][]api.Request;%20Served%20[]uint64;%20Slots%20[]int;%20Next%20int%20}
-- 77 nacelleref15.Schedule
-- 78 func([]bool)%20nacelleref05.Disk
-- 79 func()%20nacelleref05.Disk
-- 80 struct%20{%20Part%20int;%20N%20uint64;%20Data%20string;%20Code%20int%20}
-- 81 nacelleref15.Done
-- 83 func()%20(nacelleref15.Done,%20bool)
-- 84 func(api.Done,%20nacelleref15.Done)%20bool
-- 85 func()%20int
-- 86 func()%20[]uint8
-- 87 func()%20[]int
-- 88 func(int)%20int
-- 89 []api.Request
-- 90 func(int)%20uint64
-- 91 func(nacellelaw15.Shape,%20[]nacellelaw15.Act)%20bool
-- 92 struct%20{%20X%20nacellelaw15.Shape;%20Part%20int;%20Own%20[]nacellelaw15.Act;%20One%20[]nacellelaw15.Act;%20Two%20[]nacellelaw15.Act%20}
-- 93 nacellelaw15.Apart
-- 94 []api.Done
-- 95 func(nacellelaw15.Shape,%20int,%20[]nacellelaw15.Act,%20[]nacellelaw15.Act)%20[]api.Done
-- 96 func(nacellelaw15.Apart)%20bool
-- 98 func(nacellelaw15.Shape,%20[]nacellelaw15.Act)%20(*iosched.Schedule,%20*disk.Disk,%20nacellelaw15.Shape)
-- 99 func(nacellelaw15.Shape,%20int,%20[]nacellelaw15.Act)%20bool
-- 100 func([]int,%20int)%20int
-- 101 struct%20{%20X%20nacellelaw15.Shape;%20Acts%20[]nacellelaw15.Act;%20Part%20int;%20More%20[]nacellelaw15.Act%20}
-- 102 nacellelaw15.Within
-- 103 func(nacellelaw15.Within)%20bool
-- 104 [2]int
-- 105 func([]extent.Extent)%20bool
-- 106 func([][2]int)%20bool
-- 107 []nacellelaw06.Act
-- 108 *extent.Part
instance : OneC Try.prog 108 := ⟨⟨_, Try.underlying108, rfl⟩, by kernel_rfl⟩
instance : PtrC Try.prog 108 162 := ⟨Try.underlying108⟩
-- 110 func(*disk.Disk,%20extent.Extent)%20(*extent.Part,%20api.Errno)
-- 111 [9]uint8
-- 112 struct%20{%20Do%20int;%20At%20int;%20Off%20int;%20Fill%20uint8;%20Keep%20[]bool%20}
-- 113 nacellelaw06.Act
-- 114 func(int,%20[]uint8)%20api.Errno
-- 115 func(int,%20[]nacellelaw06.Act)%20bool
-- 116 func(extent.Extent,%20int)%20bool
-- 117 func(extent.Extent)%20(*extent.Part,%20api.Errno)
-- 118 func()%20api.Errno
-- 119 func(extent.Extent,%20extent.Extent,%20uint8)%20bool
-- 120 func(int,%20int,%20int)%20bool
-- 122 func(int,%20int,%20int)%20(int,%20bool)
-- 124 func(int,%20string)%20(nacelleref05.Disk,%20int)
-- 126 func(int)%20(string,%20int)
-- 127 func()%20(nacelleref05.Disk,%20int)
-- 128 func(extent.Extent,%20[]nacellelaw06.Act)%20bool
-- 129 []disk.sector
-- 130 []disk.write
-- 131 struct%20{%20sectors%20[]disk.sector;%20pending%20[]disk.write;%20off%20bool;%20armed%20bool;%20left%20int;%20survivors%20[]bool%20}
-- 132 disk.Disk
-- 133 func([]int)%20[]int
-- 134 []iosched.partition
instance : OneC Try.prog 134 := ⟨⟨_, Try.underlying134, rfl⟩, by kernel_rfl⟩
instance : ElC Try.prog 134 143 70 816 ([.pointer none, .int .i64 0, .int .u64 0, .int .u64 0, .int .u64 0, .int .i64 0, .int .i64 0, .slice none 0 0, .int .u64 0, .int .i64 0, .int .i64 0, .slice none 0 0, .int .u64 0, .int .i64 0, .int .i64 0, .slice none 0 0, .int .u64 0, .int .i64 0, .int .i64 0, .slice none 0 0, .int .u64 0, .int .i64 0, .int .i64 0, .slice none 0 0, .int .u64 0, .int .i64 0, .int .i64 0, .slice none 0 0, .int .u64 0, .int .i64 0, .int .i64 0, .slice none 0 0, .int .u64 0, .int .i64 0, .int .i64 0, .slice none 0 0, .int .u64 0, .int .i64 0, .int .i64 0, .slice none 0 0, .int .u64 0, .int .i64 0, .int .i64 0, .slice none 0 0, .int .u64 0, .int .i64 0, .int .i64 0, .slice none 0 0, .int .u64 0, .int .i64 0, .int .i64 0, .slice none 0 0, .int .u64 0, .int .i64 0, .int .i64 0, .slice none 0 0, .int .u64 0, .int .i64 0, .int .i64 0, .slice none 0 0, .int .u64 0, .int .i64 0, .int .i64 0, .slice none 0 0, .int .u64 0, .int .i64 0, .int .i64 0, .slice none 0 0, .int .i64 0, .int .i64 0]) := ⟨⟨.agg ([.pointer none, .int .i64 0, .int .u64 0, .int .u64 0, .int .u64 0, .int .i64 0, .int .i64 0, .slice none 0 0, .int .u64 0, .int .i64 0, .int .i64 0, .slice none 0 0, .int .u64 0, .int .i64 0, .int .i64 0, .slice none 0 0, .int .u64 0, .int .i64 0, .int .i64 0, .slice none 0 0, .int .u64 0, .int .i64 0, .int .i64 0, .slice none 0 0, .int .u64 0, .int .i64 0, .int .i64 0, .slice none 0 0, .int .u64 0, .int .i64 0, .int .i64 0, .slice none 0 0, .int .u64 0, .int .i64 0, .int .i64 0, .slice none 0 0, .int .u64 0, .int .i64 0, .int .i64 0, .slice none 0 0, .int .u64 0, .int .i64 0, .int .i64 0, .slice none 0 0, .int .u64 0, .int .i64 0, .int .i64 0, .slice none 0 0, .int .u64 0, .int .i64 0, .int .i64 0, .slice none 0 0, .int .u64 0, .int .i64 0, .int .i64 0, .slice none 0 0, .int .u64 0, .int .i64 0, .int .i64 0, .slice none 0 0, .int .u64 0, .int .i64 0, .int .i64 0, .slice none 0 0, .int .u64 0, .int .i64 0, .int .i64 0, .slice none 0 0, .int .i64 0, .int .i64 0]).toArray, elT Try.underlying134 (by kernel_rfl) (by kernel_rfl) (by decide), by kernel_rfl⟩⟩
-- 135 struct%20{%20parts%20[]iosched.partition;%20slots%20[]int;%20next%20int%20}
-- 137 struct%20{%20n%20uint64;%20request%20api.Request%20}
-- 139 [16]iosched.asked
instance : ArrC Try.prog 139 16 4 false := ⟨⟨_, _, Try.underlying139, by kernel_rfl, Try.underlying138, rfl⟩⟩
-- 140 struct%20{%20items%20[16]iosched.asked;%20first%20int;%20count%20int%20}
-- 141 iosched.ring[nacelle/iosched.asked]
instance : FldC Try.prog 141 0 0 := ⟨⟨_, _, Try.underlying141, rfl, rfl, 63, by kernel_rfl⟩⟩
instance : FldC Try.prog 141 1 64 := ⟨⟨_, _, Try.underlying141, rfl, rfl, 0, by kernel_rfl⟩⟩
instance : FldC Try.prog 141 2 65 := ⟨⟨_, _, Try.underlying141, rfl, rfl, 0, by kernel_rfl⟩⟩
-- 142 struct%20{%20part%20*extent.Part;%20room%20int;%20last%20uint64;%20served%20uint64;%20waiting%20iosched.ring[nacelle/iosched.asked]%20}
-- 144 func(int)%20bool
-- 145 *iosched.partition
-- 146 func(api.Request)%20bool
-- 147 func([]uint8)%20[]uint8
-- 148 func(iosched.asked)
-- 149 func()%20iosched.asked
-- 150 [64]uint8
-- 151 disk.sector
-- 152 struct%20{%20at%20int;%20content%20disk.sector%20}
-- 153 disk.write
-- 154 func(bool,%20[]bool)%20nacelleref05.Disk
-- 155 func([]extent.Extent,%20func(extent.Extent,%20extent.Extent)%20int)
-- 156 func(int,%20int)%20int
-- 157 func(extent.Extent,%20extent.Extent)%20int
-- 158 func(int,%20int,%20int,%20int)%20bool
-- 160 func(extent.Extent,%20int)%20(int,%20api.Errno)
-- 161 struct%20{%20extent.Extent;%20d%20*disk.Disk%20}
-- 162 extent.Part
instance : FldC Try.prog 162 0 0 := ⟨⟨_, _, Try.underlying162, rfl, rfl, 1, by kernel_rfl⟩⟩
instance : FldC Try.prog 162 1 2 := ⟨⟨_, _, Try.underlying162, rfl, rfl, 0, by kernel_rfl⟩⟩
-- 163 func()%20(nacelleref05.Disk,%20bool)
-- 164 struct%20{%20At%20int;%20B%20string%20}
-- 165 nacelleref05.Write
-- 166 *iosched.ring[nacelle/iosched.asked]
-- 167 func([]string,%20int,%20string)%20[]string
-- 168 func([]extent.Extent,%20int,%20int,%20int,%20func(extent.Extent,%20extent.Extent)%20int)
-- 169 func(uint)%20int
-- 170 uint
instance : IntC Try.prog 170 .u64 := ⟨Try.underlying170⟩
-- 171 func([]extent.Extent,%20int,%20int,%20func(extent.Extent,%20extent.Extent)%20int)
-- 172 slices.sortedHint
-- 174 func([]extent.Extent,%20int,%20int,%20func(extent.Extent,%20extent.Extent)%20int)%20(int,%20slices.sortedHint)
-- 175 func([]extent.Extent,%20int,%20int,%20func(extent.Extent,%20extent.Extent)%20int)%20bool
-- 176 func([]extent.Extent,%20int,%20int,%20int,%20func(extent.Extent,%20extent.Extent)%20int)%20int
-- 177 func([]extent.Extent,%20int,%20int,%20int,%20func(extent.Extent,%20extent.Extent)%20int)%20(int,%20bool)
-- 178 func(uint32)%20int
-- 179 uint32
-- 180 func(uint64)%20int
-- 181 slices.xorshift
-- 182 func(int)%20uint
-- 183 func()%20uint64
-- 184 func([]extent.Extent,%20int,%20*int,%20func(extent.Extent,%20extent.Extent)%20int)%20int
-- 185 *int
-- 186 func([]extent.Extent,%20int,%20int,%20int,%20*int,%20func(extent.Extent,%20extent.Extent)%20int)%20int
-- 187 *slices.xorshift
-- 189 func([]extent.Extent,%20int,%20int,%20*int,%20func(extent.Extent,%20extent.Extent)%20int)%20(int,%20int)
-- 190 struct%20{%20_interface%20*abi.Type;%20concrete%20*abi.Type;%20asserted%20*abi.Type;%20missingMethod%20string%20}
-- 192 [0]*runtime.PanicNilError
-- 193 struct%20{%20_%20[0]*runtime.PanicNilError%20}
-- 195 abi.TFlag
-- 196 abi.Kind
-- 197 func(unsafe.Pointer,%20unsafe.Pointer)%20bool
-- 198 *uint8
-- 199 abi.NameOff
-- 200 abi.TypeOff
-- 201 struct%20{%20Size_%20uintptr;%20PtrBytes%20uintptr;%20Hash%20uint32;%20TFlag%20abi.TFlag;%20Align_%20uint8;%20FieldAlign_%20uint8;%20Kind_%20abi.Kind;%20Equal%20func(unsafe.Pointer,%20unsafe.Pointer)%20bool;%20GCData%20*uint8;%20Str%20abi.NameOff;%20PtrToThis%20abi.TypeOff%20}
instance : FunC Try.prog 13 := ⟨⟨_, _, Try.func13, by kernel_rfl, rfl⟩⟩  -- nacelle/disk.New
instance : FunC Try.prog 14 := ⟨⟨_, _, Try.func14, by kernel_rfl, rfl⟩⟩  -- nacelle/iosched.New
instance : FunC Try.prog 15 := ⟨⟨_, _, Try.func15, by kernel_rfl, rfl⟩⟩  -- (*nacelle/iosched.Schedule).Ask
instance : FunC Try.prog 16 := ⟨⟨_, _, Try.func16, by kernel_rfl, rfl⟩⟩  -- nacelle/nacellelaw15.Request
instance : FunC Try.prog 17 := ⟨⟨_, _, Try.func17, by kernel_rfl, rfl⟩⟩  -- (*nacelle/iosched.Schedule).Slot
instance : FunC Try.prog 18 := ⟨⟨_, _, Try.func18, by kernel_rfl, rfl⟩⟩  -- nacelle/nacellelaw05.Sector
instance : FunC Try.prog 19 := ⟨⟨_, _, Try.func19, by kernel_rfl, rfl⟩⟩  -- (*nacelle/disk.Disk).Crash
instance : FunC Try.prog 20 := ⟨⟨_, _, Try.func20, by kernel_rfl, rfl⟩⟩  -- (*nacelle/disk.Disk).Has
instance : FunC Try.prog 21 := ⟨⟨_, _, Try.func21, by kernel_rfl, rfl⟩⟩  -- nacelle/nacelleref05.Noughts
instance : FunC Try.prog 42 := ⟨⟨_, _, Try.func42, by kernel_rfl, rfl⟩⟩  -- (*nacelle/disk.Disk).Read
instance : FunC Try.prog 44 := ⟨⟨_, _, Try.func44, by kernel_rfl, rfl⟩⟩  -- nacelle/extent.Apart
instance : FunC Try.prog 47 := ⟨⟨_, _, Try.func47, by kernel_rfl, rfl⟩⟩  -- nacelle/extent.New
instance : FunC Try.prog 48 := ⟨⟨_, _, Try.func48, by kernel_rfl, rfl⟩⟩  -- (*nacelle/extent.Part).Write
instance : FunC Try.prog 49 := ⟨⟨_, _, Try.func49, by kernel_rfl, rfl⟩⟩  -- (*nacelle/extent.Part).Read
instance : FunC Try.prog 50 := ⟨⟨_, _, Try.func50, by kernel_rfl, rfl⟩⟩  -- nacelle/extent.Lies
instance : FunC Try.prog 52 := ⟨⟨_, _, Try.func52, by kernel_rfl, rfl⟩⟩  -- (*nacelle/extent.Part).Size
instance : FunC Try.prog 53 := ⟨⟨_, _, Try.func53, by kernel_rfl, rfl⟩⟩  -- (*nacelle/extent.Part).Flush
instance : FunC Try.prog 60 := ⟨⟨_, _, Try.func60, by kernel_rfl, rfl⟩⟩  -- (*nacelle/disk.Disk).Write
instance : FunC Try.prog 61 := ⟨⟨_, _, Try.func61, by kernel_rfl, rfl⟩⟩  -- (*nacelle/disk.Disk).Size
instance : FunC Try.prog 62 := ⟨⟨_, _, Try.func62, by kernel_rfl, rfl⟩⟩  -- slices.Clone[[]int,int]
instance : FunC Try.prog 63 := ⟨⟨_, _, Try.func63, by kernel_rfl, rfl⟩⟩  -- (*nacelle/iosched.Schedule).isPart
instance : FunC Try.prog 64 := ⟨⟨_, _, Try.func64, by kernel_rfl, rfl⟩⟩  -- nacelle/iosched.formed
instance : FunC Try.prog 65 := ⟨⟨_, _, Try.func65, by kernel_rfl, rfl⟩⟩  -- slices.Clone[[]byte,byte]
instance : FunC Try.prog 66 := ⟨⟨_, _, Try.func66, by kernel_rfl, rfl⟩⟩  -- (*nacelle/iosched.ring[nacelle/iosched.asked]).push
instance : FunC Try.prog 67 := ⟨⟨_, _, Try.func67, by kernel_rfl, rfl⟩⟩  -- (*nacelle/iosched.ring[nacelle/iosched.asked]).pop
instance : FunC Try.prog 71 := ⟨⟨_, _, Try.func71, by kernel_rfl, rfl⟩⟩  -- slices.SortFunc[[]nacelle/extent.Extent,nacelle/extent.Extent]
instance : FunC Try.prog 75 := ⟨⟨_, _, Try.func75, by kernel_rfl, rfl⟩⟩  -- nacelle/extent.Place
instance : FunC Try.prog 76 := ⟨⟨_, _, Try.func76, by kernel_rfl, rfl⟩⟩  -- (*nacelle/disk.Disk).Flush
instance : FunC Try.prog 80 := ⟨⟨_, _, Try.func80, by kernel_rfl, rfl⟩⟩  -- slices.pdqsortCmpFunc[nacelle/extent.Extent]
instance : FunC Try.prog 83 := ⟨⟨_, _, Try.func83, by kernel_rfl, rfl⟩⟩  -- slices.insertionSortCmpFunc[nacelle/extent.Extent]
end Go.Proofs.Ytmcojfpomejnnaa
namespace Go.Proofs
open Go.Shelf
def Try.sortExt_ren : Go.Shelf.Ren := ⟨fun | 6 => 71 | 15 => 81 | 14 => 80 | 28 => 91 | 29 => 92 | 20 => 83 | 21 => 84 | 22 => 85 | 23 => 86 | 24 => 87 | 25 => 88 | 26 => 89 | 27 => 90 | 46 => 93 | 47 => 94 | 48 => 95 | 49 => 96 | 50 => 97 | 57 => 98 | n => n, fun | 22 => 34 | 24 => 33 | 25 => 157 | 3 => 3 | 39 => 170 | 0 => 0 | 53 => 179 | 55 => 41 | 4 => 4 | 46 => 173 | 45 => 172 | 50 => 121 | 5 => 5 | 9 => 9 | 66 => 181 | 70 => 185 | 76 => 187 | 77 => 188 | n => n, fun | n => n⟩
theorem Try.sortExt : Go.Proofs.SlLaysF0.n6 Try.prog Try.sortExt_ren := {
  mixed := by kernel_rfl
  f6 := ⟨Try.f71.name, by decide, Try.func71.trans (congrArg some (by kernel_rfl))⟩
  f14 := ⟨Try.f80.name, by decide, Try.func80.trans (congrArg some (by kernel_rfl))⟩
  f15 := Try.func81.trans (congrArg some (by kernel_rfl))
  f20 := ⟨Try.f83.name, by decide, Try.func83.trans (congrArg some (by kernel_rfl))⟩
  f21 := ⟨Try.f84.name, by decide, Try.func84.trans (congrArg some (by kernel_rfl))⟩
  f22 := ⟨Try.f85.name, by decide, Try.func85.trans (congrArg some (by kernel_rfl))⟩
  f23 := ⟨Try.f86.name, by decide, Try.func86.trans (congrArg some (by kernel_rfl))⟩
  f24 := ⟨Try.f87.name, by decide, Try.func87.trans (congrArg some (by kernel_rfl))⟩
  f25 := ⟨Try.f88.name, by decide, Try.func88.trans (congrArg some (by kernel_rfl))⟩
  f26 := ⟨Try.f89.name, by decide, Try.func89.trans (congrArg some (by kernel_rfl))⟩
  f27 := ⟨Try.f90.name, by decide, Try.func90.trans (congrArg some (by kernel_rfl))⟩
  f28 := Try.func91.trans (congrArg some (by kernel_rfl))
  f29 := Try.func92.trans (congrArg some (by kernel_rfl))
  f46 := ⟨Try.f93.name, by decide, Try.func93.trans (congrArg some (by kernel_rfl))⟩
  f47 := Try.func94.trans (congrArg some (by kernel_rfl))
  f48 := Try.func95.trans (congrArg some (by kernel_rfl))
  f49 := ⟨Try.f96.name, by decide, Try.func96.trans (congrArg some (by kernel_rfl))⟩
  f50 := ⟨Try.f97.name, by decide, Try.func97.trans (congrArg some (by kernel_rfl))⟩
  f57 := ⟨Try.f98.name, by decide, Try.func98.trans (congrArg some (by kernel_rfl))⟩
  t0 := Try.underlying0
  a0 := Try.isAgg0
  z0 := Try.sizeOf0
  v0 := Try.zeroValue0
  t3 := Try.underlying3
  a3 := Try.isAgg3
  z3 := Try.sizeOf3
  v3 := Try.zeroValue3
  t4 := Try.underlying4
  a4 := Try.isAgg4
  z4 := Try.sizeOf4
  v4 := Try.zeroValue4
  t5 := Try.underlying5
  a5 := Try.isAgg5
  z5 := Try.sizeOf5
  v5 := Try.zeroValue5
  t9 := Try.underlying9
  a9 := Try.isAgg9
  z9 := Try.sizeOf9
  v9 := Try.zeroValue9
  t22 := Try.underlying34
  a22 := Try.isAgg34
  z22 := Try.sizeOf34
  v22 := Try.zeroValue34
  t25 := Try.underlying157
  a25 := Try.isAgg157
  z25 := Try.sizeOf157
  v25 := Try.zeroValue157
  t39 := Try.underlying170
  a39 := Try.isAgg170
  z39 := Try.sizeOf170
  v39 := Try.zeroValue170
  t45 := Try.underlying172
  a45 := Try.isAgg172
  z45 := Try.sizeOf172
  v45 := Try.zeroValue172
  t46 := Try.underlying173
  a46 := Try.isAgg173
  z46 := Try.sizeOf173
  v46 := Try.zeroValue173
  t50 := Try.underlying121
  a50 := Try.isAgg121
  z50 := Try.sizeOf121
  v50 := Try.zeroValue121
  t53 := Try.underlying179
  a53 := Try.isAgg179
  z53 := Try.sizeOf179
  v53 := Try.zeroValue179
  t55 := Try.underlying41
  a55 := Try.isAgg41
  z55 := Try.sizeOf41
  v55 := Try.zeroValue41
  t66 := Try.underlying181
  a66 := Try.isAgg181
  z66 := Try.sizeOf181
  v66 := Try.zeroValue181
  t70 := Try.underlying185
  a70 := Try.isAgg185
  z70 := Try.sizeOf185
  v70 := Try.zeroValue185
  t76 := Try.underlying187
  a76 := Try.isAgg187
  z76 := Try.sizeOf187
  v76 := Try.zeroValue187
  t77 := Try.underlying188
  a77 := Try.isAgg188
  z77 := Try.sizeOf188
  v77 := Try.zeroValue188 }
def Try.cmpInt_ren : Go.Shelf.Ren := ⟨fun | 5 => 73 | 7 => 82 | n => n, fun | 22 => 3 | 3 => 3 | 4 => 4 | n => n, fun | n => n⟩
theorem Try.cmpInt : Go.Proofs.SlLaysC2.n5 Try.prog Try.cmpInt_ren := {
  mixed := by kernel_rfl
  f5 := ⟨Try.f73.name, by decide, Try.func73.trans (congrArg some (by kernel_rfl))⟩
  f7 := ⟨Try.f82.name, by decide, Try.func82.trans (congrArg some (by kernel_rfl))⟩
  t3 := Try.underlying3
  a3 := Try.isAgg3
  z3 := Try.sizeOf3
  v3 := Try.zeroValue3
  t4 := Try.underlying4
  a4 := Try.isAgg4
  z4 := Try.sizeOf4
  v4 := Try.zeroValue4
  t22 := Try.underlying3
  a22 := Try.isAgg3
  z22 := Try.sizeOf3
  v22 := Try.zeroValue3 }
def Try.bitsLen_ren : Go.Shelf.Ren := ⟨fun | 125 => 81 | 128 => 91 | 129 => 92 | n => n, fun | 46 => 170 | 3 => 3 | 51 => 179 | 53 => 41 | 4 => 4 | 5 => 5 | 9 => 9 | n => n, fun | n => n⟩
theorem Try.bitsLen : Go.Proofs.Lays.n125 Try.prog Try.bitsLen_ren := {
  mixed := by kernel_rfl
  f125 := Try.func81.trans (congrArg some (by kernel_rfl))
  f128 := Try.func91.trans (congrArg some (by kernel_rfl))
  f129 := Try.func92.trans (congrArg some (by kernel_rfl))
  t3 := Try.underlying3
  a3 := Try.isAgg3
  z3 := Try.sizeOf3
  v3 := Try.zeroValue3
  t4 := Try.underlying4
  a4 := Try.isAgg4
  z4 := Try.sizeOf4
  v4 := Try.zeroValue4
  t5 := Try.underlying5
  a5 := Try.isAgg5
  z5 := Try.sizeOf5
  v5 := Try.zeroValue5
  t9 := Try.underlying9
  a9 := Try.isAgg9
  z9 := Try.sizeOf9
  v9 := Try.zeroValue9
  t46 := Try.underlying170
  a46 := Try.isAgg170
  z46 := Try.sizeOf170
  v46 := Try.zeroValue170
  t51 := Try.underlying179
  a51 := Try.isAgg179
  z51 := Try.sizeOf179
  v51 := Try.zeroValue179
  t53 := Try.underlying41
  a53 := Try.isAgg41
  z53 := Try.sizeOf41
  v53 := Try.zeroValue41 }
end Go.Proofs

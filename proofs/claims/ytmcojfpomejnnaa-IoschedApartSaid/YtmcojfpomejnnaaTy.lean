/- The types of the program, as instances; by types.py. -/
import Derived.Test.YtmcojfpomejnnaaRows
import Derived.Test.YtmcojfpomejnnaaK3
set_option linter.unusedSimpArgs false
namespace Go.Proofs.Ytmcojfpomejnnaa
open Go Go.RowKit Go.Own
-- 1 func()
instance : OneC Try.prog 1 := ⟨⟨_, Try.underlying1, rfl⟩, by kernel_rfl⟩
instance : ZeroC Try.prog 1 ([.nilFunc]) := ⟨⟨.nilFunc, by kernel_rfl, by kernel_rfl⟩⟩
-- 2 int64
instance : OneC Try.prog 2 := ⟨⟨_, Try.underlying2, rfl⟩, by kernel_rfl⟩
instance : ZeroC Try.prog 2 ([.int .i64 0]) := ⟨⟨.int .i64 0, by kernel_rfl, by kernel_rfl⟩⟩
instance : IntC Try.prog 2 .i64 := ⟨Try.underlying2⟩
-- 3 int
instance : OneC Try.prog 3 := ⟨⟨_, Try.underlying3, rfl⟩, by kernel_rfl⟩
instance : ZeroC Try.prog 3 ([.int .i64 0]) := ⟨⟨.int .i64 0, by kernel_rfl, by kernel_rfl⟩⟩
instance : IntC Try.prog 3 .i64 := ⟨Try.underlying3⟩
-- 4 bool
instance : OneC Try.prog 4 := ⟨⟨_, Try.underlying4, rfl⟩, by kernel_rfl⟩
instance : ZeroC Try.prog 4 ([.bool false]) := ⟨⟨.bool false, by kernel_rfl, by kernel_rfl⟩⟩
instance : BoolC Try.prog 4 := ⟨Try.underlying4⟩
-- 5 uint8
instance : OneC Try.prog 5 := ⟨⟨_, Try.underlying5, rfl⟩, by kernel_rfl⟩
instance : ZeroC Try.prog 5 ([.int .u8 0]) := ⟨⟨.int .u8 0, by kernel_rfl, by kernel_rfl⟩⟩
instance : IntC Try.prog 5 .u8 := ⟨Try.underlying5⟩
-- 6 abi.BoundsErrorCode
instance : OneC Try.prog 6 := ⟨⟨_, Try.underlying6, rfl⟩, by kernel_rfl⟩
instance : ZeroC Try.prog 6 ([.int .u8 0]) := ⟨⟨.int .u8 0, by kernel_rfl, by kernel_rfl⟩⟩
instance : IntC Try.prog 6 .u8 := ⟨Try.underlying6⟩
-- 7 struct%20{%20x%20int64;%20y%20int;%20signed%20bool;%20code%20abi.BoundsErrorCode%20}
instance : RowC Try.prog 7 4 := ⟨⟨_, Try.underlying7, rfl⟩, by kernel_rfl⟩
instance : ZeroC Try.prog 7 ([.int .i64 0, .int .i64 0, .bool false, .int .u8 0]) := ⟨⟨.agg ([.int .i64 0, .int .i64 0, .bool false, .int .u8 0]).toArray, by kernel_rfl, by kernel_rfl⟩⟩
instance : FldC Try.prog 7 0 0 := ⟨⟨_, _, Try.underlying7, rfl, rfl, 0, by kernel_rfl⟩⟩
instance : FldV Try.prog 7 0 0 1 true := ⟨⟨_, _, _, Try.underlying7, rfl, rfl, by kernel_rfl, Try.underlying2, rfl⟩⟩
instance : FldC Try.prog 7 1 1 := ⟨⟨_, _, Try.underlying7, rfl, rfl, 0, by kernel_rfl⟩⟩
instance : FldV Try.prog 7 1 1 1 true := ⟨⟨_, _, _, Try.underlying7, rfl, rfl, by kernel_rfl, Try.underlying3, rfl⟩⟩
instance : FldC Try.prog 7 2 2 := ⟨⟨_, _, Try.underlying7, rfl, rfl, 0, by kernel_rfl⟩⟩
instance : FldV Try.prog 7 2 2 1 true := ⟨⟨_, _, _, Try.underlying7, rfl, rfl, by kernel_rfl, Try.underlying4, rfl⟩⟩
instance : FldC Try.prog 7 3 3 := ⟨⟨_, _, Try.underlying7, rfl, rfl, 0, by kernel_rfl⟩⟩
instance : FldV Try.prog 7 3 3 1 true := ⟨⟨_, _, _, Try.underlying7, rfl, rfl, by kernel_rfl, Try.underlying6, rfl⟩⟩
-- 9 string
instance : OneC Try.prog 9 := ⟨⟨_, Try.underlying9, rfl⟩, by kernel_rfl⟩
instance : ZeroC Try.prog 9 ([.string ⟨#[]⟩]) := ⟨⟨.string ⟨#[]⟩, by kernel_rfl, by kernel_rfl⟩⟩
instance : StrC Try.prog 9 := ⟨Try.underlying9⟩
-- 10 runtime.errorString
instance : OneC Try.prog 10 := ⟨⟨_, Try.underlying10, rfl⟩, by kernel_rfl⟩
instance : ZeroC Try.prog 10 ([.string ⟨#[]⟩]) := ⟨⟨.string ⟨#[]⟩, by kernel_rfl, by kernel_rfl⟩⟩
instance : StrC Try.prog 10 := ⟨Try.underlying10⟩
-- 11 runtime.plainError
instance : OneC Try.prog 11 := ⟨⟨_, Try.underlying11, rfl⟩, by kernel_rfl⟩
instance : ZeroC Try.prog 11 ([.string ⟨#[]⟩]) := ⟨⟨.string ⟨#[]⟩, by kernel_rfl, by kernel_rfl⟩⟩
instance : StrC Try.prog 11 := ⟨Try.underlying11⟩
-- 12 uintptr
instance : OneC Try.prog 12 := ⟨⟨_, Try.underlying12, rfl⟩, by kernel_rfl⟩
instance : ZeroC Try.prog 12 ([.int .u64 0]) := ⟨⟨.int .u64 0, by kernel_rfl, by kernel_rfl⟩⟩
instance : IntC Try.prog 12 .u64 := ⟨Try.underlying12⟩
-- 13 struct%20{%20msg%20string;%20addr%20uintptr%20}
instance : RowC Try.prog 13 2 := ⟨⟨_, Try.underlying13, rfl⟩, by kernel_rfl⟩
instance : ZeroC Try.prog 13 ([.string ⟨#[]⟩, .int .u64 0]) := ⟨⟨.agg ([.string ⟨#[]⟩, .int .u64 0]).toArray, by kernel_rfl, by kernel_rfl⟩⟩
instance : FldC Try.prog 13 0 0 := ⟨⟨_, _, Try.underlying13, rfl, rfl, 0, by kernel_rfl⟩⟩
instance : FldV Try.prog 13 0 0 1 true := ⟨⟨_, _, _, Try.underlying13, rfl, rfl, by kernel_rfl, Try.underlying9, rfl⟩⟩
instance : FldC Try.prog 13 1 1 := ⟨⟨_, _, Try.underlying13, rfl, rfl, 0, by kernel_rfl⟩⟩
instance : FldV Try.prog 13 1 1 1 true := ⟨⟨_, _, _, Try.underlying13, rfl, rfl, by kernel_rfl, Try.underlying12, rfl⟩⟩
-- 15 *runtime.TypeAssertionError
instance : OneC Try.prog 15 := ⟨⟨_, Try.underlying15, rfl⟩, by kernel_rfl⟩
instance : ZeroC Try.prog 15 ([.pointer none]) := ⟨⟨.pointer none, by kernel_rfl, by kernel_rfl⟩⟩
instance : PtrC Try.prog 15 191 := ⟨Try.underlying15⟩
-- 16 *runtime.PanicNilError
instance : OneC Try.prog 16 := ⟨⟨_, Try.underlying16, rfl⟩, by kernel_rfl⟩
instance : ZeroC Try.prog 16 ([.pointer none]) := ⟨⟨.pointer none, by kernel_rfl, by kernel_rfl⟩⟩
instance : PtrC Try.prog 16 194 := ⟨Try.underlying16⟩
-- 17 *abi.Type
instance : OneC Try.prog 17 := ⟨⟨_, Try.underlying17, rfl⟩, by kernel_rfl⟩
instance : ZeroC Try.prog 17 ([.pointer none]) := ⟨⟨.pointer none, by kernel_rfl, by kernel_rfl⟩⟩
instance : PtrC Try.prog 17 202 := ⟨Try.underlying17⟩
-- 18 struct%20{%20typ%20*abi.Type%20}
instance : RowC Try.prog 18 1 := ⟨⟨_, Try.underlying18, rfl⟩, by kernel_rfl⟩
instance : ZeroC Try.prog 18 ([.pointer none]) := ⟨⟨.agg ([.pointer none]).toArray, by kernel_rfl, by kernel_rfl⟩⟩
instance : FldC Try.prog 18 0 0 := ⟨⟨_, _, Try.underlying18, rfl, rfl, 0, by kernel_rfl⟩⟩
instance : FldV Try.prog 18 0 0 1 true := ⟨⟨_, _, _, Try.underlying18, rfl, rfl, by kernel_rfl, Try.underlying17, rfl⟩⟩
-- 20 interface%20{}
instance : OneC Try.prog 20 := ⟨⟨_, Try.underlying20, rfl⟩, by kernel_rfl⟩
instance : ZeroC Try.prog 20 ([.nilIface]) := ⟨⟨.nilIface, by kernel_rfl, by kernel_rfl⟩⟩
-- 21 int32
instance : OneC Try.prog 21 := ⟨⟨_, Try.underlying21, rfl⟩, by kernel_rfl⟩
instance : ZeroC Try.prog 21 ([.int .i32 0]) := ⟨⟨.int .i32 0, by kernel_rfl, by kernel_rfl⟩⟩
instance : IntC Try.prog 21 .i32 := ⟨Try.underlying21⟩
-- 22 []int
instance : OneC Try.prog 22 := ⟨⟨_, Try.underlying22, rfl⟩, by kernel_rfl⟩
instance : ZeroC Try.prog 22 ([.slice none 0 0]) := ⟨⟨.slice none 0 0, by kernel_rfl, by kernel_rfl⟩⟩
instance : ElC Try.prog 22 3 1 8 ([.int .i64 0]) := ⟨⟨.int .i64 0, elT Try.underlying22 (by kernel_rfl) (by kernel_rfl) (by decide), by kernel_rfl⟩⟩
-- 23 []nacellelaw15.Act
instance : OneC Try.prog 23 := ⟨⟨_, Try.underlying23, rfl⟩, by kernel_rfl⟩
instance : ZeroC Try.prog 23 ([.slice none 0 0]) := ⟨⟨.slice none 0 0, by kernel_rfl, by kernel_rfl⟩⟩
instance : ElC Try.prog 23 40 8 72 ([.int .i64 0, .int .i64 0, .int .i64 0, .int .i64 0, .bool false, .int .u8 0, .int .i64 0, .slice none 0 0]) := ⟨⟨.agg ([.int .i64 0, .int .i64 0, .int .i64 0, .int .i64 0, .bool false, .int .u8 0, .int .i64 0, .slice none 0 0]).toArray, elT Try.underlying23 (by kernel_rfl) (by kernel_rfl) (by decide), by kernel_rfl⟩⟩
-- 24 []bool
instance : OneC Try.prog 24 := ⟨⟨_, Try.underlying24, rfl⟩, by kernel_rfl⟩
instance : ZeroC Try.prog 24 ([.slice none 0 0]) := ⟨⟨.slice none 0 0, by kernel_rfl, by kernel_rfl⟩⟩
instance : ElC Try.prog 24 4 1 1 ([.bool false]) := ⟨⟨.bool false, elT Try.underlying24 (by kernel_rfl) (by kernel_rfl) (by decide), by kernel_rfl⟩⟩
-- 25 *disk.Disk
instance : OneC Try.prog 25 := ⟨⟨_, Try.underlying25, rfl⟩, by kernel_rfl⟩
instance : ZeroC Try.prog 25 ([.pointer none]) := ⟨⟨.pointer none, by kernel_rfl, by kernel_rfl⟩⟩
instance : PtrC Try.prog 25 132 := ⟨Try.underlying25⟩
-- 26 api.Errno
instance : OneC Try.prog 26 := ⟨⟨_, Try.underlying26, rfl⟩, by kernel_rfl⟩
instance : ZeroC Try.prog 26 ([.int .i64 0]) := ⟨⟨.int .i64 0, by kernel_rfl, by kernel_rfl⟩⟩
instance : IntC Try.prog 26 .i64 := ⟨Try.underlying26⟩
-- 28 func(int)%20(*disk.Disk,%20api.Errno)
instance : OneC Try.prog 28 := ⟨⟨_, Try.underlying28, rfl⟩, by kernel_rfl⟩
instance : ZeroC Try.prog 28 ([.nilFunc]) := ⟨⟨.nilFunc, by kernel_rfl, by kernel_rfl⟩⟩
-- 29 *iosched.Schedule
instance : OneC Try.prog 29 := ⟨⟨_, Try.underlying29, rfl⟩, by kernel_rfl⟩
instance : ZeroC Try.prog 29 ([.pointer none]) := ⟨⟨.pointer none, by kernel_rfl, by kernel_rfl⟩⟩
instance : PtrC Try.prog 29 136 := ⟨Try.underlying29⟩
-- 31 func(*disk.Disk,%20[]extent.Extent,%20[]int,%20[]int)%20(*iosched.Schedule,%20api.Errno)
instance : OneC Try.prog 31 := ⟨⟨_, Try.underlying31, rfl⟩, by kernel_rfl⟩
instance : ZeroC Try.prog 31 ([.nilFunc]) := ⟨⟨.nilFunc, by kernel_rfl, by kernel_rfl⟩⟩
-- 32 struct%20{%20From%20int;%20Count%20int%20}
instance : RowC Try.prog 32 2 := ⟨⟨_, Try.underlying32, rfl⟩, by kernel_rfl⟩
instance : ZeroC Try.prog 32 ([.int .i64 0, .int .i64 0]) := ⟨⟨.agg ([.int .i64 0, .int .i64 0]).toArray, by kernel_rfl, by kernel_rfl⟩⟩
instance : FldC Try.prog 32 0 0 := ⟨⟨_, _, Try.underlying32, rfl, rfl, 0, by kernel_rfl⟩⟩
instance : FldV Try.prog 32 0 0 1 true := ⟨⟨_, _, _, Try.underlying32, rfl, rfl, by kernel_rfl, Try.underlying3, rfl⟩⟩
instance : FldC Try.prog 32 1 1 := ⟨⟨_, _, Try.underlying32, rfl, rfl, 0, by kernel_rfl⟩⟩
instance : FldV Try.prog 32 1 1 1 true := ⟨⟨_, _, _, Try.underlying32, rfl, rfl, by kernel_rfl, Try.underlying3, rfl⟩⟩
-- 33 extent.Extent
instance : RowC Try.prog 33 2 := ⟨⟨_, Try.underlying33, rfl⟩, by kernel_rfl⟩
instance : ZeroC Try.prog 33 ([.int .i64 0, .int .i64 0]) := ⟨⟨.agg ([.int .i64 0, .int .i64 0]).toArray, by kernel_rfl, by kernel_rfl⟩⟩
instance : FldC Try.prog 33 0 0 := ⟨⟨_, _, Try.underlying33, rfl, rfl, 0, by kernel_rfl⟩⟩
instance : FldV Try.prog 33 0 0 1 true := ⟨⟨_, _, _, Try.underlying33, rfl, rfl, by kernel_rfl, Try.underlying3, rfl⟩⟩
instance : FldC Try.prog 33 1 1 := ⟨⟨_, _, Try.underlying33, rfl, rfl, 0, by kernel_rfl⟩⟩
instance : FldV Try.prog 33 1 1 1 true := ⟨⟨_, _, _, Try.underlying33, rfl, rfl, by kernel_rfl, Try.underlying3, rfl⟩⟩
-- 34 []extent.Extent
instance : OneC Try.prog 34 := ⟨⟨_, Try.underlying34, rfl⟩, by kernel_rfl⟩
instance : ZeroC Try.prog 34 ([.slice none 0 0]) := ⟨⟨.slice none 0 0, by kernel_rfl, by kernel_rfl⟩⟩
instance : ElC Try.prog 34 33 2 16 ([.int .i64 0, .int .i64 0]) := ⟨⟨.agg ([.int .i64 0, .int .i64 0]).toArray, elT Try.underlying34 (by kernel_rfl) (by kernel_rfl) (by decide), by kernel_rfl⟩⟩
-- 35 []uint8
instance : OneC Try.prog 35 := ⟨⟨_, Try.underlying35, rfl⟩, by kernel_rfl⟩
instance : ZeroC Try.prog 35 ([.slice none 0 0]) := ⟨⟨.slice none 0 0, by kernel_rfl, by kernel_rfl⟩⟩
instance : ElC Try.prog 35 5 1 1 ([.int .u8 0]) := ⟨⟨.int .u8 0, elT Try.underlying35 (by kernel_rfl) (by kernel_rfl) (by decide), by kernel_rfl⟩⟩
instance : BytesC Try.prog 35 := ⟨⟨_, Try.underlying35, Try.underlying5, by kernel_rfl⟩⟩
-- 36 [12][]uint8
instance : RowC Try.prog 36 12 := ⟨⟨_, Try.underlying36, rfl⟩, by kernel_rfl⟩
instance : ZeroC Try.prog 36 ([.slice none 0 0, .slice none 0 0, .slice none 0 0, .slice none 0 0, .slice none 0 0, .slice none 0 0, .slice none 0 0, .slice none 0 0, .slice none 0 0, .slice none 0 0, .slice none 0 0, .slice none 0 0]) := ⟨⟨.agg ([.slice none 0 0, .slice none 0 0, .slice none 0 0, .slice none 0 0, .slice none 0 0, .slice none 0 0, .slice none 0 0, .slice none 0 0, .slice none 0 0, .slice none 0 0, .slice none 0 0, .slice none 0 0]).toArray, by kernel_rfl, by kernel_rfl⟩⟩
instance : ArrC Try.prog 36 12 1 true := ⟨⟨_, _, Try.underlying36, by kernel_rfl, Try.underlying35, rfl⟩⟩
-- 37 [12]uint8
instance : RowC Try.prog 37 12 := ⟨⟨_, Try.underlying37, rfl⟩, by kernel_rfl⟩
instance : ZeroC Try.prog 37 ([.int .u8 0, .int .u8 0, .int .u8 0, .int .u8 0, .int .u8 0, .int .u8 0, .int .u8 0, .int .u8 0, .int .u8 0, .int .u8 0, .int .u8 0, .int .u8 0]) := ⟨⟨.agg ([.int .u8 0, .int .u8 0, .int .u8 0, .int .u8 0, .int .u8 0, .int .u8 0, .int .u8 0, .int .u8 0, .int .u8 0, .int .u8 0, .int .u8 0, .int .u8 0]).toArray, by kernel_rfl, by kernel_rfl⟩⟩
instance : ArrC Try.prog 37 12 1 true := ⟨⟨_, _, Try.underlying37, by kernel_rfl, Try.underlying5, rfl⟩⟩
-- 38 [2][]nacellelaw15.Act
instance : RowC Try.prog 38 2 := ⟨⟨_, Try.underlying38, rfl⟩, by kernel_rfl⟩
instance : ZeroC Try.prog 38 ([.slice none 0 0, .slice none 0 0]) := ⟨⟨.agg ([.slice none 0 0, .slice none 0 0]).toArray, by kernel_rfl, by kernel_rfl⟩⟩
instance : ArrC Try.prog 38 2 1 true := ⟨⟨_, _, Try.underlying38, by kernel_rfl, Try.underlying23, rfl⟩⟩
-- 39 struct%20{%20Do%20int;%20Part%20int;%20Kind%20int;%20At%20int;%20Data%20bool;%20Fill%20uint8;%20Off%20int;%20Keep%20[]bool%20}
instance : RowC Try.prog 39 8 := ⟨⟨_, Try.underlying39, rfl⟩, by kernel_rfl⟩
instance : ZeroC Try.prog 39 ([.int .i64 0, .int .i64 0, .int .i64 0, .int .i64 0, .bool false, .int .u8 0, .int .i64 0, .slice none 0 0]) := ⟨⟨.agg ([.int .i64 0, .int .i64 0, .int .i64 0, .int .i64 0, .bool false, .int .u8 0, .int .i64 0, .slice none 0 0]).toArray, by kernel_rfl, by kernel_rfl⟩⟩
instance : FldC Try.prog 39 0 0 := ⟨⟨_, _, Try.underlying39, rfl, rfl, 0, by kernel_rfl⟩⟩
instance : FldV Try.prog 39 0 0 1 true := ⟨⟨_, _, _, Try.underlying39, rfl, rfl, by kernel_rfl, Try.underlying3, rfl⟩⟩
instance : FldC Try.prog 39 1 1 := ⟨⟨_, _, Try.underlying39, rfl, rfl, 0, by kernel_rfl⟩⟩
instance : FldV Try.prog 39 1 1 1 true := ⟨⟨_, _, _, Try.underlying39, rfl, rfl, by kernel_rfl, Try.underlying3, rfl⟩⟩
instance : FldC Try.prog 39 2 2 := ⟨⟨_, _, Try.underlying39, rfl, rfl, 0, by kernel_rfl⟩⟩
instance : FldV Try.prog 39 2 2 1 true := ⟨⟨_, _, _, Try.underlying39, rfl, rfl, by kernel_rfl, Try.underlying3, rfl⟩⟩
instance : FldC Try.prog 39 3 3 := ⟨⟨_, _, Try.underlying39, rfl, rfl, 0, by kernel_rfl⟩⟩
instance : FldV Try.prog 39 3 3 1 true := ⟨⟨_, _, _, Try.underlying39, rfl, rfl, by kernel_rfl, Try.underlying3, rfl⟩⟩
instance : FldC Try.prog 39 4 4 := ⟨⟨_, _, Try.underlying39, rfl, rfl, 0, by kernel_rfl⟩⟩
instance : FldV Try.prog 39 4 4 1 true := ⟨⟨_, _, _, Try.underlying39, rfl, rfl, by kernel_rfl, Try.underlying4, rfl⟩⟩
instance : FldC Try.prog 39 5 5 := ⟨⟨_, _, Try.underlying39, rfl, rfl, 0, by kernel_rfl⟩⟩
instance : FldV Try.prog 39 5 5 1 true := ⟨⟨_, _, _, Try.underlying39, rfl, rfl, by kernel_rfl, Try.underlying5, rfl⟩⟩
instance : FldC Try.prog 39 6 6 := ⟨⟨_, _, Try.underlying39, rfl, rfl, 0, by kernel_rfl⟩⟩
instance : FldV Try.prog 39 6 6 1 true := ⟨⟨_, _, _, Try.underlying39, rfl, rfl, by kernel_rfl, Try.underlying3, rfl⟩⟩
instance : FldC Try.prog 39 7 7 := ⟨⟨_, _, Try.underlying39, rfl, rfl, 0, by kernel_rfl⟩⟩
instance : FldV Try.prog 39 7 7 1 true := ⟨⟨_, _, _, Try.underlying39, rfl, rfl, by kernel_rfl, Try.underlying24, rfl⟩⟩
-- 40 nacellelaw15.Act
instance : RowC Try.prog 40 8 := ⟨⟨_, Try.underlying40, rfl⟩, by kernel_rfl⟩
instance : ZeroC Try.prog 40 ([.int .i64 0, .int .i64 0, .int .i64 0, .int .i64 0, .bool false, .int .u8 0, .int .i64 0, .slice none 0 0]) := ⟨⟨.agg ([.int .i64 0, .int .i64 0, .int .i64 0, .int .i64 0, .bool false, .int .u8 0, .int .i64 0, .slice none 0 0]).toArray, by kernel_rfl, by kernel_rfl⟩⟩
instance : FldC Try.prog 40 0 0 := ⟨⟨_, _, Try.underlying40, rfl, rfl, 0, by kernel_rfl⟩⟩
instance : FldV Try.prog 40 0 0 1 true := ⟨⟨_, _, _, Try.underlying40, rfl, rfl, by kernel_rfl, Try.underlying3, rfl⟩⟩
instance : FldC Try.prog 40 1 1 := ⟨⟨_, _, Try.underlying40, rfl, rfl, 0, by kernel_rfl⟩⟩
instance : FldV Try.prog 40 1 1 1 true := ⟨⟨_, _, _, Try.underlying40, rfl, rfl, by kernel_rfl, Try.underlying3, rfl⟩⟩
instance : FldC Try.prog 40 2 2 := ⟨⟨_, _, Try.underlying40, rfl, rfl, 0, by kernel_rfl⟩⟩
instance : FldV Try.prog 40 2 2 1 true := ⟨⟨_, _, _, Try.underlying40, rfl, rfl, by kernel_rfl, Try.underlying3, rfl⟩⟩
instance : FldC Try.prog 40 3 3 := ⟨⟨_, _, Try.underlying40, rfl, rfl, 0, by kernel_rfl⟩⟩
instance : FldV Try.prog 40 3 3 1 true := ⟨⟨_, _, _, Try.underlying40, rfl, rfl, by kernel_rfl, Try.underlying3, rfl⟩⟩
instance : FldC Try.prog 40 4 4 := ⟨⟨_, _, Try.underlying40, rfl, rfl, 0, by kernel_rfl⟩⟩
instance : FldV Try.prog 40 4 4 1 true := ⟨⟨_, _, _, Try.underlying40, rfl, rfl, by kernel_rfl, Try.underlying4, rfl⟩⟩
instance : FldC Try.prog 40 5 5 := ⟨⟨_, _, Try.underlying40, rfl, rfl, 0, by kernel_rfl⟩⟩
instance : FldV Try.prog 40 5 5 1 true := ⟨⟨_, _, _, Try.underlying40, rfl, rfl, by kernel_rfl, Try.underlying5, rfl⟩⟩
instance : FldC Try.prog 40 6 6 := ⟨⟨_, _, Try.underlying40, rfl, rfl, 0, by kernel_rfl⟩⟩
instance : FldV Try.prog 40 6 6 1 true := ⟨⟨_, _, _, Try.underlying40, rfl, rfl, by kernel_rfl, Try.underlying3, rfl⟩⟩
instance : FldC Try.prog 40 7 7 := ⟨⟨_, _, Try.underlying40, rfl, rfl, 0, by kernel_rfl⟩⟩
instance : FldV Try.prog 40 7 7 1 true := ⟨⟨_, _, _, Try.underlying40, rfl, rfl, by kernel_rfl, Try.underlying24, rfl⟩⟩
-- 41 uint64
instance : OneC Try.prog 41 := ⟨⟨_, Try.underlying41, rfl⟩, by kernel_rfl⟩
instance : ZeroC Try.prog 41 ([.int .u64 0]) := ⟨⟨.int .u64 0, by kernel_rfl, by kernel_rfl⟩⟩
instance : IntC Try.prog 41 .u64 := ⟨Try.underlying41⟩
-- 43 func(int,%20api.Request)%20(uint64,%20api.Errno)
instance : OneC Try.prog 43 := ⟨⟨_, Try.underlying43, rfl⟩, by kernel_rfl⟩
instance : ZeroC Try.prog 43 ([.nilFunc]) := ⟨⟨.nilFunc, by kernel_rfl, by kernel_rfl⟩⟩
-- 44 struct%20{%20Kind%20int;%20At%20int;%20Data%20[]uint8%20}
instance : RowC Try.prog 44 3 := ⟨⟨_, Try.underlying44, rfl⟩, by kernel_rfl⟩
instance : ZeroC Try.prog 44 ([.int .i64 0, .int .i64 0, .slice none 0 0]) := ⟨⟨.agg ([.int .i64 0, .int .i64 0, .slice none 0 0]).toArray, by kernel_rfl, by kernel_rfl⟩⟩
instance : FldC Try.prog 44 0 0 := ⟨⟨_, _, Try.underlying44, rfl, rfl, 0, by kernel_rfl⟩⟩
instance : FldV Try.prog 44 0 0 1 true := ⟨⟨_, _, _, Try.underlying44, rfl, rfl, by kernel_rfl, Try.underlying3, rfl⟩⟩
instance : FldC Try.prog 44 1 1 := ⟨⟨_, _, Try.underlying44, rfl, rfl, 0, by kernel_rfl⟩⟩
instance : FldV Try.prog 44 1 1 1 true := ⟨⟨_, _, _, Try.underlying44, rfl, rfl, by kernel_rfl, Try.underlying3, rfl⟩⟩
instance : FldC Try.prog 44 2 2 := ⟨⟨_, _, Try.underlying44, rfl, rfl, 0, by kernel_rfl⟩⟩
instance : FldV Try.prog 44 2 2 1 true := ⟨⟨_, _, _, Try.underlying44, rfl, rfl, by kernel_rfl, Try.underlying35, rfl⟩⟩
-- 46 func(nacellelaw15.Act)%20api.Request
instance : OneC Try.prog 46 := ⟨⟨_, Try.underlying46, rfl⟩, by kernel_rfl⟩
instance : ZeroC Try.prog 46 ([.nilFunc]) := ⟨⟨.nilFunc, by kernel_rfl, by kernel_rfl⟩⟩
-- 47 struct%20{%20Part%20int;%20N%20uint64;%20Data%20[]uint8;%20Code%20api.Errno%20}
instance : RowC Try.prog 47 4 := ⟨⟨_, Try.underlying47, rfl⟩, by kernel_rfl⟩
instance : ZeroC Try.prog 47 ([.int .i64 0, .int .u64 0, .slice none 0 0, .int .i64 0]) := ⟨⟨.agg ([.int .i64 0, .int .u64 0, .slice none 0 0, .int .i64 0]).toArray, by kernel_rfl, by kernel_rfl⟩⟩
instance : FldC Try.prog 47 0 0 := ⟨⟨_, _, Try.underlying47, rfl, rfl, 0, by kernel_rfl⟩⟩
instance : FldV Try.prog 47 0 0 1 true := ⟨⟨_, _, _, Try.underlying47, rfl, rfl, by kernel_rfl, Try.underlying3, rfl⟩⟩
instance : FldC Try.prog 47 1 1 := ⟨⟨_, _, Try.underlying47, rfl, rfl, 0, by kernel_rfl⟩⟩
instance : FldV Try.prog 47 1 1 1 true := ⟨⟨_, _, _, Try.underlying47, rfl, rfl, by kernel_rfl, Try.underlying41, rfl⟩⟩
instance : FldC Try.prog 47 2 2 := ⟨⟨_, _, Try.underlying47, rfl, rfl, 0, by kernel_rfl⟩⟩
instance : FldV Try.prog 47 2 2 1 true := ⟨⟨_, _, _, Try.underlying47, rfl, rfl, by kernel_rfl, Try.underlying35, rfl⟩⟩
instance : FldC Try.prog 47 3 3 := ⟨⟨_, _, Try.underlying47, rfl, rfl, 0, by kernel_rfl⟩⟩
instance : FldV Try.prog 47 3 3 1 true := ⟨⟨_, _, _, Try.underlying47, rfl, rfl, by kernel_rfl, Try.underlying26, rfl⟩⟩
-- 50 func()%20(api.Done,%20bool)
instance : OneC Try.prog 50 := ⟨⟨_, Try.underlying50, rfl⟩, by kernel_rfl⟩
instance : ZeroC Try.prog 50 ([.nilFunc]) := ⟨⟨.nilFunc, by kernel_rfl, by kernel_rfl⟩⟩
-- 51 func(uint8,%20int)%20[]uint8
instance : OneC Try.prog 51 := ⟨⟨_, Try.underlying51, rfl⟩, by kernel_rfl⟩
instance : ZeroC Try.prog 51 ([.nilFunc]) := ⟨⟨.nilFunc, by kernel_rfl, by kernel_rfl⟩⟩
-- 52 func([]bool)
instance : OneC Try.prog 52 := ⟨⟨_, Try.underlying52, rfl⟩, by kernel_rfl⟩
instance : ZeroC Try.prog 52 ([.nilFunc]) := ⟨⟨.nilFunc, by kernel_rfl, by kernel_rfl⟩⟩
-- 54 func(int)%20([]uint8,%20api.Errno)
instance : OneC Try.prog 54 := ⟨⟨_, Try.underlying54, rfl⟩, by kernel_rfl⟩
instance : ZeroC Try.prog 54 ([.nilFunc]) := ⟨⟨.nilFunc, by kernel_rfl, by kernel_rfl⟩⟩
-- 55 func()%20string
instance : OneC Try.prog 55 := ⟨⟨_, Try.underlying55, rfl⟩, by kernel_rfl⟩
instance : ZeroC Try.prog 55 ([.nilFunc]) := ⟨⟨.nilFunc, by kernel_rfl, by kernel_rfl⟩⟩
-- 56 func([]int,%20[]nacellelaw15.Act,%20[]bool)%20bool
instance : OneC Try.prog 56 := ⟨⟨_, Try.underlying56, rfl⟩, by kernel_rfl⟩
instance : ZeroC Try.prog 56 ([.nilFunc]) := ⟨⟨.nilFunc, by kernel_rfl, by kernel_rfl⟩⟩
-- 57 struct%20{%20Extents%20[]extent.Extent;%20Rooms%20[]int;%20Slots%20[]int%20}
instance : RowC Try.prog 57 3 := ⟨⟨_, Try.underlying57, rfl⟩, by kernel_rfl⟩
instance : ZeroC Try.prog 57 ([.slice none 0 0, .slice none 0 0, .slice none 0 0]) := ⟨⟨.agg ([.slice none 0 0, .slice none 0 0, .slice none 0 0]).toArray, by kernel_rfl, by kernel_rfl⟩⟩
instance : FldC Try.prog 57 0 0 := ⟨⟨_, _, Try.underlying57, rfl, rfl, 0, by kernel_rfl⟩⟩
instance : FldV Try.prog 57 0 0 1 true := ⟨⟨_, _, _, Try.underlying57, rfl, rfl, by kernel_rfl, Try.underlying34, rfl⟩⟩
instance : FldC Try.prog 57 1 1 := ⟨⟨_, _, Try.underlying57, rfl, rfl, 0, by kernel_rfl⟩⟩
instance : FldV Try.prog 57 1 1 1 true := ⟨⟨_, _, _, Try.underlying57, rfl, rfl, by kernel_rfl, Try.underlying22, rfl⟩⟩
instance : FldC Try.prog 57 2 2 := ⟨⟨_, _, Try.underlying57, rfl, rfl, 0, by kernel_rfl⟩⟩
instance : FldV Try.prog 57 2 2 1 true := ⟨⟨_, _, _, Try.underlying57, rfl, rfl, by kernel_rfl, Try.underlying22, rfl⟩⟩
-- 58 nacellelaw15.Shape
instance : RowC Try.prog 58 3 := ⟨⟨_, Try.underlying58, rfl⟩, by kernel_rfl⟩
instance : ZeroC Try.prog 58 ([.slice none 0 0, .slice none 0 0, .slice none 0 0]) := ⟨⟨.agg ([.slice none 0 0, .slice none 0 0, .slice none 0 0]).toArray, by kernel_rfl, by kernel_rfl⟩⟩
instance : FldC Try.prog 58 0 0 := ⟨⟨_, _, Try.underlying58, rfl, rfl, 0, by kernel_rfl⟩⟩
instance : FldV Try.prog 58 0 0 1 true := ⟨⟨_, _, _, Try.underlying58, rfl, rfl, by kernel_rfl, Try.underlying34, rfl⟩⟩
instance : FldC Try.prog 58 1 1 := ⟨⟨_, _, Try.underlying58, rfl, rfl, 0, by kernel_rfl⟩⟩
instance : FldV Try.prog 58 1 1 1 true := ⟨⟨_, _, _, Try.underlying58, rfl, rfl, by kernel_rfl, Try.underlying22, rfl⟩⟩
instance : FldC Try.prog 58 2 2 := ⟨⟨_, _, Try.underlying58, rfl, rfl, 0, by kernel_rfl⟩⟩
instance : FldV Try.prog 58 2 2 1 true := ⟨⟨_, _, _, Try.underlying58, rfl, rfl, by kernel_rfl, Try.underlying22, rfl⟩⟩
-- 59 func(nacellelaw15.Shape)%20nacellelaw15.Shape
instance : OneC Try.prog 59 := ⟨⟨_, Try.underlying59, rfl⟩, by kernel_rfl⟩
instance : ZeroC Try.prog 59 ([.nilFunc]) := ⟨⟨.nilFunc, by kernel_rfl, by kernel_rfl⟩⟩
-- 60 []string
instance : OneC Try.prog 60 := ⟨⟨_, Try.underlying60, rfl⟩, by kernel_rfl⟩
instance : ZeroC Try.prog 60 ([.slice none 0 0]) := ⟨⟨.slice none 0 0, by kernel_rfl, by kernel_rfl⟩⟩
instance : ElC Try.prog 60 9 1 16 ([.string ⟨#[]⟩]) := ⟨⟨.string ⟨#[]⟩, elT Try.underlying60 (by kernel_rfl) (by kernel_rfl) (by decide), by kernel_rfl⟩⟩
-- 61 []nacelleref05.Write
instance : OneC Try.prog 61 := ⟨⟨_, Try.underlying61, rfl⟩, by kernel_rfl⟩
instance : ZeroC Try.prog 61 ([.slice none 0 0]) := ⟨⟨.slice none 0 0, by kernel_rfl, by kernel_rfl⟩⟩
instance : ElC Try.prog 61 165 2 24 ([.int .i64 0, .string ⟨#[]⟩]) := ⟨⟨.agg ([.int .i64 0, .string ⟨#[]⟩]).toArray, elT Try.underlying61 (by kernel_rfl) (by kernel_rfl) (by decide), by kernel_rfl⟩⟩
-- 62 struct%20{%20Has%20[]string;%20Waits%20[]nacelleref05.Write;%20Off%20bool;%20Left%20int;%20Survivors%20[]bool%20}
instance : RowC Try.prog 62 5 := ⟨⟨_, Try.underlying62, rfl⟩, by kernel_rfl⟩
instance : ZeroC Try.prog 62 ([.slice none 0 0, .slice none 0 0, .bool false, .int .i64 0, .slice none 0 0]) := ⟨⟨.agg ([.slice none 0 0, .slice none 0 0, .bool false, .int .i64 0, .slice none 0 0]).toArray, by kernel_rfl, by kernel_rfl⟩⟩
instance : FldC Try.prog 62 0 0 := ⟨⟨_, _, Try.underlying62, rfl, rfl, 0, by kernel_rfl⟩⟩
instance : FldV Try.prog 62 0 0 1 true := ⟨⟨_, _, _, Try.underlying62, rfl, rfl, by kernel_rfl, Try.underlying60, rfl⟩⟩
instance : FldC Try.prog 62 1 1 := ⟨⟨_, _, Try.underlying62, rfl, rfl, 0, by kernel_rfl⟩⟩
instance : FldV Try.prog 62 1 1 1 true := ⟨⟨_, _, _, Try.underlying62, rfl, rfl, by kernel_rfl, Try.underlying61, rfl⟩⟩
instance : FldC Try.prog 62 2 2 := ⟨⟨_, _, Try.underlying62, rfl, rfl, 0, by kernel_rfl⟩⟩
instance : FldV Try.prog 62 2 2 1 true := ⟨⟨_, _, _, Try.underlying62, rfl, rfl, by kernel_rfl, Try.underlying4, rfl⟩⟩
instance : FldC Try.prog 62 3 3 := ⟨⟨_, _, Try.underlying62, rfl, rfl, 0, by kernel_rfl⟩⟩
instance : FldV Try.prog 62 3 3 1 true := ⟨⟨_, _, _, Try.underlying62, rfl, rfl, by kernel_rfl, Try.underlying3, rfl⟩⟩
instance : FldC Try.prog 62 4 4 := ⟨⟨_, _, Try.underlying62, rfl, rfl, 0, by kernel_rfl⟩⟩
instance : FldV Try.prog 62 4 4 1 true := ⟨⟨_, _, _, Try.underlying62, rfl, rfl, by kernel_rfl, Try.underlying24, rfl⟩⟩
-- 63 nacelleref05.Disk
instance : RowC Try.prog 63 5 := ⟨⟨_, Try.underlying63, rfl⟩, by kernel_rfl⟩
instance : ZeroC Try.prog 63 ([.slice none 0 0, .slice none 0 0, .bool false, .int .i64 0, .slice none 0 0]) := ⟨⟨.agg ([.slice none 0 0, .slice none 0 0, .bool false, .int .i64 0, .slice none 0 0]).toArray, by kernel_rfl, by kernel_rfl⟩⟩
instance : FldC Try.prog 63 0 0 := ⟨⟨_, _, Try.underlying63, rfl, rfl, 0, by kernel_rfl⟩⟩
instance : FldV Try.prog 63 0 0 1 true := ⟨⟨_, _, _, Try.underlying63, rfl, rfl, by kernel_rfl, Try.underlying60, rfl⟩⟩
instance : FldC Try.prog 63 1 1 := ⟨⟨_, _, Try.underlying63, rfl, rfl, 0, by kernel_rfl⟩⟩
instance : FldV Try.prog 63 1 1 1 true := ⟨⟨_, _, _, Try.underlying63, rfl, rfl, by kernel_rfl, Try.underlying61, rfl⟩⟩
instance : FldC Try.prog 63 2 2 := ⟨⟨_, _, Try.underlying63, rfl, rfl, 0, by kernel_rfl⟩⟩
instance : FldV Try.prog 63 2 2 1 true := ⟨⟨_, _, _, Try.underlying63, rfl, rfl, by kernel_rfl, Try.underlying4, rfl⟩⟩
instance : FldC Try.prog 63 3 3 := ⟨⟨_, _, Try.underlying63, rfl, rfl, 0, by kernel_rfl⟩⟩
instance : FldV Try.prog 63 3 3 1 true := ⟨⟨_, _, _, Try.underlying63, rfl, rfl, by kernel_rfl, Try.underlying3, rfl⟩⟩
instance : FldC Try.prog 63 4 4 := ⟨⟨_, _, Try.underlying63, rfl, rfl, 0, by kernel_rfl⟩⟩
instance : FldV Try.prog 63 4 4 1 true := ⟨⟨_, _, _, Try.underlying63, rfl, rfl, by kernel_rfl, Try.underlying24, rfl⟩⟩
-- 65 func(int)%20(nacelleref05.Disk,%20bool)
instance : OneC Try.prog 65 := ⟨⟨_, Try.underlying65, rfl⟩, by kernel_rfl⟩
instance : ZeroC Try.prog 65 ([.nilFunc]) := ⟨⟨.nilFunc, by kernel_rfl, by kernel_rfl⟩⟩
-- 66 func(int,%20[][2]int,%20[]int,%20[]int)%20int
instance : OneC Try.prog 66 := ⟨⟨_, Try.underlying66, rfl⟩, by kernel_rfl⟩
instance : ZeroC Try.prog 66 ([.nilFunc]) := ⟨⟨.nilFunc, by kernel_rfl, by kernel_rfl⟩⟩
-- 67 [][2]int
instance : OneC Try.prog 67 := ⟨⟨_, Try.underlying67, rfl⟩, by kernel_rfl⟩
instance : ZeroC Try.prog 67 ([.slice none 0 0]) := ⟨⟨.slice none 0 0, by kernel_rfl, by kernel_rfl⟩⟩
instance : ElC Try.prog 67 104 2 16 ([.int .i64 0, .int .i64 0]) := ⟨⟨.agg ([.int .i64 0, .int .i64 0]).toArray, elT Try.underlying67 (by kernel_rfl) (by kernel_rfl) (by decide), by kernel_rfl⟩⟩
-- 68 func([]extent.Extent)%20[][2]int
instance : OneC Try.prog 68 := ⟨⟨_, Try.underlying68, rfl⟩, by kernel_rfl⟩
instance : ZeroC Try.prog 68 ([.nilFunc]) := ⟨⟨.nilFunc, by kernel_rfl, by kernel_rfl⟩⟩
-- 69 func()%20bool
instance : OneC Try.prog 69 := ⟨⟨_, Try.underlying69, rfl⟩, by kernel_rfl⟩
instance : ZeroC Try.prog 69 ([.nilFunc]) := ⟨⟨.nilFunc, by kernel_rfl, by kernel_rfl⟩⟩
-- 70 *nacelleref15.Schedule
instance : OneC Try.prog 70 := ⟨⟨_, Try.underlying70, rfl⟩, by kernel_rfl⟩
instance : ZeroC Try.prog 70 ([.pointer none]) := ⟨⟨.pointer none, by kernel_rfl, by kernel_rfl⟩⟩
instance : PtrC Try.prog 70 77 := ⟨Try.underlying70⟩
-- 71 func(nacelleref05.Disk,%20[][2]int,%20[]int,%20[]int)%20*nacelleref15.Schedule
instance : OneC Try.prog 71 := ⟨⟨_, Try.underlying71, rfl⟩, by kernel_rfl⟩
instance : ZeroC Try.prog 71 ([.nilFunc]) := ⟨⟨.nilFunc, by kernel_rfl, by kernel_rfl⟩⟩
-- 73 func(int,%20api.Request)%20(uint64,%20int)
instance : OneC Try.prog 73 := ⟨⟨_, Try.underlying73, rfl⟩, by kernel_rfl⟩
instance : ZeroC Try.prog 73 ([.nilFunc]) := ⟨⟨.nilFunc, by kernel_rfl, by kernel_rfl⟩⟩
-- 74 [][]api.Request
instance : OneC Try.prog 74 := ⟨⟨_, Try.underlying74, rfl⟩, by kernel_rfl⟩
instance : ZeroC Try.prog 74 ([.slice none 0 0]) := ⟨⟨.slice none 0 0, by kernel_rfl, by kernel_rfl⟩⟩
instance : ElC Try.prog 74 89 1 24 ([.slice none 0 0]) := ⟨⟨.slice none 0 0, elT Try.underlying74 (by kernel_rfl) (by kernel_rfl) (by decide), by kernel_rfl⟩⟩
-- 75 []uint64
instance : OneC Try.prog 75 := ⟨⟨_, Try.underlying75, rfl⟩, by kernel_rfl⟩
instance : ZeroC Try.prog 75 ([.slice none 0 0]) := ⟨⟨.slice none 0 0, by kernel_rfl, by kernel_rfl⟩⟩
instance : ElC Try.prog 75 41 1 8 ([.int .u64 0]) := ⟨⟨.int .u64 0, elT Try.underlying75 (by kernel_rfl) (by kernel_rfl) (by decide), by kernel_rfl⟩⟩
-- 76 struct%20{%20D%20nacelleref05.Disk;%20Extents%20[][2]int;%20Rooms%20[]int;%20Waits%20[][]api.Request;%20Served%20[]uint64;%20Slots%20[]int;%20Next%20int%20}
instance : RowC Try.prog 76 11 := ⟨⟨_, Try.underlying76, rfl⟩, by kernel_rfl⟩
instance : ZeroC Try.prog 76 ([.slice none 0 0, .slice none 0 0, .bool false, .int .i64 0, .slice none 0 0, .slice none 0 0, .slice none 0 0, .slice none 0 0, .slice none 0 0, .slice none 0 0, .int .i64 0]) := ⟨⟨.agg ([.slice none 0 0, .slice none 0 0, .bool false, .int .i64 0, .slice none 0 0, .slice none 0 0, .slice none 0 0, .slice none 0 0, .slice none 0 0, .slice none 0 0, .int .i64 0]).toArray, by kernel_rfl, by kernel_rfl⟩⟩
instance : FldC Try.prog 76 0 0 := ⟨⟨_, _, Try.underlying76, rfl, rfl, 4, by kernel_rfl⟩⟩
instance : FldV Try.prog 76 0 0 5 false := ⟨⟨_, _, _, Try.underlying76, rfl, rfl, by kernel_rfl, Try.underlying63, rfl⟩⟩
instance : FldC Try.prog 76 1 5 := ⟨⟨_, _, Try.underlying76, rfl, rfl, 0, by kernel_rfl⟩⟩
instance : FldV Try.prog 76 1 5 1 true := ⟨⟨_, _, _, Try.underlying76, rfl, rfl, by kernel_rfl, Try.underlying67, rfl⟩⟩
instance : FldC Try.prog 76 2 6 := ⟨⟨_, _, Try.underlying76, rfl, rfl, 0, by kernel_rfl⟩⟩
instance : FldV Try.prog 76 2 6 1 true := ⟨⟨_, _, _, Try.underlying76, rfl, rfl, by kernel_rfl, Try.underlying22, rfl⟩⟩
instance : FldC Try.prog 76 3 7 := ⟨⟨_, _, Try.underlying76, rfl, rfl, 0, by kernel_rfl⟩⟩
instance : FldV Try.prog 76 3 7 1 true := ⟨⟨_, _, _, Try.underlying76, rfl, rfl, by kernel_rfl, Try.underlying74, rfl⟩⟩
instance : FldC Try.prog 76 4 8 := ⟨⟨_, _, Try.underlying76, rfl, rfl, 0, by kernel_rfl⟩⟩
instance : FldV Try.prog 76 4 8 1 true := ⟨⟨_, _, _, Try.underlying76, rfl, rfl, by kernel_rfl, Try.underlying75, rfl⟩⟩
instance : FldC Try.prog 76 5 9 := ⟨⟨_, _, Try.underlying76, rfl, rfl, 0, by kernel_rfl⟩⟩
instance : FldV Try.prog 76 5 9 1 true := ⟨⟨_, _, _, Try.underlying76, rfl, rfl, by kernel_rfl, Try.underlying22, rfl⟩⟩
instance : FldC Try.prog 76 6 10 := ⟨⟨_, _, Try.underlying76, rfl, rfl, 0, by kernel_rfl⟩⟩
instance : FldV Try.prog 76 6 10 1 true := ⟨⟨_, _, _, Try.underlying76, rfl, rfl, by kernel_rfl, Try.underlying3, rfl⟩⟩
-- 77 nacelleref15.Schedule
instance : RowC Try.prog 77 11 := ⟨⟨_, Try.underlying77, rfl⟩, by kernel_rfl⟩
instance : ZeroC Try.prog 77 ([.slice none 0 0, .slice none 0 0, .bool false, .int .i64 0, .slice none 0 0, .slice none 0 0, .slice none 0 0, .slice none 0 0, .slice none 0 0, .slice none 0 0, .int .i64 0]) := ⟨⟨.agg ([.slice none 0 0, .slice none 0 0, .bool false, .int .i64 0, .slice none 0 0, .slice none 0 0, .slice none 0 0, .slice none 0 0, .slice none 0 0, .slice none 0 0, .int .i64 0]).toArray, by kernel_rfl, by kernel_rfl⟩⟩
instance : FldC Try.prog 77 0 0 := ⟨⟨_, _, Try.underlying77, rfl, rfl, 4, by kernel_rfl⟩⟩
instance : FldV Try.prog 77 0 0 5 false := ⟨⟨_, _, _, Try.underlying77, rfl, rfl, by kernel_rfl, Try.underlying63, rfl⟩⟩
instance : FldC Try.prog 77 1 5 := ⟨⟨_, _, Try.underlying77, rfl, rfl, 0, by kernel_rfl⟩⟩
instance : FldV Try.prog 77 1 5 1 true := ⟨⟨_, _, _, Try.underlying77, rfl, rfl, by kernel_rfl, Try.underlying67, rfl⟩⟩
instance : FldC Try.prog 77 2 6 := ⟨⟨_, _, Try.underlying77, rfl, rfl, 0, by kernel_rfl⟩⟩
instance : FldV Try.prog 77 2 6 1 true := ⟨⟨_, _, _, Try.underlying77, rfl, rfl, by kernel_rfl, Try.underlying22, rfl⟩⟩
instance : FldC Try.prog 77 3 7 := ⟨⟨_, _, Try.underlying77, rfl, rfl, 0, by kernel_rfl⟩⟩
instance : FldV Try.prog 77 3 7 1 true := ⟨⟨_, _, _, Try.underlying77, rfl, rfl, by kernel_rfl, Try.underlying74, rfl⟩⟩
instance : FldC Try.prog 77 4 8 := ⟨⟨_, _, Try.underlying77, rfl, rfl, 0, by kernel_rfl⟩⟩
instance : FldV Try.prog 77 4 8 1 true := ⟨⟨_, _, _, Try.underlying77, rfl, rfl, by kernel_rfl, Try.underlying75, rfl⟩⟩
instance : FldC Try.prog 77 5 9 := ⟨⟨_, _, Try.underlying77, rfl, rfl, 0, by kernel_rfl⟩⟩
instance : FldV Try.prog 77 5 9 1 true := ⟨⟨_, _, _, Try.underlying77, rfl, rfl, by kernel_rfl, Try.underlying22, rfl⟩⟩
instance : FldC Try.prog 77 6 10 := ⟨⟨_, _, Try.underlying77, rfl, rfl, 0, by kernel_rfl⟩⟩
instance : FldV Try.prog 77 6 10 1 true := ⟨⟨_, _, _, Try.underlying77, rfl, rfl, by kernel_rfl, Try.underlying3, rfl⟩⟩
-- 78 func([]bool)%20nacelleref05.Disk
instance : OneC Try.prog 78 := ⟨⟨_, Try.underlying78, rfl⟩, by kernel_rfl⟩
instance : ZeroC Try.prog 78 ([.nilFunc]) := ⟨⟨.nilFunc, by kernel_rfl, by kernel_rfl⟩⟩
-- 79 func()%20nacelleref05.Disk
instance : OneC Try.prog 79 := ⟨⟨_, Try.underlying79, rfl⟩, by kernel_rfl⟩
instance : ZeroC Try.prog 79 ([.nilFunc]) := ⟨⟨.nilFunc, by kernel_rfl, by kernel_rfl⟩⟩
-- 80 struct%20{%20Part%20int;%20N%20uint64;%20Data%20string;%20Code%20int%20}
instance : RowC Try.prog 80 4 := ⟨⟨_, Try.underlying80, rfl⟩, by kernel_rfl⟩
instance : ZeroC Try.prog 80 ([.int .i64 0, .int .u64 0, .string ⟨#[]⟩, .int .i64 0]) := ⟨⟨.agg ([.int .i64 0, .int .u64 0, .string ⟨#[]⟩, .int .i64 0]).toArray, by kernel_rfl, by kernel_rfl⟩⟩
instance : FldC Try.prog 80 0 0 := ⟨⟨_, _, Try.underlying80, rfl, rfl, 0, by kernel_rfl⟩⟩
instance : FldV Try.prog 80 0 0 1 true := ⟨⟨_, _, _, Try.underlying80, rfl, rfl, by kernel_rfl, Try.underlying3, rfl⟩⟩
instance : FldC Try.prog 80 1 1 := ⟨⟨_, _, Try.underlying80, rfl, rfl, 0, by kernel_rfl⟩⟩
instance : FldV Try.prog 80 1 1 1 true := ⟨⟨_, _, _, Try.underlying80, rfl, rfl, by kernel_rfl, Try.underlying41, rfl⟩⟩
instance : FldC Try.prog 80 2 2 := ⟨⟨_, _, Try.underlying80, rfl, rfl, 0, by kernel_rfl⟩⟩
instance : FldV Try.prog 80 2 2 1 true := ⟨⟨_, _, _, Try.underlying80, rfl, rfl, by kernel_rfl, Try.underlying9, rfl⟩⟩
instance : FldC Try.prog 80 3 3 := ⟨⟨_, _, Try.underlying80, rfl, rfl, 0, by kernel_rfl⟩⟩
instance : FldV Try.prog 80 3 3 1 true := ⟨⟨_, _, _, Try.underlying80, rfl, rfl, by kernel_rfl, Try.underlying3, rfl⟩⟩
-- 81 nacelleref15.Done
instance : RowC Try.prog 81 4 := ⟨⟨_, Try.underlying81, rfl⟩, by kernel_rfl⟩
instance : ZeroC Try.prog 81 ([.int .i64 0, .int .u64 0, .string ⟨#[]⟩, .int .i64 0]) := ⟨⟨.agg ([.int .i64 0, .int .u64 0, .string ⟨#[]⟩, .int .i64 0]).toArray, by kernel_rfl, by kernel_rfl⟩⟩
instance : FldC Try.prog 81 0 0 := ⟨⟨_, _, Try.underlying81, rfl, rfl, 0, by kernel_rfl⟩⟩
instance : FldV Try.prog 81 0 0 1 true := ⟨⟨_, _, _, Try.underlying81, rfl, rfl, by kernel_rfl, Try.underlying3, rfl⟩⟩
instance : FldC Try.prog 81 1 1 := ⟨⟨_, _, Try.underlying81, rfl, rfl, 0, by kernel_rfl⟩⟩
instance : FldV Try.prog 81 1 1 1 true := ⟨⟨_, _, _, Try.underlying81, rfl, rfl, by kernel_rfl, Try.underlying41, rfl⟩⟩
instance : FldC Try.prog 81 2 2 := ⟨⟨_, _, Try.underlying81, rfl, rfl, 0, by kernel_rfl⟩⟩
instance : FldV Try.prog 81 2 2 1 true := ⟨⟨_, _, _, Try.underlying81, rfl, rfl, by kernel_rfl, Try.underlying9, rfl⟩⟩
instance : FldC Try.prog 81 3 3 := ⟨⟨_, _, Try.underlying81, rfl, rfl, 0, by kernel_rfl⟩⟩
instance : FldV Try.prog 81 3 3 1 true := ⟨⟨_, _, _, Try.underlying81, rfl, rfl, by kernel_rfl, Try.underlying3, rfl⟩⟩
-- 83 func()%20(nacelleref15.Done,%20bool)
instance : OneC Try.prog 83 := ⟨⟨_, Try.underlying83, rfl⟩, by kernel_rfl⟩
instance : ZeroC Try.prog 83 ([.nilFunc]) := ⟨⟨.nilFunc, by kernel_rfl, by kernel_rfl⟩⟩
-- 84 func(api.Done,%20nacelleref15.Done)%20bool
instance : OneC Try.prog 84 := ⟨⟨_, Try.underlying84, rfl⟩, by kernel_rfl⟩
instance : ZeroC Try.prog 84 ([.nilFunc]) := ⟨⟨.nilFunc, by kernel_rfl, by kernel_rfl⟩⟩
-- 85 func()%20int
instance : OneC Try.prog 85 := ⟨⟨_, Try.underlying85, rfl⟩, by kernel_rfl⟩
instance : ZeroC Try.prog 85 ([.nilFunc]) := ⟨⟨.nilFunc, by kernel_rfl, by kernel_rfl⟩⟩
-- 86 func()%20[]uint8
instance : OneC Try.prog 86 := ⟨⟨_, Try.underlying86, rfl⟩, by kernel_rfl⟩
instance : ZeroC Try.prog 86 ([.nilFunc]) := ⟨⟨.nilFunc, by kernel_rfl, by kernel_rfl⟩⟩
-- 87 func()%20[]int
instance : OneC Try.prog 87 := ⟨⟨_, Try.underlying87, rfl⟩, by kernel_rfl⟩
instance : ZeroC Try.prog 87 ([.nilFunc]) := ⟨⟨.nilFunc, by kernel_rfl, by kernel_rfl⟩⟩
-- 88 func(int)%20int
instance : OneC Try.prog 88 := ⟨⟨_, Try.underlying88, rfl⟩, by kernel_rfl⟩
instance : ZeroC Try.prog 88 ([.nilFunc]) := ⟨⟨.nilFunc, by kernel_rfl, by kernel_rfl⟩⟩
-- 89 []api.Request
instance : OneC Try.prog 89 := ⟨⟨_, Try.underlying89, rfl⟩, by kernel_rfl⟩
instance : ZeroC Try.prog 89 ([.slice none 0 0]) := ⟨⟨.slice none 0 0, by kernel_rfl, by kernel_rfl⟩⟩
instance : ElC Try.prog 89 45 3 40 ([.int .i64 0, .int .i64 0, .slice none 0 0]) := ⟨⟨.agg ([.int .i64 0, .int .i64 0, .slice none 0 0]).toArray, elT Try.underlying89 (by kernel_rfl) (by kernel_rfl) (by decide), by kernel_rfl⟩⟩
-- 90 func(int)%20uint64
instance : OneC Try.prog 90 := ⟨⟨_, Try.underlying90, rfl⟩, by kernel_rfl⟩
instance : ZeroC Try.prog 90 ([.nilFunc]) := ⟨⟨.nilFunc, by kernel_rfl, by kernel_rfl⟩⟩
-- 91 func(nacellelaw15.Shape,%20[]nacellelaw15.Act)%20bool
instance : OneC Try.prog 91 := ⟨⟨_, Try.underlying91, rfl⟩, by kernel_rfl⟩
instance : ZeroC Try.prog 91 ([.nilFunc]) := ⟨⟨.nilFunc, by kernel_rfl, by kernel_rfl⟩⟩
-- 92 struct%20{%20X%20nacellelaw15.Shape;%20Part%20int;%20Own%20[]nacellelaw15.Act;%20One%20[]nacellelaw15.Act;%20Two%20[]nacellelaw15.Act%20}
instance : RowC Try.prog 92 7 := ⟨⟨_, Try.underlying92, rfl⟩, by kernel_rfl⟩
instance : ZeroC Try.prog 92 ([.slice none 0 0, .slice none 0 0, .slice none 0 0, .int .i64 0, .slice none 0 0, .slice none 0 0, .slice none 0 0]) := ⟨⟨.agg ([.slice none 0 0, .slice none 0 0, .slice none 0 0, .int .i64 0, .slice none 0 0, .slice none 0 0, .slice none 0 0]).toArray, by kernel_rfl, by kernel_rfl⟩⟩
instance : FldC Try.prog 92 0 0 := ⟨⟨_, _, Try.underlying92, rfl, rfl, 2, by kernel_rfl⟩⟩
instance : FldV Try.prog 92 0 0 3 false := ⟨⟨_, _, _, Try.underlying92, rfl, rfl, by kernel_rfl, Try.underlying58, rfl⟩⟩
instance : FldC Try.prog 92 1 3 := ⟨⟨_, _, Try.underlying92, rfl, rfl, 0, by kernel_rfl⟩⟩
instance : FldV Try.prog 92 1 3 1 true := ⟨⟨_, _, _, Try.underlying92, rfl, rfl, by kernel_rfl, Try.underlying3, rfl⟩⟩
instance : FldC Try.prog 92 2 4 := ⟨⟨_, _, Try.underlying92, rfl, rfl, 0, by kernel_rfl⟩⟩
instance : FldV Try.prog 92 2 4 1 true := ⟨⟨_, _, _, Try.underlying92, rfl, rfl, by kernel_rfl, Try.underlying23, rfl⟩⟩
instance : FldC Try.prog 92 3 5 := ⟨⟨_, _, Try.underlying92, rfl, rfl, 0, by kernel_rfl⟩⟩
instance : FldV Try.prog 92 3 5 1 true := ⟨⟨_, _, _, Try.underlying92, rfl, rfl, by kernel_rfl, Try.underlying23, rfl⟩⟩
instance : FldC Try.prog 92 4 6 := ⟨⟨_, _, Try.underlying92, rfl, rfl, 0, by kernel_rfl⟩⟩
instance : FldV Try.prog 92 4 6 1 true := ⟨⟨_, _, _, Try.underlying92, rfl, rfl, by kernel_rfl, Try.underlying23, rfl⟩⟩
-- 93 nacellelaw15.Apart
instance : RowC Try.prog 93 7 := ⟨⟨_, Try.underlying93, rfl⟩, by kernel_rfl⟩
instance : ZeroC Try.prog 93 ([.slice none 0 0, .slice none 0 0, .slice none 0 0, .int .i64 0, .slice none 0 0, .slice none 0 0, .slice none 0 0]) := ⟨⟨.agg ([.slice none 0 0, .slice none 0 0, .slice none 0 0, .int .i64 0, .slice none 0 0, .slice none 0 0, .slice none 0 0]).toArray, by kernel_rfl, by kernel_rfl⟩⟩
instance : FldC Try.prog 93 0 0 := ⟨⟨_, _, Try.underlying93, rfl, rfl, 2, by kernel_rfl⟩⟩
instance : FldV Try.prog 93 0 0 3 false := ⟨⟨_, _, _, Try.underlying93, rfl, rfl, by kernel_rfl, Try.underlying58, rfl⟩⟩
instance : FldC Try.prog 93 1 3 := ⟨⟨_, _, Try.underlying93, rfl, rfl, 0, by kernel_rfl⟩⟩
instance : FldV Try.prog 93 1 3 1 true := ⟨⟨_, _, _, Try.underlying93, rfl, rfl, by kernel_rfl, Try.underlying3, rfl⟩⟩
instance : FldC Try.prog 93 2 4 := ⟨⟨_, _, Try.underlying93, rfl, rfl, 0, by kernel_rfl⟩⟩
instance : FldV Try.prog 93 2 4 1 true := ⟨⟨_, _, _, Try.underlying93, rfl, rfl, by kernel_rfl, Try.underlying23, rfl⟩⟩
instance : FldC Try.prog 93 3 5 := ⟨⟨_, _, Try.underlying93, rfl, rfl, 0, by kernel_rfl⟩⟩
instance : FldV Try.prog 93 3 5 1 true := ⟨⟨_, _, _, Try.underlying93, rfl, rfl, by kernel_rfl, Try.underlying23, rfl⟩⟩
instance : FldC Try.prog 93 4 6 := ⟨⟨_, _, Try.underlying93, rfl, rfl, 0, by kernel_rfl⟩⟩
instance : FldV Try.prog 93 4 6 1 true := ⟨⟨_, _, _, Try.underlying93, rfl, rfl, by kernel_rfl, Try.underlying23, rfl⟩⟩
-- 94 []api.Done
instance : OneC Try.prog 94 := ⟨⟨_, Try.underlying94, rfl⟩, by kernel_rfl⟩
instance : ZeroC Try.prog 94 ([.slice none 0 0]) := ⟨⟨.slice none 0 0, by kernel_rfl, by kernel_rfl⟩⟩
instance : ElC Try.prog 94 48 4 48 ([.int .i64 0, .int .u64 0, .slice none 0 0, .int .i64 0]) := ⟨⟨.agg ([.int .i64 0, .int .u64 0, .slice none 0 0, .int .i64 0]).toArray, elT Try.underlying94 (by kernel_rfl) (by kernel_rfl) (by decide), by kernel_rfl⟩⟩
-- 95 func(nacellelaw15.Shape,%20int,%20[]nacellelaw15.Act,%20[]nacellelaw15.Act)%20[]api.Done
instance : OneC Try.prog 95 := ⟨⟨_, Try.underlying95, rfl⟩, by kernel_rfl⟩
instance : ZeroC Try.prog 95 ([.nilFunc]) := ⟨⟨.nilFunc, by kernel_rfl, by kernel_rfl⟩⟩
-- 96 func(nacellelaw15.Apart)%20bool
instance : OneC Try.prog 96 := ⟨⟨_, Try.underlying96, rfl⟩, by kernel_rfl⟩
instance : ZeroC Try.prog 96 ([.nilFunc]) := ⟨⟨.nilFunc, by kernel_rfl, by kernel_rfl⟩⟩
-- 98 func(nacellelaw15.Shape,%20[]nacellelaw15.Act)%20(*iosched.Schedule,%20*disk.Disk,%20nacellelaw15.Shape)
instance : OneC Try.prog 98 := ⟨⟨_, Try.underlying98, rfl⟩, by kernel_rfl⟩
instance : ZeroC Try.prog 98 ([.nilFunc]) := ⟨⟨.nilFunc, by kernel_rfl, by kernel_rfl⟩⟩
-- 99 func(nacellelaw15.Shape,%20int,%20[]nacellelaw15.Act)%20bool
instance : OneC Try.prog 99 := ⟨⟨_, Try.underlying99, rfl⟩, by kernel_rfl⟩
instance : ZeroC Try.prog 99 ([.nilFunc]) := ⟨⟨.nilFunc, by kernel_rfl, by kernel_rfl⟩⟩
-- 100 func([]int,%20int)%20int
instance : OneC Try.prog 100 := ⟨⟨_, Try.underlying100, rfl⟩, by kernel_rfl⟩
instance : ZeroC Try.prog 100 ([.nilFunc]) := ⟨⟨.nilFunc, by kernel_rfl, by kernel_rfl⟩⟩
-- 101 struct%20{%20X%20nacellelaw15.Shape;%20Acts%20[]nacellelaw15.Act;%20Part%20int;%20More%20[]nacellelaw15.Act%20}
instance : RowC Try.prog 101 6 := ⟨⟨_, Try.underlying101, rfl⟩, by kernel_rfl⟩
instance : ZeroC Try.prog 101 ([.slice none 0 0, .slice none 0 0, .slice none 0 0, .slice none 0 0, .int .i64 0, .slice none 0 0]) := ⟨⟨.agg ([.slice none 0 0, .slice none 0 0, .slice none 0 0, .slice none 0 0, .int .i64 0, .slice none 0 0]).toArray, by kernel_rfl, by kernel_rfl⟩⟩
instance : FldC Try.prog 101 0 0 := ⟨⟨_, _, Try.underlying101, rfl, rfl, 2, by kernel_rfl⟩⟩
instance : FldV Try.prog 101 0 0 3 false := ⟨⟨_, _, _, Try.underlying101, rfl, rfl, by kernel_rfl, Try.underlying58, rfl⟩⟩
instance : FldC Try.prog 101 1 3 := ⟨⟨_, _, Try.underlying101, rfl, rfl, 0, by kernel_rfl⟩⟩
instance : FldV Try.prog 101 1 3 1 true := ⟨⟨_, _, _, Try.underlying101, rfl, rfl, by kernel_rfl, Try.underlying23, rfl⟩⟩
instance : FldC Try.prog 101 2 4 := ⟨⟨_, _, Try.underlying101, rfl, rfl, 0, by kernel_rfl⟩⟩
instance : FldV Try.prog 101 2 4 1 true := ⟨⟨_, _, _, Try.underlying101, rfl, rfl, by kernel_rfl, Try.underlying3, rfl⟩⟩
instance : FldC Try.prog 101 3 5 := ⟨⟨_, _, Try.underlying101, rfl, rfl, 0, by kernel_rfl⟩⟩
instance : FldV Try.prog 101 3 5 1 true := ⟨⟨_, _, _, Try.underlying101, rfl, rfl, by kernel_rfl, Try.underlying23, rfl⟩⟩
-- 102 nacellelaw15.Within
instance : RowC Try.prog 102 6 := ⟨⟨_, Try.underlying102, rfl⟩, by kernel_rfl⟩
instance : ZeroC Try.prog 102 ([.slice none 0 0, .slice none 0 0, .slice none 0 0, .slice none 0 0, .int .i64 0, .slice none 0 0]) := ⟨⟨.agg ([.slice none 0 0, .slice none 0 0, .slice none 0 0, .slice none 0 0, .int .i64 0, .slice none 0 0]).toArray, by kernel_rfl, by kernel_rfl⟩⟩
instance : FldC Try.prog 102 0 0 := ⟨⟨_, _, Try.underlying102, rfl, rfl, 2, by kernel_rfl⟩⟩
instance : FldV Try.prog 102 0 0 3 false := ⟨⟨_, _, _, Try.underlying102, rfl, rfl, by kernel_rfl, Try.underlying58, rfl⟩⟩
instance : FldC Try.prog 102 1 3 := ⟨⟨_, _, Try.underlying102, rfl, rfl, 0, by kernel_rfl⟩⟩
instance : FldV Try.prog 102 1 3 1 true := ⟨⟨_, _, _, Try.underlying102, rfl, rfl, by kernel_rfl, Try.underlying23, rfl⟩⟩
instance : FldC Try.prog 102 2 4 := ⟨⟨_, _, Try.underlying102, rfl, rfl, 0, by kernel_rfl⟩⟩
instance : FldV Try.prog 102 2 4 1 true := ⟨⟨_, _, _, Try.underlying102, rfl, rfl, by kernel_rfl, Try.underlying3, rfl⟩⟩
instance : FldC Try.prog 102 3 5 := ⟨⟨_, _, Try.underlying102, rfl, rfl, 0, by kernel_rfl⟩⟩
instance : FldV Try.prog 102 3 5 1 true := ⟨⟨_, _, _, Try.underlying102, rfl, rfl, by kernel_rfl, Try.underlying23, rfl⟩⟩
-- 103 func(nacellelaw15.Within)%20bool
instance : OneC Try.prog 103 := ⟨⟨_, Try.underlying103, rfl⟩, by kernel_rfl⟩
instance : ZeroC Try.prog 103 ([.nilFunc]) := ⟨⟨.nilFunc, by kernel_rfl, by kernel_rfl⟩⟩
-- 104 [2]int
instance : RowC Try.prog 104 2 := ⟨⟨_, Try.underlying104, rfl⟩, by kernel_rfl⟩
instance : ZeroC Try.prog 104 ([.int .i64 0, .int .i64 0]) := ⟨⟨.agg ([.int .i64 0, .int .i64 0]).toArray, by kernel_rfl, by kernel_rfl⟩⟩
instance : ArrC Try.prog 104 2 1 true := ⟨⟨_, _, Try.underlying104, by kernel_rfl, Try.underlying3, rfl⟩⟩
-- 105 func([]extent.Extent)%20bool
instance : OneC Try.prog 105 := ⟨⟨_, Try.underlying105, rfl⟩, by kernel_rfl⟩
instance : ZeroC Try.prog 105 ([.nilFunc]) := ⟨⟨.nilFunc, by kernel_rfl, by kernel_rfl⟩⟩
-- 106 func([][2]int)%20bool
instance : OneC Try.prog 106 := ⟨⟨_, Try.underlying106, rfl⟩, by kernel_rfl⟩
instance : ZeroC Try.prog 106 ([.nilFunc]) := ⟨⟨.nilFunc, by kernel_rfl, by kernel_rfl⟩⟩
-- 107 []nacellelaw06.Act
instance : OneC Try.prog 107 := ⟨⟨_, Try.underlying107, rfl⟩, by kernel_rfl⟩
instance : ZeroC Try.prog 107 ([.slice none 0 0]) := ⟨⟨.slice none 0 0, by kernel_rfl, by kernel_rfl⟩⟩
instance : ElC Try.prog 107 113 5 56 ([.int .i64 0, .int .i64 0, .int .i64 0, .int .u8 0, .slice none 0 0]) := ⟨⟨.agg ([.int .i64 0, .int .i64 0, .int .i64 0, .int .u8 0, .slice none 0 0]).toArray, elT Try.underlying107 (by kernel_rfl) (by kernel_rfl) (by decide), by kernel_rfl⟩⟩
-- 108 *extent.Part
instance : OneC Try.prog 108 := ⟨⟨_, Try.underlying108, rfl⟩, by kernel_rfl⟩
instance : ZeroC Try.prog 108 ([.pointer none]) := ⟨⟨.pointer none, by kernel_rfl, by kernel_rfl⟩⟩
instance : PtrC Try.prog 108 162 := ⟨Try.underlying108⟩
-- 110 func(*disk.Disk,%20extent.Extent)%20(*extent.Part,%20api.Errno)
instance : OneC Try.prog 110 := ⟨⟨_, Try.underlying110, rfl⟩, by kernel_rfl⟩
instance : ZeroC Try.prog 110 ([.nilFunc]) := ⟨⟨.nilFunc, by kernel_rfl, by kernel_rfl⟩⟩
-- 111 [9]uint8
instance : RowC Try.prog 111 9 := ⟨⟨_, Try.underlying111, rfl⟩, by kernel_rfl⟩
instance : ZeroC Try.prog 111 ([.int .u8 0, .int .u8 0, .int .u8 0, .int .u8 0, .int .u8 0, .int .u8 0, .int .u8 0, .int .u8 0, .int .u8 0]) := ⟨⟨.agg ([.int .u8 0, .int .u8 0, .int .u8 0, .int .u8 0, .int .u8 0, .int .u8 0, .int .u8 0, .int .u8 0, .int .u8 0]).toArray, by kernel_rfl, by kernel_rfl⟩⟩
instance : ArrC Try.prog 111 9 1 true := ⟨⟨_, _, Try.underlying111, by kernel_rfl, Try.underlying5, rfl⟩⟩
-- 112 struct%20{%20Do%20int;%20At%20int;%20Off%20int;%20Fill%20uint8;%20Keep%20[]bool%20}
instance : RowC Try.prog 112 5 := ⟨⟨_, Try.underlying112, rfl⟩, by kernel_rfl⟩
instance : ZeroC Try.prog 112 ([.int .i64 0, .int .i64 0, .int .i64 0, .int .u8 0, .slice none 0 0]) := ⟨⟨.agg ([.int .i64 0, .int .i64 0, .int .i64 0, .int .u8 0, .slice none 0 0]).toArray, by kernel_rfl, by kernel_rfl⟩⟩
instance : FldC Try.prog 112 0 0 := ⟨⟨_, _, Try.underlying112, rfl, rfl, 0, by kernel_rfl⟩⟩
instance : FldV Try.prog 112 0 0 1 true := ⟨⟨_, _, _, Try.underlying112, rfl, rfl, by kernel_rfl, Try.underlying3, rfl⟩⟩
instance : FldC Try.prog 112 1 1 := ⟨⟨_, _, Try.underlying112, rfl, rfl, 0, by kernel_rfl⟩⟩
instance : FldV Try.prog 112 1 1 1 true := ⟨⟨_, _, _, Try.underlying112, rfl, rfl, by kernel_rfl, Try.underlying3, rfl⟩⟩
instance : FldC Try.prog 112 2 2 := ⟨⟨_, _, Try.underlying112, rfl, rfl, 0, by kernel_rfl⟩⟩
instance : FldV Try.prog 112 2 2 1 true := ⟨⟨_, _, _, Try.underlying112, rfl, rfl, by kernel_rfl, Try.underlying3, rfl⟩⟩
instance : FldC Try.prog 112 3 3 := ⟨⟨_, _, Try.underlying112, rfl, rfl, 0, by kernel_rfl⟩⟩
instance : FldV Try.prog 112 3 3 1 true := ⟨⟨_, _, _, Try.underlying112, rfl, rfl, by kernel_rfl, Try.underlying5, rfl⟩⟩
instance : FldC Try.prog 112 4 4 := ⟨⟨_, _, Try.underlying112, rfl, rfl, 0, by kernel_rfl⟩⟩
instance : FldV Try.prog 112 4 4 1 true := ⟨⟨_, _, _, Try.underlying112, rfl, rfl, by kernel_rfl, Try.underlying24, rfl⟩⟩
-- 113 nacellelaw06.Act
instance : RowC Try.prog 113 5 := ⟨⟨_, Try.underlying113, rfl⟩, by kernel_rfl⟩
instance : ZeroC Try.prog 113 ([.int .i64 0, .int .i64 0, .int .i64 0, .int .u8 0, .slice none 0 0]) := ⟨⟨.agg ([.int .i64 0, .int .i64 0, .int .i64 0, .int .u8 0, .slice none 0 0]).toArray, by kernel_rfl, by kernel_rfl⟩⟩
instance : FldC Try.prog 113 0 0 := ⟨⟨_, _, Try.underlying113, rfl, rfl, 0, by kernel_rfl⟩⟩
instance : FldV Try.prog 113 0 0 1 true := ⟨⟨_, _, _, Try.underlying113, rfl, rfl, by kernel_rfl, Try.underlying3, rfl⟩⟩
instance : FldC Try.prog 113 1 1 := ⟨⟨_, _, Try.underlying113, rfl, rfl, 0, by kernel_rfl⟩⟩
instance : FldV Try.prog 113 1 1 1 true := ⟨⟨_, _, _, Try.underlying113, rfl, rfl, by kernel_rfl, Try.underlying3, rfl⟩⟩
instance : FldC Try.prog 113 2 2 := ⟨⟨_, _, Try.underlying113, rfl, rfl, 0, by kernel_rfl⟩⟩
instance : FldV Try.prog 113 2 2 1 true := ⟨⟨_, _, _, Try.underlying113, rfl, rfl, by kernel_rfl, Try.underlying3, rfl⟩⟩
instance : FldC Try.prog 113 3 3 := ⟨⟨_, _, Try.underlying113, rfl, rfl, 0, by kernel_rfl⟩⟩
instance : FldV Try.prog 113 3 3 1 true := ⟨⟨_, _, _, Try.underlying113, rfl, rfl, by kernel_rfl, Try.underlying5, rfl⟩⟩
instance : FldC Try.prog 113 4 4 := ⟨⟨_, _, Try.underlying113, rfl, rfl, 0, by kernel_rfl⟩⟩
instance : FldV Try.prog 113 4 4 1 true := ⟨⟨_, _, _, Try.underlying113, rfl, rfl, by kernel_rfl, Try.underlying24, rfl⟩⟩
-- 114 func(int,%20[]uint8)%20api.Errno
instance : OneC Try.prog 114 := ⟨⟨_, Try.underlying114, rfl⟩, by kernel_rfl⟩
instance : ZeroC Try.prog 114 ([.nilFunc]) := ⟨⟨.nilFunc, by kernel_rfl, by kernel_rfl⟩⟩
-- 115 func(int,%20[]nacellelaw06.Act)%20bool
instance : OneC Try.prog 115 := ⟨⟨_, Try.underlying115, rfl⟩, by kernel_rfl⟩
instance : ZeroC Try.prog 115 ([.nilFunc]) := ⟨⟨.nilFunc, by kernel_rfl, by kernel_rfl⟩⟩
-- 116 func(extent.Extent,%20int)%20bool
instance : OneC Try.prog 116 := ⟨⟨_, Try.underlying116, rfl⟩, by kernel_rfl⟩
instance : ZeroC Try.prog 116 ([.nilFunc]) := ⟨⟨.nilFunc, by kernel_rfl, by kernel_rfl⟩⟩
-- 117 func(extent.Extent)%20(*extent.Part,%20api.Errno)
instance : OneC Try.prog 117 := ⟨⟨_, Try.underlying117, rfl⟩, by kernel_rfl⟩
instance : ZeroC Try.prog 117 ([.nilFunc]) := ⟨⟨.nilFunc, by kernel_rfl, by kernel_rfl⟩⟩
-- 118 func()%20api.Errno
instance : OneC Try.prog 118 := ⟨⟨_, Try.underlying118, rfl⟩, by kernel_rfl⟩
instance : ZeroC Try.prog 118 ([.nilFunc]) := ⟨⟨.nilFunc, by kernel_rfl, by kernel_rfl⟩⟩
-- 119 func(extent.Extent,%20extent.Extent,%20uint8)%20bool
instance : OneC Try.prog 119 := ⟨⟨_, Try.underlying119, rfl⟩, by kernel_rfl⟩
instance : ZeroC Try.prog 119 ([.nilFunc]) := ⟨⟨.nilFunc, by kernel_rfl, by kernel_rfl⟩⟩
-- 120 func(int,%20int,%20int)%20bool
instance : OneC Try.prog 120 := ⟨⟨_, Try.underlying120, rfl⟩, by kernel_rfl⟩
instance : ZeroC Try.prog 120 ([.nilFunc]) := ⟨⟨.nilFunc, by kernel_rfl, by kernel_rfl⟩⟩
-- 122 func(int,%20int,%20int)%20(int,%20bool)
instance : OneC Try.prog 122 := ⟨⟨_, Try.underlying122, rfl⟩, by kernel_rfl⟩
instance : ZeroC Try.prog 122 ([.nilFunc]) := ⟨⟨.nilFunc, by kernel_rfl, by kernel_rfl⟩⟩
-- 124 func(int,%20string)%20(nacelleref05.Disk,%20int)
instance : OneC Try.prog 124 := ⟨⟨_, Try.underlying124, rfl⟩, by kernel_rfl⟩
instance : ZeroC Try.prog 124 ([.nilFunc]) := ⟨⟨.nilFunc, by kernel_rfl, by kernel_rfl⟩⟩
-- 126 func(int)%20(string,%20int)
instance : OneC Try.prog 126 := ⟨⟨_, Try.underlying126, rfl⟩, by kernel_rfl⟩
instance : ZeroC Try.prog 126 ([.nilFunc]) := ⟨⟨.nilFunc, by kernel_rfl, by kernel_rfl⟩⟩
-- 127 func()%20(nacelleref05.Disk,%20int)
instance : OneC Try.prog 127 := ⟨⟨_, Try.underlying127, rfl⟩, by kernel_rfl⟩
instance : ZeroC Try.prog 127 ([.nilFunc]) := ⟨⟨.nilFunc, by kernel_rfl, by kernel_rfl⟩⟩
-- 128 func(extent.Extent,%20[]nacellelaw06.Act)%20bool
instance : OneC Try.prog 128 := ⟨⟨_, Try.underlying128, rfl⟩, by kernel_rfl⟩
instance : ZeroC Try.prog 128 ([.nilFunc]) := ⟨⟨.nilFunc, by kernel_rfl, by kernel_rfl⟩⟩
-- 129 []disk.sector
instance : OneC Try.prog 129 := ⟨⟨_, Try.underlying129, rfl⟩, by kernel_rfl⟩
instance : ZeroC Try.prog 129 ([.slice none 0 0]) := ⟨⟨.slice none 0 0, by kernel_rfl, by kernel_rfl⟩⟩
instance : ElC Try.prog 129 151 64 64 (List.replicate 64 (.int .u8 0)) := ⟨⟨.agg (List.replicate 64 (.int .u8 0)).toArray, elT Try.underlying129 (by kernel_rfl) (by kernel_rfl) (by decide), by kernel_rfl⟩⟩
-- 130 []disk.write
instance : OneC Try.prog 130 := ⟨⟨_, Try.underlying130, rfl⟩, by kernel_rfl⟩
instance : ZeroC Try.prog 130 ([.slice none 0 0]) := ⟨⟨.slice none 0 0, by kernel_rfl, by kernel_rfl⟩⟩
instance : ElC Try.prog 130 153 65 72 ([.int .i64 0, .int .u8 0, .int .u8 0, .int .u8 0, .int .u8 0, .int .u8 0, .int .u8 0, .int .u8 0, .int .u8 0, .int .u8 0, .int .u8 0, .int .u8 0, .int .u8 0, .int .u8 0, .int .u8 0, .int .u8 0, .int .u8 0, .int .u8 0, .int .u8 0, .int .u8 0, .int .u8 0, .int .u8 0, .int .u8 0, .int .u8 0, .int .u8 0, .int .u8 0, .int .u8 0, .int .u8 0, .int .u8 0, .int .u8 0, .int .u8 0, .int .u8 0, .int .u8 0, .int .u8 0, .int .u8 0, .int .u8 0, .int .u8 0, .int .u8 0, .int .u8 0, .int .u8 0, .int .u8 0, .int .u8 0, .int .u8 0, .int .u8 0, .int .u8 0, .int .u8 0, .int .u8 0, .int .u8 0, .int .u8 0, .int .u8 0, .int .u8 0, .int .u8 0, .int .u8 0, .int .u8 0, .int .u8 0, .int .u8 0, .int .u8 0, .int .u8 0, .int .u8 0, .int .u8 0, .int .u8 0, .int .u8 0, .int .u8 0, .int .u8 0, .int .u8 0]) := ⟨⟨.agg ([.int .i64 0, .int .u8 0, .int .u8 0, .int .u8 0, .int .u8 0, .int .u8 0, .int .u8 0, .int .u8 0, .int .u8 0, .int .u8 0, .int .u8 0, .int .u8 0, .int .u8 0, .int .u8 0, .int .u8 0, .int .u8 0, .int .u8 0, .int .u8 0, .int .u8 0, .int .u8 0, .int .u8 0, .int .u8 0, .int .u8 0, .int .u8 0, .int .u8 0, .int .u8 0, .int .u8 0, .int .u8 0, .int .u8 0, .int .u8 0, .int .u8 0, .int .u8 0, .int .u8 0, .int .u8 0, .int .u8 0, .int .u8 0, .int .u8 0, .int .u8 0, .int .u8 0, .int .u8 0, .int .u8 0, .int .u8 0, .int .u8 0, .int .u8 0, .int .u8 0, .int .u8 0, .int .u8 0, .int .u8 0, .int .u8 0, .int .u8 0, .int .u8 0, .int .u8 0, .int .u8 0, .int .u8 0, .int .u8 0, .int .u8 0, .int .u8 0, .int .u8 0, .int .u8 0, .int .u8 0, .int .u8 0, .int .u8 0, .int .u8 0, .int .u8 0, .int .u8 0]).toArray, elT Try.underlying130 (by kernel_rfl) (by kernel_rfl) (by decide), by kernel_rfl⟩⟩
-- 131 struct%20{%20sectors%20[]disk.sector;%20pending%20[]disk.write;%20off%20bool;%20armed%20bool;%20left%20int;%20survivors%20[]bool%20}
instance : RowC Try.prog 131 6 := ⟨⟨_, Try.underlying131, rfl⟩, by kernel_rfl⟩
instance : ZeroC Try.prog 131 ([.slice none 0 0, .slice none 0 0, .bool false, .bool false, .int .i64 0, .slice none 0 0]) := ⟨⟨.agg ([.slice none 0 0, .slice none 0 0, .bool false, .bool false, .int .i64 0, .slice none 0 0]).toArray, by kernel_rfl, by kernel_rfl⟩⟩
instance : FldC Try.prog 131 0 0 := ⟨⟨_, _, Try.underlying131, rfl, rfl, 0, by kernel_rfl⟩⟩
instance : FldV Try.prog 131 0 0 1 true := ⟨⟨_, _, _, Try.underlying131, rfl, rfl, by kernel_rfl, Try.underlying129, rfl⟩⟩
instance : FldC Try.prog 131 1 1 := ⟨⟨_, _, Try.underlying131, rfl, rfl, 0, by kernel_rfl⟩⟩
instance : FldV Try.prog 131 1 1 1 true := ⟨⟨_, _, _, Try.underlying131, rfl, rfl, by kernel_rfl, Try.underlying130, rfl⟩⟩
instance : FldC Try.prog 131 2 2 := ⟨⟨_, _, Try.underlying131, rfl, rfl, 0, by kernel_rfl⟩⟩
instance : FldV Try.prog 131 2 2 1 true := ⟨⟨_, _, _, Try.underlying131, rfl, rfl, by kernel_rfl, Try.underlying4, rfl⟩⟩
instance : FldC Try.prog 131 3 3 := ⟨⟨_, _, Try.underlying131, rfl, rfl, 0, by kernel_rfl⟩⟩
instance : FldV Try.prog 131 3 3 1 true := ⟨⟨_, _, _, Try.underlying131, rfl, rfl, by kernel_rfl, Try.underlying4, rfl⟩⟩
instance : FldC Try.prog 131 4 4 := ⟨⟨_, _, Try.underlying131, rfl, rfl, 0, by kernel_rfl⟩⟩
instance : FldV Try.prog 131 4 4 1 true := ⟨⟨_, _, _, Try.underlying131, rfl, rfl, by kernel_rfl, Try.underlying3, rfl⟩⟩
instance : FldC Try.prog 131 5 5 := ⟨⟨_, _, Try.underlying131, rfl, rfl, 0, by kernel_rfl⟩⟩
instance : FldV Try.prog 131 5 5 1 true := ⟨⟨_, _, _, Try.underlying131, rfl, rfl, by kernel_rfl, Try.underlying24, rfl⟩⟩
-- 132 disk.Disk
instance : RowC Try.prog 132 6 := ⟨⟨_, Try.underlying132, rfl⟩, by kernel_rfl⟩
instance : ZeroC Try.prog 132 ([.slice none 0 0, .slice none 0 0, .bool false, .bool false, .int .i64 0, .slice none 0 0]) := ⟨⟨.agg ([.slice none 0 0, .slice none 0 0, .bool false, .bool false, .int .i64 0, .slice none 0 0]).toArray, by kernel_rfl, by kernel_rfl⟩⟩
instance : FldC Try.prog 132 0 0 := ⟨⟨_, _, Try.underlying132, rfl, rfl, 0, by kernel_rfl⟩⟩
instance : FldV Try.prog 132 0 0 1 true := ⟨⟨_, _, _, Try.underlying132, rfl, rfl, by kernel_rfl, Try.underlying129, rfl⟩⟩
instance : FldC Try.prog 132 1 1 := ⟨⟨_, _, Try.underlying132, rfl, rfl, 0, by kernel_rfl⟩⟩
instance : FldV Try.prog 132 1 1 1 true := ⟨⟨_, _, _, Try.underlying132, rfl, rfl, by kernel_rfl, Try.underlying130, rfl⟩⟩
instance : FldC Try.prog 132 2 2 := ⟨⟨_, _, Try.underlying132, rfl, rfl, 0, by kernel_rfl⟩⟩
instance : FldV Try.prog 132 2 2 1 true := ⟨⟨_, _, _, Try.underlying132, rfl, rfl, by kernel_rfl, Try.underlying4, rfl⟩⟩
instance : FldC Try.prog 132 3 3 := ⟨⟨_, _, Try.underlying132, rfl, rfl, 0, by kernel_rfl⟩⟩
instance : FldV Try.prog 132 3 3 1 true := ⟨⟨_, _, _, Try.underlying132, rfl, rfl, by kernel_rfl, Try.underlying4, rfl⟩⟩
instance : FldC Try.prog 132 4 4 := ⟨⟨_, _, Try.underlying132, rfl, rfl, 0, by kernel_rfl⟩⟩
instance : FldV Try.prog 132 4 4 1 true := ⟨⟨_, _, _, Try.underlying132, rfl, rfl, by kernel_rfl, Try.underlying3, rfl⟩⟩
instance : FldC Try.prog 132 5 5 := ⟨⟨_, _, Try.underlying132, rfl, rfl, 0, by kernel_rfl⟩⟩
instance : FldV Try.prog 132 5 5 1 true := ⟨⟨_, _, _, Try.underlying132, rfl, rfl, by kernel_rfl, Try.underlying24, rfl⟩⟩
-- 133 func([]int)%20[]int
instance : OneC Try.prog 133 := ⟨⟨_, Try.underlying133, rfl⟩, by kernel_rfl⟩
instance : ZeroC Try.prog 133 ([.nilFunc]) := ⟨⟨.nilFunc, by kernel_rfl, by kernel_rfl⟩⟩
-- 134 []iosched.partition
instance : OneC Try.prog 134 := ⟨⟨_, Try.underlying134, rfl⟩, by kernel_rfl⟩
instance : ZeroC Try.prog 134 ([.slice none 0 0]) := ⟨⟨.slice none 0 0, by kernel_rfl, by kernel_rfl⟩⟩
instance : ElC Try.prog 134 143 70 816 ([.pointer none, .int .i64 0, .int .u64 0, .int .u64 0, .int .u64 0, .int .i64 0, .int .i64 0, .slice none 0 0, .int .u64 0, .int .i64 0, .int .i64 0, .slice none 0 0, .int .u64 0, .int .i64 0, .int .i64 0, .slice none 0 0, .int .u64 0, .int .i64 0, .int .i64 0, .slice none 0 0, .int .u64 0, .int .i64 0, .int .i64 0, .slice none 0 0, .int .u64 0, .int .i64 0, .int .i64 0, .slice none 0 0, .int .u64 0, .int .i64 0, .int .i64 0, .slice none 0 0, .int .u64 0, .int .i64 0, .int .i64 0, .slice none 0 0, .int .u64 0, .int .i64 0, .int .i64 0, .slice none 0 0, .int .u64 0, .int .i64 0, .int .i64 0, .slice none 0 0, .int .u64 0, .int .i64 0, .int .i64 0, .slice none 0 0, .int .u64 0, .int .i64 0, .int .i64 0, .slice none 0 0, .int .u64 0, .int .i64 0, .int .i64 0, .slice none 0 0, .int .u64 0, .int .i64 0, .int .i64 0, .slice none 0 0, .int .u64 0, .int .i64 0, .int .i64 0, .slice none 0 0, .int .u64 0, .int .i64 0, .int .i64 0, .slice none 0 0, .int .i64 0, .int .i64 0]) := ⟨⟨.agg ([.pointer none, .int .i64 0, .int .u64 0, .int .u64 0, .int .u64 0, .int .i64 0, .int .i64 0, .slice none 0 0, .int .u64 0, .int .i64 0, .int .i64 0, .slice none 0 0, .int .u64 0, .int .i64 0, .int .i64 0, .slice none 0 0, .int .u64 0, .int .i64 0, .int .i64 0, .slice none 0 0, .int .u64 0, .int .i64 0, .int .i64 0, .slice none 0 0, .int .u64 0, .int .i64 0, .int .i64 0, .slice none 0 0, .int .u64 0, .int .i64 0, .int .i64 0, .slice none 0 0, .int .u64 0, .int .i64 0, .int .i64 0, .slice none 0 0, .int .u64 0, .int .i64 0, .int .i64 0, .slice none 0 0, .int .u64 0, .int .i64 0, .int .i64 0, .slice none 0 0, .int .u64 0, .int .i64 0, .int .i64 0, .slice none 0 0, .int .u64 0, .int .i64 0, .int .i64 0, .slice none 0 0, .int .u64 0, .int .i64 0, .int .i64 0, .slice none 0 0, .int .u64 0, .int .i64 0, .int .i64 0, .slice none 0 0, .int .u64 0, .int .i64 0, .int .i64 0, .slice none 0 0, .int .u64 0, .int .i64 0, .int .i64 0, .slice none 0 0, .int .i64 0, .int .i64 0]).toArray, elT Try.underlying134 (by kernel_rfl) (by kernel_rfl) (by decide), by kernel_rfl⟩⟩
-- 135 struct%20{%20parts%20[]iosched.partition;%20slots%20[]int;%20next%20int%20}
instance : RowC Try.prog 135 3 := ⟨⟨_, Try.underlying135, rfl⟩, by kernel_rfl⟩
instance : ZeroC Try.prog 135 ([.slice none 0 0, .slice none 0 0, .int .i64 0]) := ⟨⟨.agg ([.slice none 0 0, .slice none 0 0, .int .i64 0]).toArray, by kernel_rfl, by kernel_rfl⟩⟩
instance : FldC Try.prog 135 0 0 := ⟨⟨_, _, Try.underlying135, rfl, rfl, 0, by kernel_rfl⟩⟩
instance : FldV Try.prog 135 0 0 1 true := ⟨⟨_, _, _, Try.underlying135, rfl, rfl, by kernel_rfl, Try.underlying134, rfl⟩⟩
instance : FldC Try.prog 135 1 1 := ⟨⟨_, _, Try.underlying135, rfl, rfl, 0, by kernel_rfl⟩⟩
instance : FldV Try.prog 135 1 1 1 true := ⟨⟨_, _, _, Try.underlying135, rfl, rfl, by kernel_rfl, Try.underlying22, rfl⟩⟩
instance : FldC Try.prog 135 2 2 := ⟨⟨_, _, Try.underlying135, rfl, rfl, 0, by kernel_rfl⟩⟩
instance : FldV Try.prog 135 2 2 1 true := ⟨⟨_, _, _, Try.underlying135, rfl, rfl, by kernel_rfl, Try.underlying3, rfl⟩⟩
-- 137 struct%20{%20n%20uint64;%20request%20api.Request%20}
instance : RowC Try.prog 137 4 := ⟨⟨_, Try.underlying137, rfl⟩, by kernel_rfl⟩
instance : ZeroC Try.prog 137 ([.int .u64 0, .int .i64 0, .int .i64 0, .slice none 0 0]) := ⟨⟨.agg ([.int .u64 0, .int .i64 0, .int .i64 0, .slice none 0 0]).toArray, by kernel_rfl, by kernel_rfl⟩⟩
instance : FldC Try.prog 137 0 0 := ⟨⟨_, _, Try.underlying137, rfl, rfl, 0, by kernel_rfl⟩⟩
instance : FldV Try.prog 137 0 0 1 true := ⟨⟨_, _, _, Try.underlying137, rfl, rfl, by kernel_rfl, Try.underlying41, rfl⟩⟩
instance : FldC Try.prog 137 1 1 := ⟨⟨_, _, Try.underlying137, rfl, rfl, 2, by kernel_rfl⟩⟩
instance : FldV Try.prog 137 1 1 3 false := ⟨⟨_, _, _, Try.underlying137, rfl, rfl, by kernel_rfl, Try.underlying45, rfl⟩⟩
-- 139 [16]iosched.asked
instance : RowC Try.prog 139 64 := ⟨⟨_, Try.underlying139, rfl⟩, by kernel_rfl⟩
instance : ZeroC Try.prog 139 ([.int .u64 0, .int .i64 0, .int .i64 0, .slice none 0 0, .int .u64 0, .int .i64 0, .int .i64 0, .slice none 0 0, .int .u64 0, .int .i64 0, .int .i64 0, .slice none 0 0, .int .u64 0, .int .i64 0, .int .i64 0, .slice none 0 0, .int .u64 0, .int .i64 0, .int .i64 0, .slice none 0 0, .int .u64 0, .int .i64 0, .int .i64 0, .slice none 0 0, .int .u64 0, .int .i64 0, .int .i64 0, .slice none 0 0, .int .u64 0, .int .i64 0, .int .i64 0, .slice none 0 0, .int .u64 0, .int .i64 0, .int .i64 0, .slice none 0 0, .int .u64 0, .int .i64 0, .int .i64 0, .slice none 0 0, .int .u64 0, .int .i64 0, .int .i64 0, .slice none 0 0, .int .u64 0, .int .i64 0, .int .i64 0, .slice none 0 0, .int .u64 0, .int .i64 0, .int .i64 0, .slice none 0 0, .int .u64 0, .int .i64 0, .int .i64 0, .slice none 0 0, .int .u64 0, .int .i64 0, .int .i64 0, .slice none 0 0, .int .u64 0, .int .i64 0, .int .i64 0, .slice none 0 0]) := ⟨⟨.agg ([.int .u64 0, .int .i64 0, .int .i64 0, .slice none 0 0, .int .u64 0, .int .i64 0, .int .i64 0, .slice none 0 0, .int .u64 0, .int .i64 0, .int .i64 0, .slice none 0 0, .int .u64 0, .int .i64 0, .int .i64 0, .slice none 0 0, .int .u64 0, .int .i64 0, .int .i64 0, .slice none 0 0, .int .u64 0, .int .i64 0, .int .i64 0, .slice none 0 0, .int .u64 0, .int .i64 0, .int .i64 0, .slice none 0 0, .int .u64 0, .int .i64 0, .int .i64 0, .slice none 0 0, .int .u64 0, .int .i64 0, .int .i64 0, .slice none 0 0, .int .u64 0, .int .i64 0, .int .i64 0, .slice none 0 0, .int .u64 0, .int .i64 0, .int .i64 0, .slice none 0 0, .int .u64 0, .int .i64 0, .int .i64 0, .slice none 0 0, .int .u64 0, .int .i64 0, .int .i64 0, .slice none 0 0, .int .u64 0, .int .i64 0, .int .i64 0, .slice none 0 0, .int .u64 0, .int .i64 0, .int .i64 0, .slice none 0 0, .int .u64 0, .int .i64 0, .int .i64 0, .slice none 0 0]).toArray, by kernel_rfl, by kernel_rfl⟩⟩
instance : ArrC Try.prog 139 16 4 false := ⟨⟨_, _, Try.underlying139, by kernel_rfl, Try.underlying138, rfl⟩⟩
-- 140 struct%20{%20items%20[16]iosched.asked;%20first%20int;%20count%20int%20}
instance : RowC Try.prog 140 66 := ⟨⟨_, Try.underlying140, rfl⟩, by kernel_rfl⟩
instance : ZeroC Try.prog 140 ([.int .u64 0, .int .i64 0, .int .i64 0, .slice none 0 0, .int .u64 0, .int .i64 0, .int .i64 0, .slice none 0 0, .int .u64 0, .int .i64 0, .int .i64 0, .slice none 0 0, .int .u64 0, .int .i64 0, .int .i64 0, .slice none 0 0, .int .u64 0, .int .i64 0, .int .i64 0, .slice none 0 0, .int .u64 0, .int .i64 0, .int .i64 0, .slice none 0 0, .int .u64 0, .int .i64 0, .int .i64 0, .slice none 0 0, .int .u64 0, .int .i64 0, .int .i64 0, .slice none 0 0, .int .u64 0, .int .i64 0, .int .i64 0, .slice none 0 0, .int .u64 0, .int .i64 0, .int .i64 0, .slice none 0 0, .int .u64 0, .int .i64 0, .int .i64 0, .slice none 0 0, .int .u64 0, .int .i64 0, .int .i64 0, .slice none 0 0, .int .u64 0, .int .i64 0, .int .i64 0, .slice none 0 0, .int .u64 0, .int .i64 0, .int .i64 0, .slice none 0 0, .int .u64 0, .int .i64 0, .int .i64 0, .slice none 0 0, .int .u64 0, .int .i64 0, .int .i64 0, .slice none 0 0, .int .i64 0, .int .i64 0]) := ⟨⟨.agg ([.int .u64 0, .int .i64 0, .int .i64 0, .slice none 0 0, .int .u64 0, .int .i64 0, .int .i64 0, .slice none 0 0, .int .u64 0, .int .i64 0, .int .i64 0, .slice none 0 0, .int .u64 0, .int .i64 0, .int .i64 0, .slice none 0 0, .int .u64 0, .int .i64 0, .int .i64 0, .slice none 0 0, .int .u64 0, .int .i64 0, .int .i64 0, .slice none 0 0, .int .u64 0, .int .i64 0, .int .i64 0, .slice none 0 0, .int .u64 0, .int .i64 0, .int .i64 0, .slice none 0 0, .int .u64 0, .int .i64 0, .int .i64 0, .slice none 0 0, .int .u64 0, .int .i64 0, .int .i64 0, .slice none 0 0, .int .u64 0, .int .i64 0, .int .i64 0, .slice none 0 0, .int .u64 0, .int .i64 0, .int .i64 0, .slice none 0 0, .int .u64 0, .int .i64 0, .int .i64 0, .slice none 0 0, .int .u64 0, .int .i64 0, .int .i64 0, .slice none 0 0, .int .u64 0, .int .i64 0, .int .i64 0, .slice none 0 0, .int .u64 0, .int .i64 0, .int .i64 0, .slice none 0 0, .int .i64 0, .int .i64 0]).toArray, by kernel_rfl, by kernel_rfl⟩⟩
instance : FldC Try.prog 140 0 0 := ⟨⟨_, _, Try.underlying140, rfl, rfl, 63, by kernel_rfl⟩⟩
instance : FldV Try.prog 140 0 0 64 false := ⟨⟨_, _, _, Try.underlying140, rfl, rfl, by kernel_rfl, Try.underlying139, rfl⟩⟩
instance : FldC Try.prog 140 1 64 := ⟨⟨_, _, Try.underlying140, rfl, rfl, 0, by kernel_rfl⟩⟩
instance : FldV Try.prog 140 1 64 1 true := ⟨⟨_, _, _, Try.underlying140, rfl, rfl, by kernel_rfl, Try.underlying3, rfl⟩⟩
instance : FldC Try.prog 140 2 65 := ⟨⟨_, _, Try.underlying140, rfl, rfl, 0, by kernel_rfl⟩⟩
instance : FldV Try.prog 140 2 65 1 true := ⟨⟨_, _, _, Try.underlying140, rfl, rfl, by kernel_rfl, Try.underlying3, rfl⟩⟩
-- 141 iosched.ring[nacelle/iosched.asked]
instance : RowC Try.prog 141 66 := ⟨⟨_, Try.underlying141, rfl⟩, by kernel_rfl⟩
instance : ZeroC Try.prog 141 ([.int .u64 0, .int .i64 0, .int .i64 0, .slice none 0 0, .int .u64 0, .int .i64 0, .int .i64 0, .slice none 0 0, .int .u64 0, .int .i64 0, .int .i64 0, .slice none 0 0, .int .u64 0, .int .i64 0, .int .i64 0, .slice none 0 0, .int .u64 0, .int .i64 0, .int .i64 0, .slice none 0 0, .int .u64 0, .int .i64 0, .int .i64 0, .slice none 0 0, .int .u64 0, .int .i64 0, .int .i64 0, .slice none 0 0, .int .u64 0, .int .i64 0, .int .i64 0, .slice none 0 0, .int .u64 0, .int .i64 0, .int .i64 0, .slice none 0 0, .int .u64 0, .int .i64 0, .int .i64 0, .slice none 0 0, .int .u64 0, .int .i64 0, .int .i64 0, .slice none 0 0, .int .u64 0, .int .i64 0, .int .i64 0, .slice none 0 0, .int .u64 0, .int .i64 0, .int .i64 0, .slice none 0 0, .int .u64 0, .int .i64 0, .int .i64 0, .slice none 0 0, .int .u64 0, .int .i64 0, .int .i64 0, .slice none 0 0, .int .u64 0, .int .i64 0, .int .i64 0, .slice none 0 0, .int .i64 0, .int .i64 0]) := ⟨⟨.agg ([.int .u64 0, .int .i64 0, .int .i64 0, .slice none 0 0, .int .u64 0, .int .i64 0, .int .i64 0, .slice none 0 0, .int .u64 0, .int .i64 0, .int .i64 0, .slice none 0 0, .int .u64 0, .int .i64 0, .int .i64 0, .slice none 0 0, .int .u64 0, .int .i64 0, .int .i64 0, .slice none 0 0, .int .u64 0, .int .i64 0, .int .i64 0, .slice none 0 0, .int .u64 0, .int .i64 0, .int .i64 0, .slice none 0 0, .int .u64 0, .int .i64 0, .int .i64 0, .slice none 0 0, .int .u64 0, .int .i64 0, .int .i64 0, .slice none 0 0, .int .u64 0, .int .i64 0, .int .i64 0, .slice none 0 0, .int .u64 0, .int .i64 0, .int .i64 0, .slice none 0 0, .int .u64 0, .int .i64 0, .int .i64 0, .slice none 0 0, .int .u64 0, .int .i64 0, .int .i64 0, .slice none 0 0, .int .u64 0, .int .i64 0, .int .i64 0, .slice none 0 0, .int .u64 0, .int .i64 0, .int .i64 0, .slice none 0 0, .int .u64 0, .int .i64 0, .int .i64 0, .slice none 0 0, .int .i64 0, .int .i64 0]).toArray, by kernel_rfl, by kernel_rfl⟩⟩
instance : FldC Try.prog 141 0 0 := ⟨⟨_, _, Try.underlying141, rfl, rfl, 63, by kernel_rfl⟩⟩
instance : FldV Try.prog 141 0 0 64 false := ⟨⟨_, _, _, Try.underlying141, rfl, rfl, by kernel_rfl, Try.underlying139, rfl⟩⟩
instance : FldC Try.prog 141 1 64 := ⟨⟨_, _, Try.underlying141, rfl, rfl, 0, by kernel_rfl⟩⟩
instance : FldV Try.prog 141 1 64 1 true := ⟨⟨_, _, _, Try.underlying141, rfl, rfl, by kernel_rfl, Try.underlying3, rfl⟩⟩
instance : FldC Try.prog 141 2 65 := ⟨⟨_, _, Try.underlying141, rfl, rfl, 0, by kernel_rfl⟩⟩
instance : FldV Try.prog 141 2 65 1 true := ⟨⟨_, _, _, Try.underlying141, rfl, rfl, by kernel_rfl, Try.underlying3, rfl⟩⟩
-- 142 struct%20{%20part%20*extent.Part;%20room%20int;%20last%20uint64;%20served%20uint64;%20waiting%20iosched.ring[nacelle/iosched.asked]%20}
instance : RowC Try.prog 142 70 := ⟨⟨_, Try.underlying142, rfl⟩, by kernel_rfl⟩
instance : ZeroC Try.prog 142 ([.pointer none, .int .i64 0, .int .u64 0, .int .u64 0, .int .u64 0, .int .i64 0, .int .i64 0, .slice none 0 0, .int .u64 0, .int .i64 0, .int .i64 0, .slice none 0 0, .int .u64 0, .int .i64 0, .int .i64 0, .slice none 0 0, .int .u64 0, .int .i64 0, .int .i64 0, .slice none 0 0, .int .u64 0, .int .i64 0, .int .i64 0, .slice none 0 0, .int .u64 0, .int .i64 0, .int .i64 0, .slice none 0 0, .int .u64 0, .int .i64 0, .int .i64 0, .slice none 0 0, .int .u64 0, .int .i64 0, .int .i64 0, .slice none 0 0, .int .u64 0, .int .i64 0, .int .i64 0, .slice none 0 0, .int .u64 0, .int .i64 0, .int .i64 0, .slice none 0 0, .int .u64 0, .int .i64 0, .int .i64 0, .slice none 0 0, .int .u64 0, .int .i64 0, .int .i64 0, .slice none 0 0, .int .u64 0, .int .i64 0, .int .i64 0, .slice none 0 0, .int .u64 0, .int .i64 0, .int .i64 0, .slice none 0 0, .int .u64 0, .int .i64 0, .int .i64 0, .slice none 0 0, .int .u64 0, .int .i64 0, .int .i64 0, .slice none 0 0, .int .i64 0, .int .i64 0]) := ⟨⟨.agg ([.pointer none, .int .i64 0, .int .u64 0, .int .u64 0, .int .u64 0, .int .i64 0, .int .i64 0, .slice none 0 0, .int .u64 0, .int .i64 0, .int .i64 0, .slice none 0 0, .int .u64 0, .int .i64 0, .int .i64 0, .slice none 0 0, .int .u64 0, .int .i64 0, .int .i64 0, .slice none 0 0, .int .u64 0, .int .i64 0, .int .i64 0, .slice none 0 0, .int .u64 0, .int .i64 0, .int .i64 0, .slice none 0 0, .int .u64 0, .int .i64 0, .int .i64 0, .slice none 0 0, .int .u64 0, .int .i64 0, .int .i64 0, .slice none 0 0, .int .u64 0, .int .i64 0, .int .i64 0, .slice none 0 0, .int .u64 0, .int .i64 0, .int .i64 0, .slice none 0 0, .int .u64 0, .int .i64 0, .int .i64 0, .slice none 0 0, .int .u64 0, .int .i64 0, .int .i64 0, .slice none 0 0, .int .u64 0, .int .i64 0, .int .i64 0, .slice none 0 0, .int .u64 0, .int .i64 0, .int .i64 0, .slice none 0 0, .int .u64 0, .int .i64 0, .int .i64 0, .slice none 0 0, .int .u64 0, .int .i64 0, .int .i64 0, .slice none 0 0, .int .i64 0, .int .i64 0]).toArray, by kernel_rfl, by kernel_rfl⟩⟩
instance : FldC Try.prog 142 0 0 := ⟨⟨_, _, Try.underlying142, rfl, rfl, 0, by kernel_rfl⟩⟩
instance : FldV Try.prog 142 0 0 1 true := ⟨⟨_, _, _, Try.underlying142, rfl, rfl, by kernel_rfl, Try.underlying108, rfl⟩⟩
instance : FldC Try.prog 142 1 1 := ⟨⟨_, _, Try.underlying142, rfl, rfl, 0, by kernel_rfl⟩⟩
instance : FldV Try.prog 142 1 1 1 true := ⟨⟨_, _, _, Try.underlying142, rfl, rfl, by kernel_rfl, Try.underlying3, rfl⟩⟩
instance : FldC Try.prog 142 2 2 := ⟨⟨_, _, Try.underlying142, rfl, rfl, 0, by kernel_rfl⟩⟩
instance : FldV Try.prog 142 2 2 1 true := ⟨⟨_, _, _, Try.underlying142, rfl, rfl, by kernel_rfl, Try.underlying41, rfl⟩⟩
instance : FldC Try.prog 142 3 3 := ⟨⟨_, _, Try.underlying142, rfl, rfl, 0, by kernel_rfl⟩⟩
instance : FldV Try.prog 142 3 3 1 true := ⟨⟨_, _, _, Try.underlying142, rfl, rfl, by kernel_rfl, Try.underlying41, rfl⟩⟩
instance : FldC Try.prog 142 4 4 := ⟨⟨_, _, Try.underlying142, rfl, rfl, 65, by kernel_rfl⟩⟩
instance : FldV Try.prog 142 4 4 66 false := ⟨⟨_, _, _, Try.underlying142, rfl, rfl, by kernel_rfl, Try.underlying141, rfl⟩⟩
-- 144 func(int)%20bool
instance : OneC Try.prog 144 := ⟨⟨_, Try.underlying144, rfl⟩, by kernel_rfl⟩
instance : ZeroC Try.prog 144 ([.nilFunc]) := ⟨⟨.nilFunc, by kernel_rfl, by kernel_rfl⟩⟩
-- 145 *iosched.partition
instance : OneC Try.prog 145 := ⟨⟨_, Try.underlying145, rfl⟩, by kernel_rfl⟩
instance : ZeroC Try.prog 145 ([.pointer none]) := ⟨⟨.pointer none, by kernel_rfl, by kernel_rfl⟩⟩
instance : PtrC Try.prog 145 143 := ⟨Try.underlying145⟩
-- 146 func(api.Request)%20bool
instance : OneC Try.prog 146 := ⟨⟨_, Try.underlying146, rfl⟩, by kernel_rfl⟩
instance : ZeroC Try.prog 146 ([.nilFunc]) := ⟨⟨.nilFunc, by kernel_rfl, by kernel_rfl⟩⟩
-- 147 func([]uint8)%20[]uint8
instance : OneC Try.prog 147 := ⟨⟨_, Try.underlying147, rfl⟩, by kernel_rfl⟩
instance : ZeroC Try.prog 147 ([.nilFunc]) := ⟨⟨.nilFunc, by kernel_rfl, by kernel_rfl⟩⟩
-- 148 func(iosched.asked)
instance : OneC Try.prog 148 := ⟨⟨_, Try.underlying148, rfl⟩, by kernel_rfl⟩
instance : ZeroC Try.prog 148 ([.nilFunc]) := ⟨⟨.nilFunc, by kernel_rfl, by kernel_rfl⟩⟩
-- 149 func()%20iosched.asked
instance : OneC Try.prog 149 := ⟨⟨_, Try.underlying149, rfl⟩, by kernel_rfl⟩
instance : ZeroC Try.prog 149 ([.nilFunc]) := ⟨⟨.nilFunc, by kernel_rfl, by kernel_rfl⟩⟩
-- 150 [64]uint8
instance : RowC Try.prog 150 64 := ⟨⟨_, Try.underlying150, rfl⟩, by kernel_rfl⟩
instance : ZeroC Try.prog 150 (List.replicate 64 (.int .u8 0)) := ⟨⟨.agg (List.replicate 64 (.int .u8 0)).toArray, by kernel_rfl, by kernel_rfl⟩⟩
instance : ArrC Try.prog 150 64 1 true := ⟨⟨_, _, Try.underlying150, by kernel_rfl, Try.underlying5, rfl⟩⟩
-- 151 disk.sector
instance : RowC Try.prog 151 64 := ⟨⟨_, Try.underlying151, rfl⟩, by kernel_rfl⟩
instance : ZeroC Try.prog 151 (List.replicate 64 (.int .u8 0)) := ⟨⟨.agg (List.replicate 64 (.int .u8 0)).toArray, by kernel_rfl, by kernel_rfl⟩⟩
instance : ArrC Try.prog 151 64 1 true := ⟨⟨_, _, Try.underlying151, by kernel_rfl, Try.underlying5, rfl⟩⟩
-- 152 struct%20{%20at%20int;%20content%20disk.sector%20}
instance : RowC Try.prog 152 65 := ⟨⟨_, Try.underlying152, rfl⟩, by kernel_rfl⟩
instance : ZeroC Try.prog 152 ([.int .i64 0, .int .u8 0, .int .u8 0, .int .u8 0, .int .u8 0, .int .u8 0, .int .u8 0, .int .u8 0, .int .u8 0, .int .u8 0, .int .u8 0, .int .u8 0, .int .u8 0, .int .u8 0, .int .u8 0, .int .u8 0, .int .u8 0, .int .u8 0, .int .u8 0, .int .u8 0, .int .u8 0, .int .u8 0, .int .u8 0, .int .u8 0, .int .u8 0, .int .u8 0, .int .u8 0, .int .u8 0, .int .u8 0, .int .u8 0, .int .u8 0, .int .u8 0, .int .u8 0, .int .u8 0, .int .u8 0, .int .u8 0, .int .u8 0, .int .u8 0, .int .u8 0, .int .u8 0, .int .u8 0, .int .u8 0, .int .u8 0, .int .u8 0, .int .u8 0, .int .u8 0, .int .u8 0, .int .u8 0, .int .u8 0, .int .u8 0, .int .u8 0, .int .u8 0, .int .u8 0, .int .u8 0, .int .u8 0, .int .u8 0, .int .u8 0, .int .u8 0, .int .u8 0, .int .u8 0, .int .u8 0, .int .u8 0, .int .u8 0, .int .u8 0, .int .u8 0]) := ⟨⟨.agg ([.int .i64 0, .int .u8 0, .int .u8 0, .int .u8 0, .int .u8 0, .int .u8 0, .int .u8 0, .int .u8 0, .int .u8 0, .int .u8 0, .int .u8 0, .int .u8 0, .int .u8 0, .int .u8 0, .int .u8 0, .int .u8 0, .int .u8 0, .int .u8 0, .int .u8 0, .int .u8 0, .int .u8 0, .int .u8 0, .int .u8 0, .int .u8 0, .int .u8 0, .int .u8 0, .int .u8 0, .int .u8 0, .int .u8 0, .int .u8 0, .int .u8 0, .int .u8 0, .int .u8 0, .int .u8 0, .int .u8 0, .int .u8 0, .int .u8 0, .int .u8 0, .int .u8 0, .int .u8 0, .int .u8 0, .int .u8 0, .int .u8 0, .int .u8 0, .int .u8 0, .int .u8 0, .int .u8 0, .int .u8 0, .int .u8 0, .int .u8 0, .int .u8 0, .int .u8 0, .int .u8 0, .int .u8 0, .int .u8 0, .int .u8 0, .int .u8 0, .int .u8 0, .int .u8 0, .int .u8 0, .int .u8 0, .int .u8 0, .int .u8 0, .int .u8 0, .int .u8 0]).toArray, by kernel_rfl, by kernel_rfl⟩⟩
instance : FldC Try.prog 152 0 0 := ⟨⟨_, _, Try.underlying152, rfl, rfl, 0, by kernel_rfl⟩⟩
instance : FldV Try.prog 152 0 0 1 true := ⟨⟨_, _, _, Try.underlying152, rfl, rfl, by kernel_rfl, Try.underlying3, rfl⟩⟩
instance : FldC Try.prog 152 1 1 := ⟨⟨_, _, Try.underlying152, rfl, rfl, 63, by kernel_rfl⟩⟩
instance : FldV Try.prog 152 1 1 64 false := ⟨⟨_, _, _, Try.underlying152, rfl, rfl, by kernel_rfl, Try.underlying151, rfl⟩⟩
-- 153 disk.write
instance : RowC Try.prog 153 65 := ⟨⟨_, Try.underlying153, rfl⟩, by kernel_rfl⟩
instance : ZeroC Try.prog 153 ([.int .i64 0, .int .u8 0, .int .u8 0, .int .u8 0, .int .u8 0, .int .u8 0, .int .u8 0, .int .u8 0, .int .u8 0, .int .u8 0, .int .u8 0, .int .u8 0, .int .u8 0, .int .u8 0, .int .u8 0, .int .u8 0, .int .u8 0, .int .u8 0, .int .u8 0, .int .u8 0, .int .u8 0, .int .u8 0, .int .u8 0, .int .u8 0, .int .u8 0, .int .u8 0, .int .u8 0, .int .u8 0, .int .u8 0, .int .u8 0, .int .u8 0, .int .u8 0, .int .u8 0, .int .u8 0, .int .u8 0, .int .u8 0, .int .u8 0, .int .u8 0, .int .u8 0, .int .u8 0, .int .u8 0, .int .u8 0, .int .u8 0, .int .u8 0, .int .u8 0, .int .u8 0, .int .u8 0, .int .u8 0, .int .u8 0, .int .u8 0, .int .u8 0, .int .u8 0, .int .u8 0, .int .u8 0, .int .u8 0, .int .u8 0, .int .u8 0, .int .u8 0, .int .u8 0, .int .u8 0, .int .u8 0, .int .u8 0, .int .u8 0, .int .u8 0, .int .u8 0]) := ⟨⟨.agg ([.int .i64 0, .int .u8 0, .int .u8 0, .int .u8 0, .int .u8 0, .int .u8 0, .int .u8 0, .int .u8 0, .int .u8 0, .int .u8 0, .int .u8 0, .int .u8 0, .int .u8 0, .int .u8 0, .int .u8 0, .int .u8 0, .int .u8 0, .int .u8 0, .int .u8 0, .int .u8 0, .int .u8 0, .int .u8 0, .int .u8 0, .int .u8 0, .int .u8 0, .int .u8 0, .int .u8 0, .int .u8 0, .int .u8 0, .int .u8 0, .int .u8 0, .int .u8 0, .int .u8 0, .int .u8 0, .int .u8 0, .int .u8 0, .int .u8 0, .int .u8 0, .int .u8 0, .int .u8 0, .int .u8 0, .int .u8 0, .int .u8 0, .int .u8 0, .int .u8 0, .int .u8 0, .int .u8 0, .int .u8 0, .int .u8 0, .int .u8 0, .int .u8 0, .int .u8 0, .int .u8 0, .int .u8 0, .int .u8 0, .int .u8 0, .int .u8 0, .int .u8 0, .int .u8 0, .int .u8 0, .int .u8 0, .int .u8 0, .int .u8 0, .int .u8 0, .int .u8 0]).toArray, by kernel_rfl, by kernel_rfl⟩⟩
instance : FldC Try.prog 153 0 0 := ⟨⟨_, _, Try.underlying153, rfl, rfl, 0, by kernel_rfl⟩⟩
instance : FldV Try.prog 153 0 0 1 true := ⟨⟨_, _, _, Try.underlying153, rfl, rfl, by kernel_rfl, Try.underlying3, rfl⟩⟩
instance : FldC Try.prog 153 1 1 := ⟨⟨_, _, Try.underlying153, rfl, rfl, 63, by kernel_rfl⟩⟩
instance : FldV Try.prog 153 1 1 64 false := ⟨⟨_, _, _, Try.underlying153, rfl, rfl, by kernel_rfl, Try.underlying151, rfl⟩⟩
-- 154 func(bool,%20[]bool)%20nacelleref05.Disk
instance : OneC Try.prog 154 := ⟨⟨_, Try.underlying154, rfl⟩, by kernel_rfl⟩
instance : ZeroC Try.prog 154 ([.nilFunc]) := ⟨⟨.nilFunc, by kernel_rfl, by kernel_rfl⟩⟩
-- 155 func([]extent.Extent,%20func(extent.Extent,%20extent.Extent)%20int)
instance : OneC Try.prog 155 := ⟨⟨_, Try.underlying155, rfl⟩, by kernel_rfl⟩
instance : ZeroC Try.prog 155 ([.nilFunc]) := ⟨⟨.nilFunc, by kernel_rfl, by kernel_rfl⟩⟩
-- 156 func(int,%20int)%20int
instance : OneC Try.prog 156 := ⟨⟨_, Try.underlying156, rfl⟩, by kernel_rfl⟩
instance : ZeroC Try.prog 156 ([.nilFunc]) := ⟨⟨.nilFunc, by kernel_rfl, by kernel_rfl⟩⟩
-- 157 func(extent.Extent,%20extent.Extent)%20int
instance : OneC Try.prog 157 := ⟨⟨_, Try.underlying157, rfl⟩, by kernel_rfl⟩
instance : ZeroC Try.prog 157 ([.nilFunc]) := ⟨⟨.nilFunc, by kernel_rfl, by kernel_rfl⟩⟩
-- 158 func(int,%20int,%20int,%20int)%20bool
instance : OneC Try.prog 158 := ⟨⟨_, Try.underlying158, rfl⟩, by kernel_rfl⟩
instance : ZeroC Try.prog 158 ([.nilFunc]) := ⟨⟨.nilFunc, by kernel_rfl, by kernel_rfl⟩⟩
-- 160 func(extent.Extent,%20int)%20(int,%20api.Errno)
instance : OneC Try.prog 160 := ⟨⟨_, Try.underlying160, rfl⟩, by kernel_rfl⟩
instance : ZeroC Try.prog 160 ([.nilFunc]) := ⟨⟨.nilFunc, by kernel_rfl, by kernel_rfl⟩⟩
-- 161 struct%20{%20extent.Extent;%20d%20*disk.Disk%20}
instance : RowC Try.prog 161 3 := ⟨⟨_, Try.underlying161, rfl⟩, by kernel_rfl⟩
instance : ZeroC Try.prog 161 ([.int .i64 0, .int .i64 0, .pointer none]) := ⟨⟨.agg ([.int .i64 0, .int .i64 0, .pointer none]).toArray, by kernel_rfl, by kernel_rfl⟩⟩
instance : FldC Try.prog 161 0 0 := ⟨⟨_, _, Try.underlying161, rfl, rfl, 1, by kernel_rfl⟩⟩
instance : FldV Try.prog 161 0 0 2 false := ⟨⟨_, _, _, Try.underlying161, rfl, rfl, by kernel_rfl, Try.underlying33, rfl⟩⟩
instance : FldC Try.prog 161 1 2 := ⟨⟨_, _, Try.underlying161, rfl, rfl, 0, by kernel_rfl⟩⟩
instance : FldV Try.prog 161 1 2 1 true := ⟨⟨_, _, _, Try.underlying161, rfl, rfl, by kernel_rfl, Try.underlying25, rfl⟩⟩
-- 162 extent.Part
instance : RowC Try.prog 162 3 := ⟨⟨_, Try.underlying162, rfl⟩, by kernel_rfl⟩
instance : ZeroC Try.prog 162 ([.int .i64 0, .int .i64 0, .pointer none]) := ⟨⟨.agg ([.int .i64 0, .int .i64 0, .pointer none]).toArray, by kernel_rfl, by kernel_rfl⟩⟩
instance : FldC Try.prog 162 0 0 := ⟨⟨_, _, Try.underlying162, rfl, rfl, 1, by kernel_rfl⟩⟩
instance : FldV Try.prog 162 0 0 2 false := ⟨⟨_, _, _, Try.underlying162, rfl, rfl, by kernel_rfl, Try.underlying33, rfl⟩⟩
instance : FldC Try.prog 162 1 2 := ⟨⟨_, _, Try.underlying162, rfl, rfl, 0, by kernel_rfl⟩⟩
instance : FldV Try.prog 162 1 2 1 true := ⟨⟨_, _, _, Try.underlying162, rfl, rfl, by kernel_rfl, Try.underlying25, rfl⟩⟩
-- 163 func()%20(nacelleref05.Disk,%20bool)
instance : OneC Try.prog 163 := ⟨⟨_, Try.underlying163, rfl⟩, by kernel_rfl⟩
instance : ZeroC Try.prog 163 ([.nilFunc]) := ⟨⟨.nilFunc, by kernel_rfl, by kernel_rfl⟩⟩
-- 164 struct%20{%20At%20int;%20B%20string%20}
instance : RowC Try.prog 164 2 := ⟨⟨_, Try.underlying164, rfl⟩, by kernel_rfl⟩
instance : ZeroC Try.prog 164 ([.int .i64 0, .string ⟨#[]⟩]) := ⟨⟨.agg ([.int .i64 0, .string ⟨#[]⟩]).toArray, by kernel_rfl, by kernel_rfl⟩⟩
instance : FldC Try.prog 164 0 0 := ⟨⟨_, _, Try.underlying164, rfl, rfl, 0, by kernel_rfl⟩⟩
instance : FldV Try.prog 164 0 0 1 true := ⟨⟨_, _, _, Try.underlying164, rfl, rfl, by kernel_rfl, Try.underlying3, rfl⟩⟩
instance : FldC Try.prog 164 1 1 := ⟨⟨_, _, Try.underlying164, rfl, rfl, 0, by kernel_rfl⟩⟩
instance : FldV Try.prog 164 1 1 1 true := ⟨⟨_, _, _, Try.underlying164, rfl, rfl, by kernel_rfl, Try.underlying9, rfl⟩⟩
-- 165 nacelleref05.Write
instance : RowC Try.prog 165 2 := ⟨⟨_, Try.underlying165, rfl⟩, by kernel_rfl⟩
instance : ZeroC Try.prog 165 ([.int .i64 0, .string ⟨#[]⟩]) := ⟨⟨.agg ([.int .i64 0, .string ⟨#[]⟩]).toArray, by kernel_rfl, by kernel_rfl⟩⟩
instance : FldC Try.prog 165 0 0 := ⟨⟨_, _, Try.underlying165, rfl, rfl, 0, by kernel_rfl⟩⟩
instance : FldV Try.prog 165 0 0 1 true := ⟨⟨_, _, _, Try.underlying165, rfl, rfl, by kernel_rfl, Try.underlying3, rfl⟩⟩
instance : FldC Try.prog 165 1 1 := ⟨⟨_, _, Try.underlying165, rfl, rfl, 0, by kernel_rfl⟩⟩
instance : FldV Try.prog 165 1 1 1 true := ⟨⟨_, _, _, Try.underlying165, rfl, rfl, by kernel_rfl, Try.underlying9, rfl⟩⟩
-- 166 *iosched.ring[nacelle/iosched.asked]
instance : OneC Try.prog 166 := ⟨⟨_, Try.underlying166, rfl⟩, by kernel_rfl⟩
instance : ZeroC Try.prog 166 ([.pointer none]) := ⟨⟨.pointer none, by kernel_rfl, by kernel_rfl⟩⟩
instance : PtrC Try.prog 166 141 := ⟨Try.underlying166⟩
-- 167 func([]string,%20int,%20string)%20[]string
instance : OneC Try.prog 167 := ⟨⟨_, Try.underlying167, rfl⟩, by kernel_rfl⟩
instance : ZeroC Try.prog 167 ([.nilFunc]) := ⟨⟨.nilFunc, by kernel_rfl, by kernel_rfl⟩⟩
-- 168 func([]extent.Extent,%20int,%20int,%20int,%20func(extent.Extent,%20extent.Extent)%20int)
instance : OneC Try.prog 168 := ⟨⟨_, Try.underlying168, rfl⟩, by kernel_rfl⟩
instance : ZeroC Try.prog 168 ([.nilFunc]) := ⟨⟨.nilFunc, by kernel_rfl, by kernel_rfl⟩⟩
-- 169 func(uint)%20int
instance : OneC Try.prog 169 := ⟨⟨_, Try.underlying169, rfl⟩, by kernel_rfl⟩
instance : ZeroC Try.prog 169 ([.nilFunc]) := ⟨⟨.nilFunc, by kernel_rfl, by kernel_rfl⟩⟩
-- 170 uint
instance : OneC Try.prog 170 := ⟨⟨_, Try.underlying170, rfl⟩, by kernel_rfl⟩
instance : ZeroC Try.prog 170 ([.int .u64 0]) := ⟨⟨.int .u64 0, by kernel_rfl, by kernel_rfl⟩⟩
instance : IntC Try.prog 170 .u64 := ⟨Try.underlying170⟩
-- 171 func([]extent.Extent,%20int,%20int,%20func(extent.Extent,%20extent.Extent)%20int)
instance : OneC Try.prog 171 := ⟨⟨_, Try.underlying171, rfl⟩, by kernel_rfl⟩
instance : ZeroC Try.prog 171 ([.nilFunc]) := ⟨⟨.nilFunc, by kernel_rfl, by kernel_rfl⟩⟩
-- 172 slices.sortedHint
instance : OneC Try.prog 172 := ⟨⟨_, Try.underlying172, rfl⟩, by kernel_rfl⟩
instance : ZeroC Try.prog 172 ([.int .i64 0]) := ⟨⟨.int .i64 0, by kernel_rfl, by kernel_rfl⟩⟩
instance : IntC Try.prog 172 .i64 := ⟨Try.underlying172⟩
-- 174 func([]extent.Extent,%20int,%20int,%20func(extent.Extent,%20extent.Extent)%20int)%20(int,%20slices.sortedHint)
instance : OneC Try.prog 174 := ⟨⟨_, Try.underlying174, rfl⟩, by kernel_rfl⟩
instance : ZeroC Try.prog 174 ([.nilFunc]) := ⟨⟨.nilFunc, by kernel_rfl, by kernel_rfl⟩⟩
-- 175 func([]extent.Extent,%20int,%20int,%20func(extent.Extent,%20extent.Extent)%20int)%20bool
instance : OneC Try.prog 175 := ⟨⟨_, Try.underlying175, rfl⟩, by kernel_rfl⟩
instance : ZeroC Try.prog 175 ([.nilFunc]) := ⟨⟨.nilFunc, by kernel_rfl, by kernel_rfl⟩⟩
-- 176 func([]extent.Extent,%20int,%20int,%20int,%20func(extent.Extent,%20extent.Extent)%20int)%20int
instance : OneC Try.prog 176 := ⟨⟨_, Try.underlying176, rfl⟩, by kernel_rfl⟩
instance : ZeroC Try.prog 176 ([.nilFunc]) := ⟨⟨.nilFunc, by kernel_rfl, by kernel_rfl⟩⟩
-- 177 func([]extent.Extent,%20int,%20int,%20int,%20func(extent.Extent,%20extent.Extent)%20int)%20(int,%20bool)
instance : OneC Try.prog 177 := ⟨⟨_, Try.underlying177, rfl⟩, by kernel_rfl⟩
instance : ZeroC Try.prog 177 ([.nilFunc]) := ⟨⟨.nilFunc, by kernel_rfl, by kernel_rfl⟩⟩
-- 178 func(uint32)%20int
instance : OneC Try.prog 178 := ⟨⟨_, Try.underlying178, rfl⟩, by kernel_rfl⟩
instance : ZeroC Try.prog 178 ([.nilFunc]) := ⟨⟨.nilFunc, by kernel_rfl, by kernel_rfl⟩⟩
-- 179 uint32
instance : OneC Try.prog 179 := ⟨⟨_, Try.underlying179, rfl⟩, by kernel_rfl⟩
instance : ZeroC Try.prog 179 ([.int .u32 0]) := ⟨⟨.int .u32 0, by kernel_rfl, by kernel_rfl⟩⟩
instance : IntC Try.prog 179 .u32 := ⟨Try.underlying179⟩
-- 180 func(uint64)%20int
instance : OneC Try.prog 180 := ⟨⟨_, Try.underlying180, rfl⟩, by kernel_rfl⟩
instance : ZeroC Try.prog 180 ([.nilFunc]) := ⟨⟨.nilFunc, by kernel_rfl, by kernel_rfl⟩⟩
-- 181 slices.xorshift
instance : OneC Try.prog 181 := ⟨⟨_, Try.underlying181, rfl⟩, by kernel_rfl⟩
instance : ZeroC Try.prog 181 ([.int .u64 0]) := ⟨⟨.int .u64 0, by kernel_rfl, by kernel_rfl⟩⟩
instance : IntC Try.prog 181 .u64 := ⟨Try.underlying181⟩
-- 182 func(int)%20uint
instance : OneC Try.prog 182 := ⟨⟨_, Try.underlying182, rfl⟩, by kernel_rfl⟩
instance : ZeroC Try.prog 182 ([.nilFunc]) := ⟨⟨.nilFunc, by kernel_rfl, by kernel_rfl⟩⟩
-- 183 func()%20uint64
instance : OneC Try.prog 183 := ⟨⟨_, Try.underlying183, rfl⟩, by kernel_rfl⟩
instance : ZeroC Try.prog 183 ([.nilFunc]) := ⟨⟨.nilFunc, by kernel_rfl, by kernel_rfl⟩⟩
-- 184 func([]extent.Extent,%20int,%20*int,%20func(extent.Extent,%20extent.Extent)%20int)%20int
instance : OneC Try.prog 184 := ⟨⟨_, Try.underlying184, rfl⟩, by kernel_rfl⟩
instance : ZeroC Try.prog 184 ([.nilFunc]) := ⟨⟨.nilFunc, by kernel_rfl, by kernel_rfl⟩⟩
-- 185 *int
instance : OneC Try.prog 185 := ⟨⟨_, Try.underlying185, rfl⟩, by kernel_rfl⟩
instance : ZeroC Try.prog 185 ([.pointer none]) := ⟨⟨.pointer none, by kernel_rfl, by kernel_rfl⟩⟩
instance : PtrC Try.prog 185 3 := ⟨Try.underlying185⟩
-- 186 func([]extent.Extent,%20int,%20int,%20int,%20*int,%20func(extent.Extent,%20extent.Extent)%20int)%20int
instance : OneC Try.prog 186 := ⟨⟨_, Try.underlying186, rfl⟩, by kernel_rfl⟩
instance : ZeroC Try.prog 186 ([.nilFunc]) := ⟨⟨.nilFunc, by kernel_rfl, by kernel_rfl⟩⟩
-- 187 *slices.xorshift
instance : OneC Try.prog 187 := ⟨⟨_, Try.underlying187, rfl⟩, by kernel_rfl⟩
instance : ZeroC Try.prog 187 ([.pointer none]) := ⟨⟨.pointer none, by kernel_rfl, by kernel_rfl⟩⟩
instance : PtrC Try.prog 187 181 := ⟨Try.underlying187⟩
-- 189 func([]extent.Extent,%20int,%20int,%20*int,%20func(extent.Extent,%20extent.Extent)%20int)%20(int,%20int)
instance : OneC Try.prog 189 := ⟨⟨_, Try.underlying189, rfl⟩, by kernel_rfl⟩
instance : ZeroC Try.prog 189 ([.nilFunc]) := ⟨⟨.nilFunc, by kernel_rfl, by kernel_rfl⟩⟩
-- 190 struct%20{%20_interface%20*abi.Type;%20concrete%20*abi.Type;%20asserted%20*abi.Type;%20missingMethod%20string%20}
instance : RowC Try.prog 190 4 := ⟨⟨_, Try.underlying190, rfl⟩, by kernel_rfl⟩
instance : ZeroC Try.prog 190 ([.pointer none, .pointer none, .pointer none, .string ⟨#[]⟩]) := ⟨⟨.agg ([.pointer none, .pointer none, .pointer none, .string ⟨#[]⟩]).toArray, by kernel_rfl, by kernel_rfl⟩⟩
instance : FldC Try.prog 190 0 0 := ⟨⟨_, _, Try.underlying190, rfl, rfl, 0, by kernel_rfl⟩⟩
instance : FldV Try.prog 190 0 0 1 true := ⟨⟨_, _, _, Try.underlying190, rfl, rfl, by kernel_rfl, Try.underlying17, rfl⟩⟩
instance : FldC Try.prog 190 1 1 := ⟨⟨_, _, Try.underlying190, rfl, rfl, 0, by kernel_rfl⟩⟩
instance : FldV Try.prog 190 1 1 1 true := ⟨⟨_, _, _, Try.underlying190, rfl, rfl, by kernel_rfl, Try.underlying17, rfl⟩⟩
instance : FldC Try.prog 190 2 2 := ⟨⟨_, _, Try.underlying190, rfl, rfl, 0, by kernel_rfl⟩⟩
instance : FldV Try.prog 190 2 2 1 true := ⟨⟨_, _, _, Try.underlying190, rfl, rfl, by kernel_rfl, Try.underlying17, rfl⟩⟩
instance : FldC Try.prog 190 3 3 := ⟨⟨_, _, Try.underlying190, rfl, rfl, 0, by kernel_rfl⟩⟩
instance : FldV Try.prog 190 3 3 1 true := ⟨⟨_, _, _, Try.underlying190, rfl, rfl, by kernel_rfl, Try.underlying9, rfl⟩⟩
-- 192 [0]*runtime.PanicNilError
instance : RowC Try.prog 192 0 := ⟨⟨_, Try.underlying192, rfl⟩, by kernel_rfl⟩
instance : ZeroC Try.prog 192 ([]) := ⟨⟨.agg ([]).toArray, by kernel_rfl, by kernel_rfl⟩⟩
instance : ArrC Try.prog 192 0 1 true := ⟨⟨_, _, Try.underlying192, by kernel_rfl, Try.underlying16, rfl⟩⟩
-- 193 struct%20{%20_%20[0]*runtime.PanicNilError%20}
instance : RowC Try.prog 193 0 := ⟨⟨_, Try.underlying193, rfl⟩, by kernel_rfl⟩
instance : ZeroC Try.prog 193 ([]) := ⟨⟨.agg ([]).toArray, by kernel_rfl, by kernel_rfl⟩⟩
-- 195 abi.TFlag
instance : OneC Try.prog 195 := ⟨⟨_, Try.underlying195, rfl⟩, by kernel_rfl⟩
instance : ZeroC Try.prog 195 ([.int .u8 0]) := ⟨⟨.int .u8 0, by kernel_rfl, by kernel_rfl⟩⟩
instance : IntC Try.prog 195 .u8 := ⟨Try.underlying195⟩
-- 196 abi.Kind
instance : OneC Try.prog 196 := ⟨⟨_, Try.underlying196, rfl⟩, by kernel_rfl⟩
instance : ZeroC Try.prog 196 ([.int .u8 0]) := ⟨⟨.int .u8 0, by kernel_rfl, by kernel_rfl⟩⟩
instance : IntC Try.prog 196 .u8 := ⟨Try.underlying196⟩
-- 197 func(unsafe.Pointer,%20unsafe.Pointer)%20bool
instance : OneC Try.prog 197 := ⟨⟨_, Try.underlying197, rfl⟩, by kernel_rfl⟩
instance : ZeroC Try.prog 197 ([.nilFunc]) := ⟨⟨.nilFunc, by kernel_rfl, by kernel_rfl⟩⟩
-- 198 *uint8
instance : OneC Try.prog 198 := ⟨⟨_, Try.underlying198, rfl⟩, by kernel_rfl⟩
instance : ZeroC Try.prog 198 ([.pointer none]) := ⟨⟨.pointer none, by kernel_rfl, by kernel_rfl⟩⟩
instance : PtrC Try.prog 198 5 := ⟨Try.underlying198⟩
-- 199 abi.NameOff
instance : OneC Try.prog 199 := ⟨⟨_, Try.underlying199, rfl⟩, by kernel_rfl⟩
instance : ZeroC Try.prog 199 ([.int .i32 0]) := ⟨⟨.int .i32 0, by kernel_rfl, by kernel_rfl⟩⟩
instance : IntC Try.prog 199 .i32 := ⟨Try.underlying199⟩
-- 200 abi.TypeOff
instance : OneC Try.prog 200 := ⟨⟨_, Try.underlying200, rfl⟩, by kernel_rfl⟩
instance : ZeroC Try.prog 200 ([.int .i32 0]) := ⟨⟨.int .i32 0, by kernel_rfl, by kernel_rfl⟩⟩
instance : IntC Try.prog 200 .i32 := ⟨Try.underlying200⟩
-- 201 struct%20{%20Size_%20uintptr;%20PtrBytes%20uintptr;%20Hash%20uint32;%20TFlag%20abi.TFlag;%20Align_%20uint8;%20FieldAlign_%20uint8;%20Kind_%20abi.Kind;%20Equal%20func(unsafe.Pointer,%20unsafe.Pointer)%20bool;%20GCData%20*uint8;%20Str%20abi.NameOff;%20PtrToThis%20abi.TypeOff%20}
instance : RowC Try.prog 201 11 := ⟨⟨_, Try.underlying201, rfl⟩, by kernel_rfl⟩
instance : ZeroC Try.prog 201 ([.int .u64 0, .int .u64 0, .int .u32 0, .int .u8 0, .int .u8 0, .int .u8 0, .int .u8 0, .nilFunc, .pointer none, .int .i32 0, .int .i32 0]) := ⟨⟨.agg ([.int .u64 0, .int .u64 0, .int .u32 0, .int .u8 0, .int .u8 0, .int .u8 0, .int .u8 0, .nilFunc, .pointer none, .int .i32 0, .int .i32 0]).toArray, by kernel_rfl, by kernel_rfl⟩⟩
instance : FldC Try.prog 201 0 0 := ⟨⟨_, _, Try.underlying201, rfl, rfl, 0, by kernel_rfl⟩⟩
instance : FldV Try.prog 201 0 0 1 true := ⟨⟨_, _, _, Try.underlying201, rfl, rfl, by kernel_rfl, Try.underlying12, rfl⟩⟩
instance : FldC Try.prog 201 1 1 := ⟨⟨_, _, Try.underlying201, rfl, rfl, 0, by kernel_rfl⟩⟩
instance : FldV Try.prog 201 1 1 1 true := ⟨⟨_, _, _, Try.underlying201, rfl, rfl, by kernel_rfl, Try.underlying12, rfl⟩⟩
instance : FldC Try.prog 201 2 2 := ⟨⟨_, _, Try.underlying201, rfl, rfl, 0, by kernel_rfl⟩⟩
instance : FldV Try.prog 201 2 2 1 true := ⟨⟨_, _, _, Try.underlying201, rfl, rfl, by kernel_rfl, Try.underlying179, rfl⟩⟩
instance : FldC Try.prog 201 3 3 := ⟨⟨_, _, Try.underlying201, rfl, rfl, 0, by kernel_rfl⟩⟩
instance : FldV Try.prog 201 3 3 1 true := ⟨⟨_, _, _, Try.underlying201, rfl, rfl, by kernel_rfl, Try.underlying195, rfl⟩⟩
instance : FldC Try.prog 201 4 4 := ⟨⟨_, _, Try.underlying201, rfl, rfl, 0, by kernel_rfl⟩⟩
instance : FldV Try.prog 201 4 4 1 true := ⟨⟨_, _, _, Try.underlying201, rfl, rfl, by kernel_rfl, Try.underlying5, rfl⟩⟩
instance : FldC Try.prog 201 5 5 := ⟨⟨_, _, Try.underlying201, rfl, rfl, 0, by kernel_rfl⟩⟩
instance : FldV Try.prog 201 5 5 1 true := ⟨⟨_, _, _, Try.underlying201, rfl, rfl, by kernel_rfl, Try.underlying5, rfl⟩⟩
instance : FldC Try.prog 201 6 6 := ⟨⟨_, _, Try.underlying201, rfl, rfl, 0, by kernel_rfl⟩⟩
instance : FldV Try.prog 201 6 6 1 true := ⟨⟨_, _, _, Try.underlying201, rfl, rfl, by kernel_rfl, Try.underlying196, rfl⟩⟩
instance : FldC Try.prog 201 7 7 := ⟨⟨_, _, Try.underlying201, rfl, rfl, 0, by kernel_rfl⟩⟩
instance : FldV Try.prog 201 7 7 1 true := ⟨⟨_, _, _, Try.underlying201, rfl, rfl, by kernel_rfl, Try.underlying197, rfl⟩⟩
instance : FldC Try.prog 201 8 8 := ⟨⟨_, _, Try.underlying201, rfl, rfl, 0, by kernel_rfl⟩⟩
instance : FldV Try.prog 201 8 8 1 true := ⟨⟨_, _, _, Try.underlying201, rfl, rfl, by kernel_rfl, Try.underlying198, rfl⟩⟩
instance : FldC Try.prog 201 9 9 := ⟨⟨_, _, Try.underlying201, rfl, rfl, 0, by kernel_rfl⟩⟩
instance : FldV Try.prog 201 9 9 1 true := ⟨⟨_, _, _, Try.underlying201, rfl, rfl, by kernel_rfl, Try.underlying199, rfl⟩⟩
instance : FldC Try.prog 201 10 10 := ⟨⟨_, _, Try.underlying201, rfl, rfl, 0, by kernel_rfl⟩⟩
instance : FldV Try.prog 201 10 10 1 true := ⟨⟨_, _, _, Try.underlying201, rfl, rfl, by kernel_rfl, Try.underlying200, rfl⟩⟩
instance : FunC Try.prog 3 := ⟨⟨_, _, Try.func3, by kernel_rfl, rfl⟩⟩  -- nacelle/nacelletop.NacelleDisk
instance : FunC Try.prog 4 := ⟨⟨_, _, Try.func4, by kernel_rfl, rfl⟩⟩  -- nacelle/nacellelaw15.IoschedPlays
instance : FunC Try.prog 5 := ⟨⟨_, _, Try.func5, by kernel_rfl, rfl⟩⟩  -- nacelle/nacellelaw15.IoschedApart
instance : FunC Try.prog 6 := ⟨⟨_, _, Try.func6, by kernel_rfl, rfl⟩⟩  -- nacelle/nacellelaw15.IoschedConfined
instance : FunC Try.prog 7 := ⟨⟨_, _, Try.func7, by kernel_rfl, rfl⟩⟩  -- nacelle/nacellelaw15.IoschedShares
instance : FunC Try.prog 8 := ⟨⟨_, _, Try.func8, by kernel_rfl, rfl⟩⟩  -- nacelle/nacellelaw15.IoschedWithin
instance : FunC Try.prog 9 := ⟨⟨_, _, Try.func9, by kernel_rfl, rfl⟩⟩  -- nacelle/nacellelaw06.ExtentApart
instance : FunC Try.prog 10 := ⟨⟨_, _, Try.func10, by kernel_rfl, rfl⟩⟩  -- nacelle/nacellelaw06.ExtentConfined
instance : FunC Try.prog 11 := ⟨⟨_, _, Try.func11, by kernel_rfl, rfl⟩⟩  -- nacelle/nacellelaw06.ExtentNested
instance : FunC Try.prog 12 := ⟨⟨_, _, Try.func12, by kernel_rfl, rfl⟩⟩  -- nacelle/nacellelaw06.ExtentPlays
instance : FunC Try.prog 13 := ⟨⟨_, _, Try.func13, by kernel_rfl, rfl⟩⟩  -- nacelle/disk.New
instance : FunC Try.prog 14 := ⟨⟨_, _, Try.func14, by kernel_rfl, rfl⟩⟩  -- nacelle/iosched.New
instance : FunC Try.prog 15 := ⟨⟨_, _, Try.func15, by kernel_rfl, rfl⟩⟩  -- (*nacelle/iosched.Schedule).Ask
instance : FunC Try.prog 16 := ⟨⟨_, _, Try.func16, by kernel_rfl, rfl⟩⟩  -- nacelle/nacellelaw15.Request
instance : FunC Try.prog 17 := ⟨⟨_, _, Try.func17, by kernel_rfl, rfl⟩⟩  -- (*nacelle/iosched.Schedule).Slot
instance : FunC Try.prog 18 := ⟨⟨_, _, Try.func18, by kernel_rfl, rfl⟩⟩  -- nacelle/nacellelaw05.Sector
instance : FunC Try.prog 19 := ⟨⟨_, _, Try.func19, by kernel_rfl, rfl⟩⟩  -- (*nacelle/disk.Disk).Crash
instance : FunC Try.prog 20 := ⟨⟨_, _, Try.func20, by kernel_rfl, rfl⟩⟩  -- (*nacelle/disk.Disk).Has
instance : FunC Try.prog 21 := ⟨⟨_, _, Try.func21, by kernel_rfl, rfl⟩⟩  -- nacelle/nacelleref05.Noughts
instance : FunC Try.prog 22 := ⟨⟨_, _, Try.func22, by kernel_rfl, rfl⟩⟩  -- nacelle/nacellelaw15.few
instance : FunC Try.prog 23 := ⟨⟨_, _, Try.func23, by kernel_rfl, rfl⟩⟩  -- nacelle/nacelleref05.New
instance : FunC Try.prog 24 := ⟨⟨_, _, Try.func24, by kernel_rfl, rfl⟩⟩  -- nacelle/nacelleref15.May
instance : FunC Try.prog 25 := ⟨⟨_, _, Try.func25, by kernel_rfl, rfl⟩⟩  -- nacelle/nacellelaw15.pairs
instance : FunC Try.prog 26 := ⟨⟨_, _, Try.func26, by kernel_rfl, rfl⟩⟩  -- nacelle/nacellelaw15.awake
instance : FunC Try.prog 27 := ⟨⟨_, _, Try.func27, by kernel_rfl, rfl⟩⟩  -- nacelle/nacelleref15.New
instance : FunC Try.prog 28 := ⟨⟨_, _, Try.func28, by kernel_rfl, rfl⟩⟩  -- (*nacelle/nacelleref15.Schedule).Ask
instance : FunC Try.prog 29 := ⟨⟨_, _, Try.func29, by kernel_rfl, rfl⟩⟩  -- (nacelle/nacelleref05.Disk).Crash
instance : FunC Try.prog 30 := ⟨⟨_, _, Try.func30, by kernel_rfl, rfl⟩⟩  -- (*nacelle/disk.Disk).Power
instance : FunC Try.prog 31 := ⟨⟨_, _, Try.func31, by kernel_rfl, rfl⟩⟩  -- (nacelle/nacelleref05.Disk).Power
instance : FunC Try.prog 32 := ⟨⟨_, _, Try.func32, by kernel_rfl, rfl⟩⟩  -- (*nacelle/nacelleref15.Schedule).Slot
instance : FunC Try.prog 33 := ⟨⟨_, _, Try.func33, by kernel_rfl, rfl⟩⟩  -- nacelle/nacellelaw15.same
instance : FunC Try.prog 34 := ⟨⟨_, _, Try.func34, by kernel_rfl, rfl⟩⟩  -- (*nacelle/iosched.Schedule).Next
instance : FunC Try.prog 35 := ⟨⟨_, _, Try.func35, by kernel_rfl, rfl⟩⟩  -- (*nacelle/disk.Disk).Image
instance : FunC Try.prog 36 := ⟨⟨_, _, Try.func36, by kernel_rfl, rfl⟩⟩  -- (nacelle/nacelleref05.Disk).Image
instance : FunC Try.prog 37 := ⟨⟨_, _, Try.func37, by kernel_rfl, rfl⟩⟩  -- (*nacelle/disk.Disk).Waiting
instance : FunC Try.prog 38 := ⟨⟨_, _, Try.func38, by kernel_rfl, rfl⟩⟩  -- (*nacelle/iosched.Schedule).Waiting
instance : FunC Try.prog 39 := ⟨⟨_, _, Try.func39, by kernel_rfl, rfl⟩⟩  -- (*nacelle/iosched.Schedule).Served
instance : FunC Try.prog 40 := ⟨⟨_, _, Try.func40, by kernel_rfl, rfl⟩⟩  -- nacelle/nacellelaw15.run
instance : FunC Try.prog 41 := ⟨⟨_, _, Try.func41, by kernel_rfl, rfl⟩⟩  -- nacelle/nacellelaw15.made
instance : FunC Try.prog 42 := ⟨⟨_, _, Try.func42, by kernel_rfl, rfl⟩⟩  -- (*nacelle/disk.Disk).Read
instance : FunC Try.prog 43 := ⟨⟨_, _, Try.func43, by kernel_rfl, rfl⟩⟩  -- nacelle/nacellelaw15.slots
instance : FunC Try.prog 44 := ⟨⟨_, _, Try.func44, by kernel_rfl, rfl⟩⟩  -- nacelle/extent.Apart
instance : FunC Try.prog 45 := ⟨⟨_, _, Try.func45, by kernel_rfl, rfl⟩⟩  -- nacelle/nacelleref06.Apart
instance : FunC Try.prog 46 := ⟨⟨_, _, Try.func46, by kernel_rfl, rfl⟩⟩  -- nacelle/nacellelaw06.awake
instance : FunC Try.prog 47 := ⟨⟨_, _, Try.func47, by kernel_rfl, rfl⟩⟩  -- nacelle/extent.New
instance : FunC Try.prog 48 := ⟨⟨_, _, Try.func48, by kernel_rfl, rfl⟩⟩  -- (*nacelle/extent.Part).Write
instance : FunC Try.prog 49 := ⟨⟨_, _, Try.func49, by kernel_rfl, rfl⟩⟩  -- (*nacelle/extent.Part).Read
instance : FunC Try.prog 50 := ⟨⟨_, _, Try.func50, by kernel_rfl, rfl⟩⟩  -- nacelle/extent.Lies
instance : FunC Try.prog 51 := ⟨⟨_, _, Try.func51, by kernel_rfl, rfl⟩⟩  -- (*nacelle/extent.Part).Part
instance : FunC Try.prog 52 := ⟨⟨_, _, Try.func52, by kernel_rfl, rfl⟩⟩  -- (*nacelle/extent.Part).Size
instance : FunC Try.prog 53 := ⟨⟨_, _, Try.func53, by kernel_rfl, rfl⟩⟩  -- (*nacelle/extent.Part).Flush
instance : FunC Try.prog 54 := ⟨⟨_, _, Try.func54, by kernel_rfl, rfl⟩⟩  -- (*nacelle/extent.Part).Image
instance : FunC Try.prog 55 := ⟨⟨_, _, Try.func55, by kernel_rfl, rfl⟩⟩  -- nacelle/nacelleref06.Lies
instance : FunC Try.prog 56 := ⟨⟨_, _, Try.func56, by kernel_rfl, rfl⟩⟩  -- nacelle/nacelleref06.Place
instance : FunC Try.prog 57 := ⟨⟨_, _, Try.func57, by kernel_rfl, rfl⟩⟩  -- (nacelle/nacelleref05.Disk).Write
instance : FunC Try.prog 58 := ⟨⟨_, _, Try.func58, by kernel_rfl, rfl⟩⟩  -- (nacelle/nacelleref05.Disk).Read
instance : FunC Try.prog 59 := ⟨⟨_, _, Try.func59, by kernel_rfl, rfl⟩⟩  -- (nacelle/nacelleref05.Disk).Flush
instance : FunC Try.prog 60 := ⟨⟨_, _, Try.func60, by kernel_rfl, rfl⟩⟩  -- (*nacelle/disk.Disk).Write
instance : FunC Try.prog 61 := ⟨⟨_, _, Try.func61, by kernel_rfl, rfl⟩⟩  -- (*nacelle/disk.Disk).Size
instance : FunC Try.prog 62 := ⟨⟨_, _, Try.func62, by kernel_rfl, rfl⟩⟩  -- slices.Clone[[]int,int]
instance : FunC Try.prog 63 := ⟨⟨_, _, Try.func63, by kernel_rfl, rfl⟩⟩  -- (*nacelle/iosched.Schedule).isPart
instance : FunC Try.prog 64 := ⟨⟨_, _, Try.func64, by kernel_rfl, rfl⟩⟩  -- nacelle/iosched.formed
instance : FunC Try.prog 65 := ⟨⟨_, _, Try.func65, by kernel_rfl, rfl⟩⟩  -- slices.Clone[[]byte,byte]
instance : FunC Try.prog 66 := ⟨⟨_, _, Try.func66, by kernel_rfl, rfl⟩⟩  -- (*nacelle/iosched.ring[nacelle/iosched.asked]).push
instance : FunC Try.prog 67 := ⟨⟨_, _, Try.func67, by kernel_rfl, rfl⟩⟩  -- (*nacelle/iosched.ring[nacelle/iosched.asked]).pop
instance : FunC Try.prog 68 := ⟨⟨_, _, Try.func68, by kernel_rfl, rfl⟩⟩  -- (*nacelle/disk.Disk).disarm
instance : FunC Try.prog 69 := ⟨⟨_, _, Try.func69, by kernel_rfl, rfl⟩⟩  -- (*nacelle/disk.Disk).has
instance : FunC Try.prog 70 := ⟨⟨_, _, Try.func70, by kernel_rfl, rfl⟩⟩  -- (nacelle/nacelleref05.Disk).laid
instance : FunC Try.prog 71 := ⟨⟨_, _, Try.func71, by kernel_rfl, rfl⟩⟩  -- slices.SortFunc[[]nacelle/extent.Extent,nacelle/extent.Extent]
instance : FunC Try.prog 72 := ⟨⟨_, _, Try.func72, by kernel_rfl, rfl⟩⟩  -- nacelle/extent.Apart$1
instance : FunC Try.prog 73 := ⟨⟨_, _, Try.func73, by kernel_rfl, rfl⟩⟩  -- cmp.Compare[int]
instance : FunC Try.prog 74 := ⟨⟨_, _, Try.func74, by kernel_rfl, rfl⟩⟩  -- nacelle/nacelleref06.Meet
instance : FunC Try.prog 75 := ⟨⟨_, _, Try.func75, by kernel_rfl, rfl⟩⟩  -- nacelle/extent.Place
instance : FunC Try.prog 76 := ⟨⟨_, _, Try.func76, by kernel_rfl, rfl⟩⟩  -- (*nacelle/disk.Disk).Flush
instance : FunC Try.prog 77 := ⟨⟨_, _, Try.func77, by kernel_rfl, rfl⟩⟩  -- (nacelle/nacelleref05.Disk).step
instance : FunC Try.prog 78 := ⟨⟨_, _, Try.func78, by kernel_rfl, rfl⟩⟩  -- (*nacelle/disk.Disk).powered
instance : FunC Try.prog 79 := ⟨⟨_, _, Try.func79, by kernel_rfl, rfl⟩⟩  -- nacelle/nacelleref05.with
instance : FunC Try.prog 80 := ⟨⟨_, _, Try.func80, by kernel_rfl, rfl⟩⟩  -- slices.pdqsortCmpFunc[nacelle/extent.Extent]
instance : FunC Try.prog 82 := ⟨⟨_, _, Try.func82, by kernel_rfl, rfl⟩⟩  -- cmp.isNaN[int]
instance : FunC Try.prog 83 := ⟨⟨_, _, Try.func83, by kernel_rfl, rfl⟩⟩  -- slices.insertionSortCmpFunc[nacelle/extent.Extent]
instance : FunC Try.prog 84 := ⟨⟨_, _, Try.func84, by kernel_rfl, rfl⟩⟩  -- slices.heapSortCmpFunc[nacelle/extent.Extent]
instance : FunC Try.prog 85 := ⟨⟨_, _, Try.func85, by kernel_rfl, rfl⟩⟩  -- slices.breakPatternsCmpFunc[nacelle/extent.Extent]
instance : FunC Try.prog 86 := ⟨⟨_, _, Try.func86, by kernel_rfl, rfl⟩⟩  -- slices.choosePivotCmpFunc[nacelle/extent.Extent]
instance : FunC Try.prog 87 := ⟨⟨_, _, Try.func87, by kernel_rfl, rfl⟩⟩  -- slices.reverseRangeCmpFunc[nacelle/extent.Extent]
instance : FunC Try.prog 88 := ⟨⟨_, _, Try.func88, by kernel_rfl, rfl⟩⟩  -- slices.partialInsertionSortCmpFunc[nacelle/extent.Extent]
instance : FunC Try.prog 89 := ⟨⟨_, _, Try.func89, by kernel_rfl, rfl⟩⟩  -- slices.partitionEqualCmpFunc[nacelle/extent.Extent]
instance : FunC Try.prog 90 := ⟨⟨_, _, Try.func90, by kernel_rfl, rfl⟩⟩  -- slices.partitionCmpFunc[nacelle/extent.Extent]
instance : FunC Try.prog 93 := ⟨⟨_, _, Try.func93, by kernel_rfl, rfl⟩⟩  -- slices.siftDownCmpFunc[nacelle/extent.Extent]
instance : FunC Try.prog 94 := ⟨⟨_, _, Try.func94, by kernel_rfl, rfl⟩⟩  -- slices.nextPowerOfTwo
instance : FunC Try.prog 96 := ⟨⟨_, _, Try.func96, by kernel_rfl, rfl⟩⟩  -- slices.medianAdjacentCmpFunc[nacelle/extent.Extent]
instance : FunC Try.prog 97 := ⟨⟨_, _, Try.func97, by kernel_rfl, rfl⟩⟩  -- slices.medianCmpFunc[nacelle/extent.Extent]
instance : FunC Try.prog 98 := ⟨⟨_, _, Try.func98, by kernel_rfl, rfl⟩⟩  -- slices.order2CmpFunc[nacelle/extent.Extent]
end Go.Proofs.Ytmcojfpomejnnaa

/- The types of the program, as instances; by types.py. -/
import Derived.Test.YteoopnhogfjeaaaRows
import Derived.Test.YteoopnhogfjeaaaEngK
set_option linter.unusedSimpArgs false
namespace Go.Proofs.Yteoopnhogfjeaaa
open Go Go.RowKit Go.Own
-- 1 func()
instance : OneC Try.prog 1 := ⟨⟨_, Try.underlying1, rfl⟩, by kernel_rfl⟩
instance : ZeroC Try.prog 1 ([.nilFunc]) := ⟨⟨.nilFunc, by kernel_rfl, by kernel_rfl⟩⟩
-- 2 int64
instance : OneC Try.prog 2 := ⟨⟨_, Try.underlying2, rfl⟩, by kernel_rfl⟩
instance : ZeroC Try.prog 2 ([.int .i64 0]) := ⟨⟨.int .i64 0, by kernel_rfl, by kernel_rfl⟩⟩
instance : IntC Try.prog 2 .i64 := ⟨Try.underlying2⟩
-- 3 int
instance : OneC Try.prog 3 := ⟨⟨_, Try.underlying3, rfl⟩, by kernel_rfl⟩
instance : ZeroC Try.prog 3 ([.int .i64 0]) := ⟨⟨.int .i64 0, by kernel_rfl, by kernel_rfl⟩⟩
instance : IntC Try.prog 3 .i64 := ⟨Try.underlying3⟩
-- 4 bool
instance : OneC Try.prog 4 := ⟨⟨_, Try.underlying4, rfl⟩, by kernel_rfl⟩
instance : ZeroC Try.prog 4 ([.bool false]) := ⟨⟨.bool false, by kernel_rfl, by kernel_rfl⟩⟩
instance : BoolC Try.prog 4 := ⟨Try.underlying4⟩
-- 5 uint8
instance : OneC Try.prog 5 := ⟨⟨_, Try.underlying5, rfl⟩, by kernel_rfl⟩
instance : ZeroC Try.prog 5 ([.int .u8 0]) := ⟨⟨.int .u8 0, by kernel_rfl, by kernel_rfl⟩⟩
instance : IntC Try.prog 5 .u8 := ⟨Try.underlying5⟩
-- 6 abi.BoundsErrorCode
instance : OneC Try.prog 6 := ⟨⟨_, Try.underlying6, rfl⟩, by kernel_rfl⟩
instance : ZeroC Try.prog 6 ([.int .u8 0]) := ⟨⟨.int .u8 0, by kernel_rfl, by kernel_rfl⟩⟩
instance : IntC Try.prog 6 .u8 := ⟨Try.underlying6⟩
-- 7 struct%20{%20x%20int64;%20y%20int;%20signed%20bool;%20code%20abi.BoundsErrorCode%20}
instance : RowC Try.prog 7 4 := ⟨⟨_, Try.underlying7, rfl⟩, by kernel_rfl⟩
instance : ZeroC Try.prog 7 ([.int .i64 0, .int .i64 0, .bool false, .int .u8 0]) := ⟨⟨.agg ([.int .i64 0, .int .i64 0, .bool false, .int .u8 0]).toArray, by kernel_rfl, by kernel_rfl⟩⟩
instance : FldC Try.prog 7 0 0 := ⟨⟨_, _, Try.underlying7, rfl, rfl, 0, by kernel_rfl⟩⟩
instance : FldV Try.prog 7 0 0 1 true := ⟨⟨_, _, _, Try.underlying7, rfl, rfl, by kernel_rfl, Try.underlying2, rfl⟩⟩
instance : FldC Try.prog 7 1 1 := ⟨⟨_, _, Try.underlying7, rfl, rfl, 0, by kernel_rfl⟩⟩
instance : FldV Try.prog 7 1 1 1 true := ⟨⟨_, _, _, Try.underlying7, rfl, rfl, by kernel_rfl, Try.underlying3, rfl⟩⟩
instance : FldC Try.prog 7 2 2 := ⟨⟨_, _, Try.underlying7, rfl, rfl, 0, by kernel_rfl⟩⟩
instance : FldV Try.prog 7 2 2 1 true := ⟨⟨_, _, _, Try.underlying7, rfl, rfl, by kernel_rfl, Try.underlying4, rfl⟩⟩
instance : FldC Try.prog 7 3 3 := ⟨⟨_, _, Try.underlying7, rfl, rfl, 0, by kernel_rfl⟩⟩
instance : FldV Try.prog 7 3 3 1 true := ⟨⟨_, _, _, Try.underlying7, rfl, rfl, by kernel_rfl, Try.underlying6, rfl⟩⟩
-- 9 string
instance : OneC Try.prog 9 := ⟨⟨_, Try.underlying9, rfl⟩, by kernel_rfl⟩
instance : ZeroC Try.prog 9 ([.string ⟨#[]⟩]) := ⟨⟨.string ⟨#[]⟩, by kernel_rfl, by kernel_rfl⟩⟩
instance : StrC Try.prog 9 := ⟨Try.underlying9⟩
-- 10 runtime.errorString
instance : OneC Try.prog 10 := ⟨⟨_, Try.underlying10, rfl⟩, by kernel_rfl⟩
instance : ZeroC Try.prog 10 ([.string ⟨#[]⟩]) := ⟨⟨.string ⟨#[]⟩, by kernel_rfl, by kernel_rfl⟩⟩
instance : StrC Try.prog 10 := ⟨Try.underlying10⟩
-- 11 runtime.plainError
instance : OneC Try.prog 11 := ⟨⟨_, Try.underlying11, rfl⟩, by kernel_rfl⟩
instance : ZeroC Try.prog 11 ([.string ⟨#[]⟩]) := ⟨⟨.string ⟨#[]⟩, by kernel_rfl, by kernel_rfl⟩⟩
instance : StrC Try.prog 11 := ⟨Try.underlying11⟩
-- 12 uintptr
instance : OneC Try.prog 12 := ⟨⟨_, Try.underlying12, rfl⟩, by kernel_rfl⟩
instance : ZeroC Try.prog 12 ([.int .u64 0]) := ⟨⟨.int .u64 0, by kernel_rfl, by kernel_rfl⟩⟩
instance : IntC Try.prog 12 .u64 := ⟨Try.underlying12⟩
-- 13 struct%20{%20msg%20string;%20addr%20uintptr%20}
instance : RowC Try.prog 13 2 := ⟨⟨_, Try.underlying13, rfl⟩, by kernel_rfl⟩
instance : ZeroC Try.prog 13 ([.string ⟨#[]⟩, .int .u64 0]) := ⟨⟨.agg ([.string ⟨#[]⟩, .int .u64 0]).toArray, by kernel_rfl, by kernel_rfl⟩⟩
instance : FldC Try.prog 13 0 0 := ⟨⟨_, _, Try.underlying13, rfl, rfl, 0, by kernel_rfl⟩⟩
instance : FldV Try.prog 13 0 0 1 true := ⟨⟨_, _, _, Try.underlying13, rfl, rfl, by kernel_rfl, Try.underlying9, rfl⟩⟩
instance : FldC Try.prog 13 1 1 := ⟨⟨_, _, Try.underlying13, rfl, rfl, 0, by kernel_rfl⟩⟩
instance : FldV Try.prog 13 1 1 1 true := ⟨⟨_, _, _, Try.underlying13, rfl, rfl, by kernel_rfl, Try.underlying12, rfl⟩⟩
-- 15 *runtime.TypeAssertionError
instance : OneC Try.prog 15 := ⟨⟨_, Try.underlying15, rfl⟩, by kernel_rfl⟩
instance : ZeroC Try.prog 15 ([.pointer none]) := ⟨⟨.pointer none, by kernel_rfl, by kernel_rfl⟩⟩
instance : PtrC Try.prog 15 171 := ⟨Try.underlying15⟩
-- 16 *runtime.PanicNilError
instance : OneC Try.prog 16 := ⟨⟨_, Try.underlying16, rfl⟩, by kernel_rfl⟩
instance : ZeroC Try.prog 16 ([.pointer none]) := ⟨⟨.pointer none, by kernel_rfl, by kernel_rfl⟩⟩
instance : PtrC Try.prog 16 174 := ⟨Try.underlying16⟩
-- 17 *abi.Type
instance : OneC Try.prog 17 := ⟨⟨_, Try.underlying17, rfl⟩, by kernel_rfl⟩
instance : ZeroC Try.prog 17 ([.pointer none]) := ⟨⟨.pointer none, by kernel_rfl, by kernel_rfl⟩⟩
instance : PtrC Try.prog 17 182 := ⟨Try.underlying17⟩
-- 18 struct%20{%20typ%20*abi.Type%20}
instance : RowC Try.prog 18 1 := ⟨⟨_, Try.underlying18, rfl⟩, by kernel_rfl⟩
instance : ZeroC Try.prog 18 ([.pointer none]) := ⟨⟨.agg ([.pointer none]).toArray, by kernel_rfl, by kernel_rfl⟩⟩
instance : FldC Try.prog 18 0 0 := ⟨⟨_, _, Try.underlying18, rfl, rfl, 0, by kernel_rfl⟩⟩
instance : FldV Try.prog 18 0 0 1 true := ⟨⟨_, _, _, Try.underlying18, rfl, rfl, by kernel_rfl, Try.underlying17, rfl⟩⟩
-- 20 interface%20{}
instance : OneC Try.prog 20 := ⟨⟨_, Try.underlying20, rfl⟩, by kernel_rfl⟩
instance : ZeroC Try.prog 20 ([.nilIface]) := ⟨⟨.nilIface, by kernel_rfl, by kernel_rfl⟩⟩
-- 21 int32
instance : OneC Try.prog 21 := ⟨⟨_, Try.underlying21, rfl⟩, by kernel_rfl⟩
instance : ZeroC Try.prog 21 ([.int .i32 0]) := ⟨⟨.int .i32 0, by kernel_rfl, by kernel_rfl⟩⟩
instance : IntC Try.prog 21 .i32 := ⟨Try.underlying21⟩
-- 22 *disk.Disk
instance : OneC Try.prog 22 := ⟨⟨_, Try.underlying22, rfl⟩, by kernel_rfl⟩
instance : ZeroC Try.prog 22 ([.pointer none]) := ⟨⟨.pointer none, by kernel_rfl, by kernel_rfl⟩⟩
instance : PtrC Try.prog 22 110 := ⟨Try.underlying22⟩
-- 23 api.Errno
instance : OneC Try.prog 23 := ⟨⟨_, Try.underlying23, rfl⟩, by kernel_rfl⟩
instance : ZeroC Try.prog 23 ([.int .i64 0]) := ⟨⟨.int .i64 0, by kernel_rfl, by kernel_rfl⟩⟩
instance : IntC Try.prog 23 .i64 := ⟨Try.underlying23⟩
-- 25 func(int)%20(*disk.Disk,%20api.Errno)
instance : OneC Try.prog 25 := ⟨⟨_, Try.underlying25, rfl⟩, by kernel_rfl⟩
instance : ZeroC Try.prog 25 ([.nilFunc]) := ⟨⟨.nilFunc, by kernel_rfl, by kernel_rfl⟩⟩
-- 26 func()%20bool
instance : OneC Try.prog 26 := ⟨⟨_, Try.underlying26, rfl⟩, by kernel_rfl⟩
instance : ZeroC Try.prog 26 ([.nilFunc]) := ⟨⟨.nilFunc, by kernel_rfl, by kernel_rfl⟩⟩
-- 27 []uint8
instance : OneC Try.prog 27 := ⟨⟨_, Try.underlying27, rfl⟩, by kernel_rfl⟩
instance : ZeroC Try.prog 27 ([.slice none 0 0]) := ⟨⟨.slice none 0 0, by kernel_rfl, by kernel_rfl⟩⟩
instance : ElC Try.prog 27 5 1 1 ([.int .u8 0]) := ⟨⟨.int .u8 0, elT Try.underlying27 (by kernel_rfl) (by kernel_rfl) (by decide), by kernel_rfl⟩⟩
instance : BytesC Try.prog 27 := ⟨⟨_, Try.underlying27, Try.underlying5, by kernel_rfl⟩⟩
-- 29 func(int)%20([]uint8,%20api.Errno)
instance : OneC Try.prog 29 := ⟨⟨_, Try.underlying29, rfl⟩, by kernel_rfl⟩
instance : ZeroC Try.prog 29 ([.nilFunc]) := ⟨⟨.nilFunc, by kernel_rfl, by kernel_rfl⟩⟩
-- 30 func()%20int
instance : OneC Try.prog 30 := ⟨⟨_, Try.underlying30, rfl⟩, by kernel_rfl⟩
instance : ZeroC Try.prog 30 ([.nilFunc]) := ⟨⟨.nilFunc, by kernel_rfl, by kernel_rfl⟩⟩
-- 31 func()%20[]uint8
instance : OneC Try.prog 31 := ⟨⟨_, Try.underlying31, rfl⟩, by kernel_rfl⟩
instance : ZeroC Try.prog 31 ([.nilFunc]) := ⟨⟨.nilFunc, by kernel_rfl, by kernel_rfl⟩⟩
-- 32 func()%20string
instance : OneC Try.prog 32 := ⟨⟨_, Try.underlying32, rfl⟩, by kernel_rfl⟩
instance : ZeroC Try.prog 32 ([.nilFunc]) := ⟨⟨.nilFunc, by kernel_rfl, by kernel_rfl⟩⟩
-- 33 func(int)%20bool
instance : OneC Try.prog 33 := ⟨⟨_, Try.underlying33, rfl⟩, by kernel_rfl⟩
instance : ZeroC Try.prog 33 ([.nilFunc]) := ⟨⟨.nilFunc, by kernel_rfl, by kernel_rfl⟩⟩
-- 34 []nacellelaw05.Act
instance : OneC Try.prog 34 := ⟨⟨_, Try.underlying34, rfl⟩, by kernel_rfl⟩
instance : ZeroC Try.prog 34 ([.slice none 0 0]) := ⟨⟨.slice none 0 0, by kernel_rfl, by kernel_rfl⟩⟩
instance : ElC Try.prog 34 38 5 56 ([.int .i64 0, .int .i64 0, .int .i64 0, .int .u8 0, .slice none 0 0]) := ⟨⟨.agg ([.int .i64 0, .int .i64 0, .int .i64 0, .int .u8 0, .slice none 0 0]).toArray, elT Try.underlying34 (by kernel_rfl) (by kernel_rfl) (by decide), by kernel_rfl⟩⟩
-- 35 []bool
instance : OneC Try.prog 35 := ⟨⟨_, Try.underlying35, rfl⟩, by kernel_rfl⟩
instance : ZeroC Try.prog 35 ([.slice none 0 0]) := ⟨⟨.slice none 0 0, by kernel_rfl, by kernel_rfl⟩⟩
instance : ElC Try.prog 35 4 1 1 ([.bool false]) := ⟨⟨.bool false, elT Try.underlying35 (by kernel_rfl) (by kernel_rfl) (by decide), by kernel_rfl⟩⟩
-- 36 func(int,%20[]bool)
instance : OneC Try.prog 36 := ⟨⟨_, Try.underlying36, rfl⟩, by kernel_rfl⟩
instance : ZeroC Try.prog 36 ([.nilFunc]) := ⟨⟨.nilFunc, by kernel_rfl, by kernel_rfl⟩⟩
-- 37 struct%20{%20Do%20int;%20At%20int;%20Off%20int;%20Fill%20uint8;%20Keep%20[]bool%20}
instance : RowC Try.prog 37 5 := ⟨⟨_, Try.underlying37, rfl⟩, by kernel_rfl⟩
instance : ZeroC Try.prog 37 ([.int .i64 0, .int .i64 0, .int .i64 0, .int .u8 0, .slice none 0 0]) := ⟨⟨.agg ([.int .i64 0, .int .i64 0, .int .i64 0, .int .u8 0, .slice none 0 0]).toArray, by kernel_rfl, by kernel_rfl⟩⟩
instance : FldC Try.prog 37 0 0 := ⟨⟨_, _, Try.underlying37, rfl, rfl, 0, by kernel_rfl⟩⟩
instance : FldV Try.prog 37 0 0 1 true := ⟨⟨_, _, _, Try.underlying37, rfl, rfl, by kernel_rfl, Try.underlying3, rfl⟩⟩
instance : FldC Try.prog 37 1 1 := ⟨⟨_, _, Try.underlying37, rfl, rfl, 0, by kernel_rfl⟩⟩
instance : FldV Try.prog 37 1 1 1 true := ⟨⟨_, _, _, Try.underlying37, rfl, rfl, by kernel_rfl, Try.underlying3, rfl⟩⟩
instance : FldC Try.prog 37 2 2 := ⟨⟨_, _, Try.underlying37, rfl, rfl, 0, by kernel_rfl⟩⟩
instance : FldV Try.prog 37 2 2 1 true := ⟨⟨_, _, _, Try.underlying37, rfl, rfl, by kernel_rfl, Try.underlying3, rfl⟩⟩
instance : FldC Try.prog 37 3 3 := ⟨⟨_, _, Try.underlying37, rfl, rfl, 0, by kernel_rfl⟩⟩
instance : FldV Try.prog 37 3 3 1 true := ⟨⟨_, _, _, Try.underlying37, rfl, rfl, by kernel_rfl, Try.underlying5, rfl⟩⟩
instance : FldC Try.prog 37 4 4 := ⟨⟨_, _, Try.underlying37, rfl, rfl, 0, by kernel_rfl⟩⟩
instance : FldV Try.prog 37 4 4 1 true := ⟨⟨_, _, _, Try.underlying37, rfl, rfl, by kernel_rfl, Try.underlying35, rfl⟩⟩
-- 38 nacellelaw05.Act
instance : RowC Try.prog 38 5 := ⟨⟨_, Try.underlying38, rfl⟩, by kernel_rfl⟩
instance : ZeroC Try.prog 38 ([.int .i64 0, .int .i64 0, .int .i64 0, .int .u8 0, .slice none 0 0]) := ⟨⟨.agg ([.int .i64 0, .int .i64 0, .int .i64 0, .int .u8 0, .slice none 0 0]).toArray, by kernel_rfl, by kernel_rfl⟩⟩
instance : FldC Try.prog 38 0 0 := ⟨⟨_, _, Try.underlying38, rfl, rfl, 0, by kernel_rfl⟩⟩
instance : FldV Try.prog 38 0 0 1 true := ⟨⟨_, _, _, Try.underlying38, rfl, rfl, by kernel_rfl, Try.underlying3, rfl⟩⟩
instance : FldC Try.prog 38 1 1 := ⟨⟨_, _, Try.underlying38, rfl, rfl, 0, by kernel_rfl⟩⟩
instance : FldV Try.prog 38 1 1 1 true := ⟨⟨_, _, _, Try.underlying38, rfl, rfl, by kernel_rfl, Try.underlying3, rfl⟩⟩
instance : FldC Try.prog 38 2 2 := ⟨⟨_, _, Try.underlying38, rfl, rfl, 0, by kernel_rfl⟩⟩
instance : FldV Try.prog 38 2 2 1 true := ⟨⟨_, _, _, Try.underlying38, rfl, rfl, by kernel_rfl, Try.underlying3, rfl⟩⟩
instance : FldC Try.prog 38 3 3 := ⟨⟨_, _, Try.underlying38, rfl, rfl, 0, by kernel_rfl⟩⟩
instance : FldV Try.prog 38 3 3 1 true := ⟨⟨_, _, _, Try.underlying38, rfl, rfl, by kernel_rfl, Try.underlying5, rfl⟩⟩
instance : FldC Try.prog 38 4 4 := ⟨⟨_, _, Try.underlying38, rfl, rfl, 0, by kernel_rfl⟩⟩
instance : FldV Try.prog 38 4 4 1 true := ⟨⟨_, _, _, Try.underlying38, rfl, rfl, by kernel_rfl, Try.underlying35, rfl⟩⟩
-- 39 func([]bool)
instance : OneC Try.prog 39 := ⟨⟨_, Try.underlying39, rfl⟩, by kernel_rfl⟩
instance : ZeroC Try.prog 39 ([.nilFunc]) := ⟨⟨.nilFunc, by kernel_rfl, by kernel_rfl⟩⟩
-- 40 func()%20api.Errno
instance : OneC Try.prog 40 := ⟨⟨_, Try.underlying40, rfl⟩, by kernel_rfl⟩
instance : ZeroC Try.prog 40 ([.nilFunc]) := ⟨⟨.nilFunc, by kernel_rfl, by kernel_rfl⟩⟩
-- 41 func(int,%20[]uint8)%20api.Errno
instance : OneC Try.prog 41 := ⟨⟨_, Try.underlying41, rfl⟩, by kernel_rfl⟩
instance : ZeroC Try.prog 41 ([.nilFunc]) := ⟨⟨.nilFunc, by kernel_rfl, by kernel_rfl⟩⟩
-- 42 func(uint8,%20int)%20[]uint8
instance : OneC Try.prog 42 := ⟨⟨_, Try.underlying42, rfl⟩, by kernel_rfl⟩
instance : ZeroC Try.prog 42 ([.nilFunc]) := ⟨⟨.nilFunc, by kernel_rfl, by kernel_rfl⟩⟩
-- 43 func([]nacellelaw05.Act,%20int,%20[]bool)%20bool
instance : OneC Try.prog 43 := ⟨⟨_, Try.underlying43, rfl⟩, by kernel_rfl⟩
instance : ZeroC Try.prog 43 ([.nilFunc]) := ⟨⟨.nilFunc, by kernel_rfl, by kernel_rfl⟩⟩
-- 44 func([]nacellelaw05.Act)%20*disk.Disk
instance : OneC Try.prog 44 := ⟨⟨_, Try.underlying44, rfl⟩, by kernel_rfl⟩
instance : ZeroC Try.prog 44 ([.nilFunc]) := ⟨⟨.nilFunc, by kernel_rfl, by kernel_rfl⟩⟩
-- 45 []int
instance : OneC Try.prog 45 := ⟨⟨_, Try.underlying45, rfl⟩, by kernel_rfl⟩
instance : ZeroC Try.prog 45 ([.slice none 0 0]) := ⟨⟨.slice none 0 0, by kernel_rfl, by kernel_rfl⟩⟩
instance : ElC Try.prog 45 3 1 8 ([.int .i64 0]) := ⟨⟨.int .i64 0, elT Try.underlying45 (by kernel_rfl) (by kernel_rfl) (by decide), by kernel_rfl⟩⟩
-- 46 func()%20[]int
instance : OneC Try.prog 46 := ⟨⟨_, Try.underlying46, rfl⟩, by kernel_rfl⟩
instance : ZeroC Try.prog 46 ([.nilFunc]) := ⟨⟨.nilFunc, by kernel_rfl, by kernel_rfl⟩⟩
-- 47 func([]nacellelaw05.Act,%20[]bool)%20bool
instance : OneC Try.prog 47 := ⟨⟨_, Try.underlying47, rfl⟩, by kernel_rfl⟩
instance : ZeroC Try.prog 47 ([.nilFunc]) := ⟨⟨.nilFunc, by kernel_rfl, by kernel_rfl⟩⟩
-- 48 []extent.Extent
instance : OneC Try.prog 48 := ⟨⟨_, Try.underlying48, rfl⟩, by kernel_rfl⟩
instance : ZeroC Try.prog 48 ([.slice none 0 0]) := ⟨⟨.slice none 0 0, by kernel_rfl, by kernel_rfl⟩⟩
instance : ElC Try.prog 48 51 2 16 ([.int .i64 0, .int .i64 0]) := ⟨⟨.agg ([.int .i64 0, .int .i64 0]).toArray, elT Try.underlying48 (by kernel_rfl) (by kernel_rfl) (by decide), by kernel_rfl⟩⟩
-- 49 [][2]int
instance : OneC Try.prog 49 := ⟨⟨_, Try.underlying49, rfl⟩, by kernel_rfl⟩
instance : ZeroC Try.prog 49 ([.slice none 0 0]) := ⟨⟨.slice none 0 0, by kernel_rfl, by kernel_rfl⟩⟩
instance : ElC Try.prog 49 52 2 16 ([.int .i64 0, .int .i64 0]) := ⟨⟨.agg ([.int .i64 0, .int .i64 0]).toArray, elT Try.underlying49 (by kernel_rfl) (by kernel_rfl) (by decide), by kernel_rfl⟩⟩
-- 50 struct%20{%20From%20int;%20Count%20int%20}
instance : RowC Try.prog 50 2 := ⟨⟨_, Try.underlying50, rfl⟩, by kernel_rfl⟩
instance : ZeroC Try.prog 50 ([.int .i64 0, .int .i64 0]) := ⟨⟨.agg ([.int .i64 0, .int .i64 0]).toArray, by kernel_rfl, by kernel_rfl⟩⟩
instance : FldC Try.prog 50 0 0 := ⟨⟨_, _, Try.underlying50, rfl, rfl, 0, by kernel_rfl⟩⟩
instance : FldV Try.prog 50 0 0 1 true := ⟨⟨_, _, _, Try.underlying50, rfl, rfl, by kernel_rfl, Try.underlying3, rfl⟩⟩
instance : FldC Try.prog 50 1 1 := ⟨⟨_, _, Try.underlying50, rfl, rfl, 0, by kernel_rfl⟩⟩
instance : FldV Try.prog 50 1 1 1 true := ⟨⟨_, _, _, Try.underlying50, rfl, rfl, by kernel_rfl, Try.underlying3, rfl⟩⟩
-- 51 extent.Extent
instance : RowC Try.prog 51 2 := ⟨⟨_, Try.underlying51, rfl⟩, by kernel_rfl⟩
instance : ZeroC Try.prog 51 ([.int .i64 0, .int .i64 0]) := ⟨⟨.agg ([.int .i64 0, .int .i64 0]).toArray, by kernel_rfl, by kernel_rfl⟩⟩
instance : FldC Try.prog 51 0 0 := ⟨⟨_, _, Try.underlying51, rfl, rfl, 0, by kernel_rfl⟩⟩
instance : FldV Try.prog 51 0 0 1 true := ⟨⟨_, _, _, Try.underlying51, rfl, rfl, by kernel_rfl, Try.underlying3, rfl⟩⟩
instance : FldC Try.prog 51 1 1 := ⟨⟨_, _, Try.underlying51, rfl, rfl, 0, by kernel_rfl⟩⟩
instance : FldV Try.prog 51 1 1 1 true := ⟨⟨_, _, _, Try.underlying51, rfl, rfl, by kernel_rfl, Try.underlying3, rfl⟩⟩
-- 52 [2]int
instance : RowC Try.prog 52 2 := ⟨⟨_, Try.underlying52, rfl⟩, by kernel_rfl⟩
instance : ZeroC Try.prog 52 ([.int .i64 0, .int .i64 0]) := ⟨⟨.agg ([.int .i64 0, .int .i64 0]).toArray, by kernel_rfl, by kernel_rfl⟩⟩
instance : ArrC Try.prog 52 2 1 true := ⟨⟨_, _, Try.underlying52, by kernel_rfl, Try.underlying3, rfl⟩⟩
-- 53 func([]extent.Extent)%20bool
instance : OneC Try.prog 53 := ⟨⟨_, Try.underlying53, rfl⟩, by kernel_rfl⟩
instance : ZeroC Try.prog 53 ([.nilFunc]) := ⟨⟨.nilFunc, by kernel_rfl, by kernel_rfl⟩⟩
-- 54 func([][2]int)%20bool
instance : OneC Try.prog 54 := ⟨⟨_, Try.underlying54, rfl⟩, by kernel_rfl⟩
instance : ZeroC Try.prog 54 ([.nilFunc]) := ⟨⟨.nilFunc, by kernel_rfl, by kernel_rfl⟩⟩
-- 55 []nacellelaw15.Act
instance : OneC Try.prog 55 := ⟨⟨_, Try.underlying55, rfl⟩, by kernel_rfl⟩
instance : ZeroC Try.prog 55 ([.slice none 0 0]) := ⟨⟨.slice none 0 0, by kernel_rfl, by kernel_rfl⟩⟩
instance : ElC Try.prog 55 63 8 72 ([.int .i64 0, .int .i64 0, .int .i64 0, .int .i64 0, .bool false, .int .u8 0, .int .i64 0, .slice none 0 0]) := ⟨⟨.agg ([.int .i64 0, .int .i64 0, .int .i64 0, .int .i64 0, .bool false, .int .u8 0, .int .i64 0, .slice none 0 0]).toArray, elT Try.underlying55 (by kernel_rfl) (by kernel_rfl) (by decide), by kernel_rfl⟩⟩
-- 56 *iosched.Schedule
instance : OneC Try.prog 56 := ⟨⟨_, Try.underlying56, rfl⟩, by kernel_rfl⟩
instance : ZeroC Try.prog 56 ([.pointer none]) := ⟨⟨.pointer none, by kernel_rfl, by kernel_rfl⟩⟩
instance : PtrC Try.prog 56 124 := ⟨Try.underlying56⟩
-- 58 func(*disk.Disk,%20[]extent.Extent,%20[]int,%20[]int)%20(*iosched.Schedule,%20api.Errno)
instance : OneC Try.prog 58 := ⟨⟨_, Try.underlying58, rfl⟩, by kernel_rfl⟩
instance : ZeroC Try.prog 58 ([.nilFunc]) := ⟨⟨.nilFunc, by kernel_rfl, by kernel_rfl⟩⟩
-- 59 [12][]uint8
instance : RowC Try.prog 59 12 := ⟨⟨_, Try.underlying59, rfl⟩, by kernel_rfl⟩
instance : ZeroC Try.prog 59 ([.slice none 0 0, .slice none 0 0, .slice none 0 0, .slice none 0 0, .slice none 0 0, .slice none 0 0, .slice none 0 0, .slice none 0 0, .slice none 0 0, .slice none 0 0, .slice none 0 0, .slice none 0 0]) := ⟨⟨.agg ([.slice none 0 0, .slice none 0 0, .slice none 0 0, .slice none 0 0, .slice none 0 0, .slice none 0 0, .slice none 0 0, .slice none 0 0, .slice none 0 0, .slice none 0 0, .slice none 0 0, .slice none 0 0]).toArray, by kernel_rfl, by kernel_rfl⟩⟩
instance : ArrC Try.prog 59 12 1 true := ⟨⟨_, _, Try.underlying59, by kernel_rfl, Try.underlying27, rfl⟩⟩
-- 60 [12]uint8
instance : RowC Try.prog 60 12 := ⟨⟨_, Try.underlying60, rfl⟩, by kernel_rfl⟩
instance : ZeroC Try.prog 60 ([.int .u8 0, .int .u8 0, .int .u8 0, .int .u8 0, .int .u8 0, .int .u8 0, .int .u8 0, .int .u8 0, .int .u8 0, .int .u8 0, .int .u8 0, .int .u8 0]) := ⟨⟨.agg ([.int .u8 0, .int .u8 0, .int .u8 0, .int .u8 0, .int .u8 0, .int .u8 0, .int .u8 0, .int .u8 0, .int .u8 0, .int .u8 0, .int .u8 0, .int .u8 0]).toArray, by kernel_rfl, by kernel_rfl⟩⟩
instance : ArrC Try.prog 60 12 1 true := ⟨⟨_, _, Try.underlying60, by kernel_rfl, Try.underlying5, rfl⟩⟩
-- 61 [2][]nacellelaw15.Act
instance : RowC Try.prog 61 2 := ⟨⟨_, Try.underlying61, rfl⟩, by kernel_rfl⟩
instance : ZeroC Try.prog 61 ([.slice none 0 0, .slice none 0 0]) := ⟨⟨.agg ([.slice none 0 0, .slice none 0 0]).toArray, by kernel_rfl, by kernel_rfl⟩⟩
instance : ArrC Try.prog 61 2 1 true := ⟨⟨_, _, Try.underlying61, by kernel_rfl, Try.underlying55, rfl⟩⟩
-- 62 struct%20{%20Do%20int;%20Part%20int;%20Kind%20int;%20At%20int;%20Data%20bool;%20Fill%20uint8;%20Off%20int;%20Keep%20[]bool%20}
instance : RowC Try.prog 62 8 := ⟨⟨_, Try.underlying62, rfl⟩, by kernel_rfl⟩
instance : ZeroC Try.prog 62 ([.int .i64 0, .int .i64 0, .int .i64 0, .int .i64 0, .bool false, .int .u8 0, .int .i64 0, .slice none 0 0]) := ⟨⟨.agg ([.int .i64 0, .int .i64 0, .int .i64 0, .int .i64 0, .bool false, .int .u8 0, .int .i64 0, .slice none 0 0]).toArray, by kernel_rfl, by kernel_rfl⟩⟩
instance : FldC Try.prog 62 0 0 := ⟨⟨_, _, Try.underlying62, rfl, rfl, 0, by kernel_rfl⟩⟩
instance : FldV Try.prog 62 0 0 1 true := ⟨⟨_, _, _, Try.underlying62, rfl, rfl, by kernel_rfl, Try.underlying3, rfl⟩⟩
instance : FldC Try.prog 62 1 1 := ⟨⟨_, _, Try.underlying62, rfl, rfl, 0, by kernel_rfl⟩⟩
instance : FldV Try.prog 62 1 1 1 true := ⟨⟨_, _, _, Try.underlying62, rfl, rfl, by kernel_rfl, Try.underlying3, rfl⟩⟩
instance : FldC Try.prog 62 2 2 := ⟨⟨_, _, Try.underlying62, rfl, rfl, 0, by kernel_rfl⟩⟩
instance : FldV Try.prog 62 2 2 1 true := ⟨⟨_, _, _, Try.underlying62, rfl, rfl, by kernel_rfl, Try.underlying3, rfl⟩⟩
instance : FldC Try.prog 62 3 3 := ⟨⟨_, _, Try.underlying62, rfl, rfl, 0, by kernel_rfl⟩⟩
instance : FldV Try.prog 62 3 3 1 true := ⟨⟨_, _, _, Try.underlying62, rfl, rfl, by kernel_rfl, Try.underlying3, rfl⟩⟩
instance : FldC Try.prog 62 4 4 := ⟨⟨_, _, Try.underlying62, rfl, rfl, 0, by kernel_rfl⟩⟩
instance : FldV Try.prog 62 4 4 1 true := ⟨⟨_, _, _, Try.underlying62, rfl, rfl, by kernel_rfl, Try.underlying4, rfl⟩⟩
instance : FldC Try.prog 62 5 5 := ⟨⟨_, _, Try.underlying62, rfl, rfl, 0, by kernel_rfl⟩⟩
instance : FldV Try.prog 62 5 5 1 true := ⟨⟨_, _, _, Try.underlying62, rfl, rfl, by kernel_rfl, Try.underlying5, rfl⟩⟩
instance : FldC Try.prog 62 6 6 := ⟨⟨_, _, Try.underlying62, rfl, rfl, 0, by kernel_rfl⟩⟩
instance : FldV Try.prog 62 6 6 1 true := ⟨⟨_, _, _, Try.underlying62, rfl, rfl, by kernel_rfl, Try.underlying3, rfl⟩⟩
instance : FldC Try.prog 62 7 7 := ⟨⟨_, _, Try.underlying62, rfl, rfl, 0, by kernel_rfl⟩⟩
instance : FldV Try.prog 62 7 7 1 true := ⟨⟨_, _, _, Try.underlying62, rfl, rfl, by kernel_rfl, Try.underlying35, rfl⟩⟩
-- 63 nacellelaw15.Act
instance : RowC Try.prog 63 8 := ⟨⟨_, Try.underlying63, rfl⟩, by kernel_rfl⟩
instance : ZeroC Try.prog 63 ([.int .i64 0, .int .i64 0, .int .i64 0, .int .i64 0, .bool false, .int .u8 0, .int .i64 0, .slice none 0 0]) := ⟨⟨.agg ([.int .i64 0, .int .i64 0, .int .i64 0, .int .i64 0, .bool false, .int .u8 0, .int .i64 0, .slice none 0 0]).toArray, by kernel_rfl, by kernel_rfl⟩⟩
instance : FldC Try.prog 63 0 0 := ⟨⟨_, _, Try.underlying63, rfl, rfl, 0, by kernel_rfl⟩⟩
instance : FldV Try.prog 63 0 0 1 true := ⟨⟨_, _, _, Try.underlying63, rfl, rfl, by kernel_rfl, Try.underlying3, rfl⟩⟩
instance : FldC Try.prog 63 1 1 := ⟨⟨_, _, Try.underlying63, rfl, rfl, 0, by kernel_rfl⟩⟩
instance : FldV Try.prog 63 1 1 1 true := ⟨⟨_, _, _, Try.underlying63, rfl, rfl, by kernel_rfl, Try.underlying3, rfl⟩⟩
instance : FldC Try.prog 63 2 2 := ⟨⟨_, _, Try.underlying63, rfl, rfl, 0, by kernel_rfl⟩⟩
instance : FldV Try.prog 63 2 2 1 true := ⟨⟨_, _, _, Try.underlying63, rfl, rfl, by kernel_rfl, Try.underlying3, rfl⟩⟩
instance : FldC Try.prog 63 3 3 := ⟨⟨_, _, Try.underlying63, rfl, rfl, 0, by kernel_rfl⟩⟩
instance : FldV Try.prog 63 3 3 1 true := ⟨⟨_, _, _, Try.underlying63, rfl, rfl, by kernel_rfl, Try.underlying3, rfl⟩⟩
instance : FldC Try.prog 63 4 4 := ⟨⟨_, _, Try.underlying63, rfl, rfl, 0, by kernel_rfl⟩⟩
instance : FldV Try.prog 63 4 4 1 true := ⟨⟨_, _, _, Try.underlying63, rfl, rfl, by kernel_rfl, Try.underlying4, rfl⟩⟩
instance : FldC Try.prog 63 5 5 := ⟨⟨_, _, Try.underlying63, rfl, rfl, 0, by kernel_rfl⟩⟩
instance : FldV Try.prog 63 5 5 1 true := ⟨⟨_, _, _, Try.underlying63, rfl, rfl, by kernel_rfl, Try.underlying5, rfl⟩⟩
instance : FldC Try.prog 63 6 6 := ⟨⟨_, _, Try.underlying63, rfl, rfl, 0, by kernel_rfl⟩⟩
instance : FldV Try.prog 63 6 6 1 true := ⟨⟨_, _, _, Try.underlying63, rfl, rfl, by kernel_rfl, Try.underlying3, rfl⟩⟩
instance : FldC Try.prog 63 7 7 := ⟨⟨_, _, Try.underlying63, rfl, rfl, 0, by kernel_rfl⟩⟩
instance : FldV Try.prog 63 7 7 1 true := ⟨⟨_, _, _, Try.underlying63, rfl, rfl, by kernel_rfl, Try.underlying35, rfl⟩⟩
-- 64 uint64
instance : OneC Try.prog 64 := ⟨⟨_, Try.underlying64, rfl⟩, by kernel_rfl⟩
instance : ZeroC Try.prog 64 ([.int .u64 0]) := ⟨⟨.int .u64 0, by kernel_rfl, by kernel_rfl⟩⟩
instance : IntC Try.prog 64 .u64 := ⟨Try.underlying64⟩
-- 66 func(int,%20api.Request)%20(uint64,%20api.Errno)
instance : OneC Try.prog 66 := ⟨⟨_, Try.underlying66, rfl⟩, by kernel_rfl⟩
instance : ZeroC Try.prog 66 ([.nilFunc]) := ⟨⟨.nilFunc, by kernel_rfl, by kernel_rfl⟩⟩
-- 67 struct%20{%20Kind%20int;%20At%20int;%20Data%20[]uint8%20}
instance : RowC Try.prog 67 3 := ⟨⟨_, Try.underlying67, rfl⟩, by kernel_rfl⟩
instance : ZeroC Try.prog 67 ([.int .i64 0, .int .i64 0, .slice none 0 0]) := ⟨⟨.agg ([.int .i64 0, .int .i64 0, .slice none 0 0]).toArray, by kernel_rfl, by kernel_rfl⟩⟩
instance : FldC Try.prog 67 0 0 := ⟨⟨_, _, Try.underlying67, rfl, rfl, 0, by kernel_rfl⟩⟩
instance : FldV Try.prog 67 0 0 1 true := ⟨⟨_, _, _, Try.underlying67, rfl, rfl, by kernel_rfl, Try.underlying3, rfl⟩⟩
instance : FldC Try.prog 67 1 1 := ⟨⟨_, _, Try.underlying67, rfl, rfl, 0, by kernel_rfl⟩⟩
instance : FldV Try.prog 67 1 1 1 true := ⟨⟨_, _, _, Try.underlying67, rfl, rfl, by kernel_rfl, Try.underlying3, rfl⟩⟩
instance : FldC Try.prog 67 2 2 := ⟨⟨_, _, Try.underlying67, rfl, rfl, 0, by kernel_rfl⟩⟩
instance : FldV Try.prog 67 2 2 1 true := ⟨⟨_, _, _, Try.underlying67, rfl, rfl, by kernel_rfl, Try.underlying27, rfl⟩⟩
-- 69 func(nacellelaw15.Act)%20api.Request
instance : OneC Try.prog 69 := ⟨⟨_, Try.underlying69, rfl⟩, by kernel_rfl⟩
instance : ZeroC Try.prog 69 ([.nilFunc]) := ⟨⟨.nilFunc, by kernel_rfl, by kernel_rfl⟩⟩
-- 70 struct%20{%20Part%20int;%20N%20uint64;%20Data%20[]uint8;%20Code%20api.Errno%20}
instance : RowC Try.prog 70 4 := ⟨⟨_, Try.underlying70, rfl⟩, by kernel_rfl⟩
instance : ZeroC Try.prog 70 ([.int .i64 0, .int .u64 0, .slice none 0 0, .int .i64 0]) := ⟨⟨.agg ([.int .i64 0, .int .u64 0, .slice none 0 0, .int .i64 0]).toArray, by kernel_rfl, by kernel_rfl⟩⟩
instance : FldC Try.prog 70 0 0 := ⟨⟨_, _, Try.underlying70, rfl, rfl, 0, by kernel_rfl⟩⟩
instance : FldV Try.prog 70 0 0 1 true := ⟨⟨_, _, _, Try.underlying70, rfl, rfl, by kernel_rfl, Try.underlying3, rfl⟩⟩
instance : FldC Try.prog 70 1 1 := ⟨⟨_, _, Try.underlying70, rfl, rfl, 0, by kernel_rfl⟩⟩
instance : FldV Try.prog 70 1 1 1 true := ⟨⟨_, _, _, Try.underlying70, rfl, rfl, by kernel_rfl, Try.underlying64, rfl⟩⟩
instance : FldC Try.prog 70 2 2 := ⟨⟨_, _, Try.underlying70, rfl, rfl, 0, by kernel_rfl⟩⟩
instance : FldV Try.prog 70 2 2 1 true := ⟨⟨_, _, _, Try.underlying70, rfl, rfl, by kernel_rfl, Try.underlying27, rfl⟩⟩
instance : FldC Try.prog 70 3 3 := ⟨⟨_, _, Try.underlying70, rfl, rfl, 0, by kernel_rfl⟩⟩
instance : FldV Try.prog 70 3 3 1 true := ⟨⟨_, _, _, Try.underlying70, rfl, rfl, by kernel_rfl, Try.underlying23, rfl⟩⟩
-- 73 func()%20(api.Done,%20bool)
instance : OneC Try.prog 73 := ⟨⟨_, Try.underlying73, rfl⟩, by kernel_rfl⟩
instance : ZeroC Try.prog 73 ([.nilFunc]) := ⟨⟨.nilFunc, by kernel_rfl, by kernel_rfl⟩⟩
-- 74 func([]int,%20[]nacellelaw15.Act,%20[]bool)%20bool
instance : OneC Try.prog 74 := ⟨⟨_, Try.underlying74, rfl⟩, by kernel_rfl⟩
instance : ZeroC Try.prog 74 ([.nilFunc]) := ⟨⟨.nilFunc, by kernel_rfl, by kernel_rfl⟩⟩
-- 75 struct%20{%20X%20extent.Extent;%20Y%20extent.Extent;%20A%20int;%20B%20int;%20Sectors%20int%20}
instance : RowC Try.prog 75 7 := ⟨⟨_, Try.underlying75, rfl⟩, by kernel_rfl⟩
instance : ZeroC Try.prog 75 ([.int .i64 0, .int .i64 0, .int .i64 0, .int .i64 0, .int .i64 0, .int .i64 0, .int .i64 0]) := ⟨⟨.agg ([.int .i64 0, .int .i64 0, .int .i64 0, .int .i64 0, .int .i64 0, .int .i64 0, .int .i64 0]).toArray, by kernel_rfl, by kernel_rfl⟩⟩
instance : FldC Try.prog 75 0 0 := ⟨⟨_, _, Try.underlying75, rfl, rfl, 1, by kernel_rfl⟩⟩
instance : FldV Try.prog 75 0 0 2 false := ⟨⟨_, _, _, Try.underlying75, rfl, rfl, by kernel_rfl, Try.underlying51, rfl⟩⟩
instance : FldC Try.prog 75 1 2 := ⟨⟨_, _, Try.underlying75, rfl, rfl, 1, by kernel_rfl⟩⟩
instance : FldV Try.prog 75 1 2 2 false := ⟨⟨_, _, _, Try.underlying75, rfl, rfl, by kernel_rfl, Try.underlying51, rfl⟩⟩
instance : FldC Try.prog 75 2 4 := ⟨⟨_, _, Try.underlying75, rfl, rfl, 0, by kernel_rfl⟩⟩
instance : FldV Try.prog 75 2 4 1 true := ⟨⟨_, _, _, Try.underlying75, rfl, rfl, by kernel_rfl, Try.underlying3, rfl⟩⟩
instance : FldC Try.prog 75 3 5 := ⟨⟨_, _, Try.underlying75, rfl, rfl, 0, by kernel_rfl⟩⟩
instance : FldV Try.prog 75 3 5 1 true := ⟨⟨_, _, _, Try.underlying75, rfl, rfl, by kernel_rfl, Try.underlying3, rfl⟩⟩
instance : FldC Try.prog 75 4 6 := ⟨⟨_, _, Try.underlying75, rfl, rfl, 0, by kernel_rfl⟩⟩
instance : FldV Try.prog 75 4 6 1 true := ⟨⟨_, _, _, Try.underlying75, rfl, rfl, by kernel_rfl, Try.underlying3, rfl⟩⟩
-- 76 nacellelaw06.Places
instance : RowC Try.prog 76 7 := ⟨⟨_, Try.underlying76, rfl⟩, by kernel_rfl⟩
instance : ZeroC Try.prog 76 ([.int .i64 0, .int .i64 0, .int .i64 0, .int .i64 0, .int .i64 0, .int .i64 0, .int .i64 0]) := ⟨⟨.agg ([.int .i64 0, .int .i64 0, .int .i64 0, .int .i64 0, .int .i64 0, .int .i64 0, .int .i64 0]).toArray, by kernel_rfl, by kernel_rfl⟩⟩
instance : FldC Try.prog 76 0 0 := ⟨⟨_, _, Try.underlying76, rfl, rfl, 1, by kernel_rfl⟩⟩
instance : FldV Try.prog 76 0 0 2 false := ⟨⟨_, _, _, Try.underlying76, rfl, rfl, by kernel_rfl, Try.underlying51, rfl⟩⟩
instance : FldC Try.prog 76 1 2 := ⟨⟨_, _, Try.underlying76, rfl, rfl, 1, by kernel_rfl⟩⟩
instance : FldV Try.prog 76 1 2 2 false := ⟨⟨_, _, _, Try.underlying76, rfl, rfl, by kernel_rfl, Try.underlying51, rfl⟩⟩
instance : FldC Try.prog 76 2 4 := ⟨⟨_, _, Try.underlying76, rfl, rfl, 0, by kernel_rfl⟩⟩
instance : FldV Try.prog 76 2 4 1 true := ⟨⟨_, _, _, Try.underlying76, rfl, rfl, by kernel_rfl, Try.underlying3, rfl⟩⟩
instance : FldC Try.prog 76 3 5 := ⟨⟨_, _, Try.underlying76, rfl, rfl, 0, by kernel_rfl⟩⟩
instance : FldV Try.prog 76 3 5 1 true := ⟨⟨_, _, _, Try.underlying76, rfl, rfl, by kernel_rfl, Try.underlying3, rfl⟩⟩
instance : FldC Try.prog 76 4 6 := ⟨⟨_, _, Try.underlying76, rfl, rfl, 0, by kernel_rfl⟩⟩
instance : FldV Try.prog 76 4 6 1 true := ⟨⟨_, _, _, Try.underlying76, rfl, rfl, by kernel_rfl, Try.underlying3, rfl⟩⟩
-- 78 func(extent.Extent,%20int)%20(int,%20api.Errno)
instance : OneC Try.prog 78 := ⟨⟨_, Try.underlying78, rfl⟩, by kernel_rfl⟩
instance : ZeroC Try.prog 78 ([.nilFunc]) := ⟨⟨.nilFunc, by kernel_rfl, by kernel_rfl⟩⟩
-- 79 func(extent.Extent,%20int)%20bool
instance : OneC Try.prog 79 := ⟨⟨_, Try.underlying79, rfl⟩, by kernel_rfl⟩
instance : ZeroC Try.prog 79 ([.nilFunc]) := ⟨⟨.nilFunc, by kernel_rfl, by kernel_rfl⟩⟩
-- 80 func(nacellelaw06.Places)%20bool
instance : OneC Try.prog 80 := ⟨⟨_, Try.underlying80, rfl⟩, by kernel_rfl⟩
instance : ZeroC Try.prog 80 ([.nilFunc]) := ⟨⟨.nilFunc, by kernel_rfl, by kernel_rfl⟩⟩
-- 81 []nacellelaw06.Act
instance : OneC Try.prog 81 := ⟨⟨_, Try.underlying81, rfl⟩, by kernel_rfl⟩
instance : ZeroC Try.prog 81 ([.slice none 0 0]) := ⟨⟨.slice none 0 0, by kernel_rfl, by kernel_rfl⟩⟩
instance : ElC Try.prog 81 86 5 56 ([.int .i64 0, .int .i64 0, .int .i64 0, .int .u8 0, .slice none 0 0]) := ⟨⟨.agg ([.int .i64 0, .int .i64 0, .int .i64 0, .int .u8 0, .slice none 0 0]).toArray, elT Try.underlying81 (by kernel_rfl) (by kernel_rfl) (by decide), by kernel_rfl⟩⟩
-- 82 *extent.Part
instance : OneC Try.prog 82 := ⟨⟨_, Try.underlying82, rfl⟩, by kernel_rfl⟩
instance : ZeroC Try.prog 82 ([.pointer none]) := ⟨⟨.pointer none, by kernel_rfl, by kernel_rfl⟩⟩
instance : PtrC Try.prog 82 138 := ⟨Try.underlying82⟩
-- 84 func(*disk.Disk,%20extent.Extent)%20(*extent.Part,%20api.Errno)
instance : OneC Try.prog 84 := ⟨⟨_, Try.underlying84, rfl⟩, by kernel_rfl⟩
instance : ZeroC Try.prog 84 ([.nilFunc]) := ⟨⟨.nilFunc, by kernel_rfl, by kernel_rfl⟩⟩
-- 85 [9]uint8
instance : RowC Try.prog 85 9 := ⟨⟨_, Try.underlying85, rfl⟩, by kernel_rfl⟩
instance : ZeroC Try.prog 85 ([.int .u8 0, .int .u8 0, .int .u8 0, .int .u8 0, .int .u8 0, .int .u8 0, .int .u8 0, .int .u8 0, .int .u8 0]) := ⟨⟨.agg ([.int .u8 0, .int .u8 0, .int .u8 0, .int .u8 0, .int .u8 0, .int .u8 0, .int .u8 0, .int .u8 0, .int .u8 0]).toArray, by kernel_rfl, by kernel_rfl⟩⟩
instance : ArrC Try.prog 85 9 1 true := ⟨⟨_, _, Try.underlying85, by kernel_rfl, Try.underlying5, rfl⟩⟩
-- 86 nacellelaw06.Act
instance : RowC Try.prog 86 5 := ⟨⟨_, Try.underlying86, rfl⟩, by kernel_rfl⟩
instance : ZeroC Try.prog 86 ([.int .i64 0, .int .i64 0, .int .i64 0, .int .u8 0, .slice none 0 0]) := ⟨⟨.agg ([.int .i64 0, .int .i64 0, .int .i64 0, .int .u8 0, .slice none 0 0]).toArray, by kernel_rfl, by kernel_rfl⟩⟩
instance : FldC Try.prog 86 0 0 := ⟨⟨_, _, Try.underlying86, rfl, rfl, 0, by kernel_rfl⟩⟩
instance : FldV Try.prog 86 0 0 1 true := ⟨⟨_, _, _, Try.underlying86, rfl, rfl, by kernel_rfl, Try.underlying3, rfl⟩⟩
instance : FldC Try.prog 86 1 1 := ⟨⟨_, _, Try.underlying86, rfl, rfl, 0, by kernel_rfl⟩⟩
instance : FldV Try.prog 86 1 1 1 true := ⟨⟨_, _, _, Try.underlying86, rfl, rfl, by kernel_rfl, Try.underlying3, rfl⟩⟩
instance : FldC Try.prog 86 2 2 := ⟨⟨_, _, Try.underlying86, rfl, rfl, 0, by kernel_rfl⟩⟩
instance : FldV Try.prog 86 2 2 1 true := ⟨⟨_, _, _, Try.underlying86, rfl, rfl, by kernel_rfl, Try.underlying3, rfl⟩⟩
instance : FldC Try.prog 86 3 3 := ⟨⟨_, _, Try.underlying86, rfl, rfl, 0, by kernel_rfl⟩⟩
instance : FldV Try.prog 86 3 3 1 true := ⟨⟨_, _, _, Try.underlying86, rfl, rfl, by kernel_rfl, Try.underlying5, rfl⟩⟩
instance : FldC Try.prog 86 4 4 := ⟨⟨_, _, Try.underlying86, rfl, rfl, 0, by kernel_rfl⟩⟩
instance : FldV Try.prog 86 4 4 1 true := ⟨⟨_, _, _, Try.underlying86, rfl, rfl, by kernel_rfl, Try.underlying35, rfl⟩⟩
-- 87 func(int,%20[]nacellelaw06.Act)%20bool
instance : OneC Try.prog 87 := ⟨⟨_, Try.underlying87, rfl⟩, by kernel_rfl⟩
instance : ZeroC Try.prog 87 ([.nilFunc]) := ⟨⟨.nilFunc, by kernel_rfl, by kernel_rfl⟩⟩
-- 88 func(extent.Extent)%20(*extent.Part,%20api.Errno)
instance : OneC Try.prog 88 := ⟨⟨_, Try.underlying88, rfl⟩, by kernel_rfl⟩
instance : ZeroC Try.prog 88 ([.nilFunc]) := ⟨⟨.nilFunc, by kernel_rfl, by kernel_rfl⟩⟩
-- 89 func(extent.Extent,%20extent.Extent,%20uint8)%20bool
instance : OneC Try.prog 89 := ⟨⟨_, Try.underlying89, rfl⟩, by kernel_rfl⟩
instance : ZeroC Try.prog 89 ([.nilFunc]) := ⟨⟨.nilFunc, by kernel_rfl, by kernel_rfl⟩⟩
-- 90 []string
instance : OneC Try.prog 90 := ⟨⟨_, Try.underlying90, rfl⟩, by kernel_rfl⟩
instance : ZeroC Try.prog 90 ([.slice none 0 0]) := ⟨⟨.slice none 0 0, by kernel_rfl, by kernel_rfl⟩⟩
instance : ElC Try.prog 90 9 1 16 ([.string ⟨#[]⟩]) := ⟨⟨.string ⟨#[]⟩, elT Try.underlying90 (by kernel_rfl) (by kernel_rfl) (by decide), by kernel_rfl⟩⟩
-- 91 []nacelleref05.Write
instance : OneC Try.prog 91 := ⟨⟨_, Try.underlying91, rfl⟩, by kernel_rfl⟩
instance : ZeroC Try.prog 91 ([.slice none 0 0]) := ⟨⟨.slice none 0 0, by kernel_rfl, by kernel_rfl⟩⟩
instance : ElC Try.prog 91 141 2 24 ([.int .i64 0, .string ⟨#[]⟩]) := ⟨⟨.agg ([.int .i64 0, .string ⟨#[]⟩]).toArray, elT Try.underlying91 (by kernel_rfl) (by kernel_rfl) (by decide), by kernel_rfl⟩⟩
-- 92 struct%20{%20Has%20[]string;%20Waits%20[]nacelleref05.Write;%20Off%20bool;%20Left%20int;%20Survivors%20[]bool%20}
instance : RowC Try.prog 92 5 := ⟨⟨_, Try.underlying92, rfl⟩, by kernel_rfl⟩
instance : ZeroC Try.prog 92 ([.slice none 0 0, .slice none 0 0, .bool false, .int .i64 0, .slice none 0 0]) := ⟨⟨.agg ([.slice none 0 0, .slice none 0 0, .bool false, .int .i64 0, .slice none 0 0]).toArray, by kernel_rfl, by kernel_rfl⟩⟩
instance : FldC Try.prog 92 0 0 := ⟨⟨_, _, Try.underlying92, rfl, rfl, 0, by kernel_rfl⟩⟩
instance : FldV Try.prog 92 0 0 1 true := ⟨⟨_, _, _, Try.underlying92, rfl, rfl, by kernel_rfl, Try.underlying90, rfl⟩⟩
instance : FldC Try.prog 92 1 1 := ⟨⟨_, _, Try.underlying92, rfl, rfl, 0, by kernel_rfl⟩⟩
instance : FldV Try.prog 92 1 1 1 true := ⟨⟨_, _, _, Try.underlying92, rfl, rfl, by kernel_rfl, Try.underlying91, rfl⟩⟩
instance : FldC Try.prog 92 2 2 := ⟨⟨_, _, Try.underlying92, rfl, rfl, 0, by kernel_rfl⟩⟩
instance : FldV Try.prog 92 2 2 1 true := ⟨⟨_, _, _, Try.underlying92, rfl, rfl, by kernel_rfl, Try.underlying4, rfl⟩⟩
instance : FldC Try.prog 92 3 3 := ⟨⟨_, _, Try.underlying92, rfl, rfl, 0, by kernel_rfl⟩⟩
instance : FldV Try.prog 92 3 3 1 true := ⟨⟨_, _, _, Try.underlying92, rfl, rfl, by kernel_rfl, Try.underlying3, rfl⟩⟩
instance : FldC Try.prog 92 4 4 := ⟨⟨_, _, Try.underlying92, rfl, rfl, 0, by kernel_rfl⟩⟩
instance : FldV Try.prog 92 4 4 1 true := ⟨⟨_, _, _, Try.underlying92, rfl, rfl, by kernel_rfl, Try.underlying35, rfl⟩⟩
-- 93 nacelleref05.Disk
instance : RowC Try.prog 93 5 := ⟨⟨_, Try.underlying93, rfl⟩, by kernel_rfl⟩
instance : ZeroC Try.prog 93 ([.slice none 0 0, .slice none 0 0, .bool false, .int .i64 0, .slice none 0 0]) := ⟨⟨.agg ([.slice none 0 0, .slice none 0 0, .bool false, .int .i64 0, .slice none 0 0]).toArray, by kernel_rfl, by kernel_rfl⟩⟩
instance : FldC Try.prog 93 0 0 := ⟨⟨_, _, Try.underlying93, rfl, rfl, 0, by kernel_rfl⟩⟩
instance : FldV Try.prog 93 0 0 1 true := ⟨⟨_, _, _, Try.underlying93, rfl, rfl, by kernel_rfl, Try.underlying90, rfl⟩⟩
instance : FldC Try.prog 93 1 1 := ⟨⟨_, _, Try.underlying93, rfl, rfl, 0, by kernel_rfl⟩⟩
instance : FldV Try.prog 93 1 1 1 true := ⟨⟨_, _, _, Try.underlying93, rfl, rfl, by kernel_rfl, Try.underlying91, rfl⟩⟩
instance : FldC Try.prog 93 2 2 := ⟨⟨_, _, Try.underlying93, rfl, rfl, 0, by kernel_rfl⟩⟩
instance : FldV Try.prog 93 2 2 1 true := ⟨⟨_, _, _, Try.underlying93, rfl, rfl, by kernel_rfl, Try.underlying4, rfl⟩⟩
instance : FldC Try.prog 93 3 3 := ⟨⟨_, _, Try.underlying93, rfl, rfl, 0, by kernel_rfl⟩⟩
instance : FldV Try.prog 93 3 3 1 true := ⟨⟨_, _, _, Try.underlying93, rfl, rfl, by kernel_rfl, Try.underlying3, rfl⟩⟩
instance : FldC Try.prog 93 4 4 := ⟨⟨_, _, Try.underlying93, rfl, rfl, 0, by kernel_rfl⟩⟩
instance : FldV Try.prog 93 4 4 1 true := ⟨⟨_, _, _, Try.underlying93, rfl, rfl, by kernel_rfl, Try.underlying35, rfl⟩⟩
-- 95 func(int)%20(nacelleref05.Disk,%20bool)
instance : OneC Try.prog 95 := ⟨⟨_, Try.underlying95, rfl⟩, by kernel_rfl⟩
instance : ZeroC Try.prog 95 ([.nilFunc]) := ⟨⟨.nilFunc, by kernel_rfl, by kernel_rfl⟩⟩
-- 96 func(int,%20int,%20int)%20bool
instance : OneC Try.prog 96 := ⟨⟨_, Try.underlying96, rfl⟩, by kernel_rfl⟩
instance : ZeroC Try.prog 96 ([.nilFunc]) := ⟨⟨.nilFunc, by kernel_rfl, by kernel_rfl⟩⟩
-- 98 func(int,%20int,%20int)%20(int,%20bool)
instance : OneC Try.prog 98 := ⟨⟨_, Try.underlying98, rfl⟩, by kernel_rfl⟩
instance : ZeroC Try.prog 98 ([.nilFunc]) := ⟨⟨.nilFunc, by kernel_rfl, by kernel_rfl⟩⟩
-- 100 func(int,%20string)%20(nacelleref05.Disk,%20int)
instance : OneC Try.prog 100 := ⟨⟨_, Try.underlying100, rfl⟩, by kernel_rfl⟩
instance : ZeroC Try.prog 100 ([.nilFunc]) := ⟨⟨.nilFunc, by kernel_rfl, by kernel_rfl⟩⟩
-- 102 func(int)%20(string,%20int)
instance : OneC Try.prog 102 := ⟨⟨_, Try.underlying102, rfl⟩, by kernel_rfl⟩
instance : ZeroC Try.prog 102 ([.nilFunc]) := ⟨⟨.nilFunc, by kernel_rfl, by kernel_rfl⟩⟩
-- 103 func()%20(nacelleref05.Disk,%20int)
instance : OneC Try.prog 103 := ⟨⟨_, Try.underlying103, rfl⟩, by kernel_rfl⟩
instance : ZeroC Try.prog 103 ([.nilFunc]) := ⟨⟨.nilFunc, by kernel_rfl, by kernel_rfl⟩⟩
-- 104 func([]bool)%20nacelleref05.Disk
instance : OneC Try.prog 104 := ⟨⟨_, Try.underlying104, rfl⟩, by kernel_rfl⟩
instance : ZeroC Try.prog 104 ([.nilFunc]) := ⟨⟨.nilFunc, by kernel_rfl, by kernel_rfl⟩⟩
-- 105 func()%20nacelleref05.Disk
instance : OneC Try.prog 105 := ⟨⟨_, Try.underlying105, rfl⟩, by kernel_rfl⟩
instance : ZeroC Try.prog 105 ([.nilFunc]) := ⟨⟨.nilFunc, by kernel_rfl, by kernel_rfl⟩⟩
-- 106 func(extent.Extent,%20[]nacellelaw06.Act)%20bool
instance : OneC Try.prog 106 := ⟨⟨_, Try.underlying106, rfl⟩, by kernel_rfl⟩
instance : ZeroC Try.prog 106 ([.nilFunc]) := ⟨⟨.nilFunc, by kernel_rfl, by kernel_rfl⟩⟩
-- 107 []disk.sector
instance : OneC Try.prog 107 := ⟨⟨_, Try.underlying107, rfl⟩, by kernel_rfl⟩
instance : ZeroC Try.prog 107 ([.slice none 0 0]) := ⟨⟨.slice none 0 0, by kernel_rfl, by kernel_rfl⟩⟩
instance : ElC Try.prog 107 112 64 64 (List.replicate 64 (.int .u8 0)) := ⟨⟨.agg (List.replicate 64 (.int .u8 0)).toArray, elT Try.underlying107 (by kernel_rfl) (by kernel_rfl) (by decide), by kernel_rfl⟩⟩
-- 108 []disk.write
instance : OneC Try.prog 108 := ⟨⟨_, Try.underlying108, rfl⟩, by kernel_rfl⟩
instance : ZeroC Try.prog 108 ([.slice none 0 0]) := ⟨⟨.slice none 0 0, by kernel_rfl, by kernel_rfl⟩⟩
instance : ElC Try.prog 108 115 65 72 ([.int .i64 0, .int .u8 0, .int .u8 0, .int .u8 0, .int .u8 0, .int .u8 0, .int .u8 0, .int .u8 0, .int .u8 0, .int .u8 0, .int .u8 0, .int .u8 0, .int .u8 0, .int .u8 0, .int .u8 0, .int .u8 0, .int .u8 0, .int .u8 0, .int .u8 0, .int .u8 0, .int .u8 0, .int .u8 0, .int .u8 0, .int .u8 0, .int .u8 0, .int .u8 0, .int .u8 0, .int .u8 0, .int .u8 0, .int .u8 0, .int .u8 0, .int .u8 0, .int .u8 0, .int .u8 0, .int .u8 0, .int .u8 0, .int .u8 0, .int .u8 0, .int .u8 0, .int .u8 0, .int .u8 0, .int .u8 0, .int .u8 0, .int .u8 0, .int .u8 0, .int .u8 0, .int .u8 0, .int .u8 0, .int .u8 0, .int .u8 0, .int .u8 0, .int .u8 0, .int .u8 0, .int .u8 0, .int .u8 0, .int .u8 0, .int .u8 0, .int .u8 0, .int .u8 0, .int .u8 0, .int .u8 0, .int .u8 0, .int .u8 0, .int .u8 0, .int .u8 0]) := ⟨⟨.agg ([.int .i64 0, .int .u8 0, .int .u8 0, .int .u8 0, .int .u8 0, .int .u8 0, .int .u8 0, .int .u8 0, .int .u8 0, .int .u8 0, .int .u8 0, .int .u8 0, .int .u8 0, .int .u8 0, .int .u8 0, .int .u8 0, .int .u8 0, .int .u8 0, .int .u8 0, .int .u8 0, .int .u8 0, .int .u8 0, .int .u8 0, .int .u8 0, .int .u8 0, .int .u8 0, .int .u8 0, .int .u8 0, .int .u8 0, .int .u8 0, .int .u8 0, .int .u8 0, .int .u8 0, .int .u8 0, .int .u8 0, .int .u8 0, .int .u8 0, .int .u8 0, .int .u8 0, .int .u8 0, .int .u8 0, .int .u8 0, .int .u8 0, .int .u8 0, .int .u8 0, .int .u8 0, .int .u8 0, .int .u8 0, .int .u8 0, .int .u8 0, .int .u8 0, .int .u8 0, .int .u8 0, .int .u8 0, .int .u8 0, .int .u8 0, .int .u8 0, .int .u8 0, .int .u8 0, .int .u8 0, .int .u8 0, .int .u8 0, .int .u8 0, .int .u8 0, .int .u8 0]).toArray, elT Try.underlying108 (by kernel_rfl) (by kernel_rfl) (by decide), by kernel_rfl⟩⟩
-- 109 struct%20{%20sectors%20[]disk.sector;%20pending%20[]disk.write;%20off%20bool;%20armed%20bool;%20left%20int;%20survivors%20[]bool%20}
instance : RowC Try.prog 109 6 := ⟨⟨_, Try.underlying109, rfl⟩, by kernel_rfl⟩
instance : ZeroC Try.prog 109 ([.slice none 0 0, .slice none 0 0, .bool false, .bool false, .int .i64 0, .slice none 0 0]) := ⟨⟨.agg ([.slice none 0 0, .slice none 0 0, .bool false, .bool false, .int .i64 0, .slice none 0 0]).toArray, by kernel_rfl, by kernel_rfl⟩⟩
instance : FldC Try.prog 109 0 0 := ⟨⟨_, _, Try.underlying109, rfl, rfl, 0, by kernel_rfl⟩⟩
instance : FldV Try.prog 109 0 0 1 true := ⟨⟨_, _, _, Try.underlying109, rfl, rfl, by kernel_rfl, Try.underlying107, rfl⟩⟩
instance : FldC Try.prog 109 1 1 := ⟨⟨_, _, Try.underlying109, rfl, rfl, 0, by kernel_rfl⟩⟩
instance : FldV Try.prog 109 1 1 1 true := ⟨⟨_, _, _, Try.underlying109, rfl, rfl, by kernel_rfl, Try.underlying108, rfl⟩⟩
instance : FldC Try.prog 109 2 2 := ⟨⟨_, _, Try.underlying109, rfl, rfl, 0, by kernel_rfl⟩⟩
instance : FldV Try.prog 109 2 2 1 true := ⟨⟨_, _, _, Try.underlying109, rfl, rfl, by kernel_rfl, Try.underlying4, rfl⟩⟩
instance : FldC Try.prog 109 3 3 := ⟨⟨_, _, Try.underlying109, rfl, rfl, 0, by kernel_rfl⟩⟩
instance : FldV Try.prog 109 3 3 1 true := ⟨⟨_, _, _, Try.underlying109, rfl, rfl, by kernel_rfl, Try.underlying4, rfl⟩⟩
instance : FldC Try.prog 109 4 4 := ⟨⟨_, _, Try.underlying109, rfl, rfl, 0, by kernel_rfl⟩⟩
instance : FldV Try.prog 109 4 4 1 true := ⟨⟨_, _, _, Try.underlying109, rfl, rfl, by kernel_rfl, Try.underlying3, rfl⟩⟩
instance : FldC Try.prog 109 5 5 := ⟨⟨_, _, Try.underlying109, rfl, rfl, 0, by kernel_rfl⟩⟩
instance : FldV Try.prog 109 5 5 1 true := ⟨⟨_, _, _, Try.underlying109, rfl, rfl, by kernel_rfl, Try.underlying35, rfl⟩⟩
-- 110 disk.Disk
instance : RowC Try.prog 110 6 := ⟨⟨_, Try.underlying110, rfl⟩, by kernel_rfl⟩
instance : ZeroC Try.prog 110 ([.slice none 0 0, .slice none 0 0, .bool false, .bool false, .int .i64 0, .slice none 0 0]) := ⟨⟨.agg ([.slice none 0 0, .slice none 0 0, .bool false, .bool false, .int .i64 0, .slice none 0 0]).toArray, by kernel_rfl, by kernel_rfl⟩⟩
instance : FldC Try.prog 110 0 0 := ⟨⟨_, _, Try.underlying110, rfl, rfl, 0, by kernel_rfl⟩⟩
instance : FldV Try.prog 110 0 0 1 true := ⟨⟨_, _, _, Try.underlying110, rfl, rfl, by kernel_rfl, Try.underlying107, rfl⟩⟩
instance : FldC Try.prog 110 1 1 := ⟨⟨_, _, Try.underlying110, rfl, rfl, 0, by kernel_rfl⟩⟩
instance : FldV Try.prog 110 1 1 1 true := ⟨⟨_, _, _, Try.underlying110, rfl, rfl, by kernel_rfl, Try.underlying108, rfl⟩⟩
instance : FldC Try.prog 110 2 2 := ⟨⟨_, _, Try.underlying110, rfl, rfl, 0, by kernel_rfl⟩⟩
instance : FldV Try.prog 110 2 2 1 true := ⟨⟨_, _, _, Try.underlying110, rfl, rfl, by kernel_rfl, Try.underlying4, rfl⟩⟩
instance : FldC Try.prog 110 3 3 := ⟨⟨_, _, Try.underlying110, rfl, rfl, 0, by kernel_rfl⟩⟩
instance : FldV Try.prog 110 3 3 1 true := ⟨⟨_, _, _, Try.underlying110, rfl, rfl, by kernel_rfl, Try.underlying4, rfl⟩⟩
instance : FldC Try.prog 110 4 4 := ⟨⟨_, _, Try.underlying110, rfl, rfl, 0, by kernel_rfl⟩⟩
instance : FldV Try.prog 110 4 4 1 true := ⟨⟨_, _, _, Try.underlying110, rfl, rfl, by kernel_rfl, Try.underlying3, rfl⟩⟩
instance : FldC Try.prog 110 5 5 := ⟨⟨_, _, Try.underlying110, rfl, rfl, 0, by kernel_rfl⟩⟩
instance : FldV Try.prog 110 5 5 1 true := ⟨⟨_, _, _, Try.underlying110, rfl, rfl, by kernel_rfl, Try.underlying35, rfl⟩⟩
-- 111 [64]uint8
instance : RowC Try.prog 111 64 := ⟨⟨_, Try.underlying111, rfl⟩, by kernel_rfl⟩
instance : ZeroC Try.prog 111 (List.replicate 64 (.int .u8 0)) := ⟨⟨.agg (List.replicate 64 (.int .u8 0)).toArray, by kernel_rfl, by kernel_rfl⟩⟩
instance : ArrC Try.prog 111 64 1 true := ⟨⟨_, _, Try.underlying111, by kernel_rfl, Try.underlying5, rfl⟩⟩
-- 112 disk.sector
instance : RowC Try.prog 112 64 := ⟨⟨_, Try.underlying112, rfl⟩, by kernel_rfl⟩
instance : ZeroC Try.prog 112 (List.replicate 64 (.int .u8 0)) := ⟨⟨.agg (List.replicate 64 (.int .u8 0)).toArray, by kernel_rfl, by kernel_rfl⟩⟩
instance : ArrC Try.prog 112 64 1 true := ⟨⟨_, _, Try.underlying112, by kernel_rfl, Try.underlying5, rfl⟩⟩
-- 113 func([]bool)%20[]bool
instance : OneC Try.prog 113 := ⟨⟨_, Try.underlying113, rfl⟩, by kernel_rfl⟩
instance : ZeroC Try.prog 113 ([.nilFunc]) := ⟨⟨.nilFunc, by kernel_rfl, by kernel_rfl⟩⟩
-- 114 struct%20{%20at%20int;%20content%20disk.sector%20}
instance : RowC Try.prog 114 65 := ⟨⟨_, Try.underlying114, rfl⟩, by kernel_rfl⟩
instance : ZeroC Try.prog 114 ([.int .i64 0, .int .u8 0, .int .u8 0, .int .u8 0, .int .u8 0, .int .u8 0, .int .u8 0, .int .u8 0, .int .u8 0, .int .u8 0, .int .u8 0, .int .u8 0, .int .u8 0, .int .u8 0, .int .u8 0, .int .u8 0, .int .u8 0, .int .u8 0, .int .u8 0, .int .u8 0, .int .u8 0, .int .u8 0, .int .u8 0, .int .u8 0, .int .u8 0, .int .u8 0, .int .u8 0, .int .u8 0, .int .u8 0, .int .u8 0, .int .u8 0, .int .u8 0, .int .u8 0, .int .u8 0, .int .u8 0, .int .u8 0, .int .u8 0, .int .u8 0, .int .u8 0, .int .u8 0, .int .u8 0, .int .u8 0, .int .u8 0, .int .u8 0, .int .u8 0, .int .u8 0, .int .u8 0, .int .u8 0, .int .u8 0, .int .u8 0, .int .u8 0, .int .u8 0, .int .u8 0, .int .u8 0, .int .u8 0, .int .u8 0, .int .u8 0, .int .u8 0, .int .u8 0, .int .u8 0, .int .u8 0, .int .u8 0, .int .u8 0, .int .u8 0, .int .u8 0]) := ⟨⟨.agg ([.int .i64 0, .int .u8 0, .int .u8 0, .int .u8 0, .int .u8 0, .int .u8 0, .int .u8 0, .int .u8 0, .int .u8 0, .int .u8 0, .int .u8 0, .int .u8 0, .int .u8 0, .int .u8 0, .int .u8 0, .int .u8 0, .int .u8 0, .int .u8 0, .int .u8 0, .int .u8 0, .int .u8 0, .int .u8 0, .int .u8 0, .int .u8 0, .int .u8 0, .int .u8 0, .int .u8 0, .int .u8 0, .int .u8 0, .int .u8 0, .int .u8 0, .int .u8 0, .int .u8 0, .int .u8 0, .int .u8 0, .int .u8 0, .int .u8 0, .int .u8 0, .int .u8 0, .int .u8 0, .int .u8 0, .int .u8 0, .int .u8 0, .int .u8 0, .int .u8 0, .int .u8 0, .int .u8 0, .int .u8 0, .int .u8 0, .int .u8 0, .int .u8 0, .int .u8 0, .int .u8 0, .int .u8 0, .int .u8 0, .int .u8 0, .int .u8 0, .int .u8 0, .int .u8 0, .int .u8 0, .int .u8 0, .int .u8 0, .int .u8 0, .int .u8 0, .int .u8 0]).toArray, by kernel_rfl, by kernel_rfl⟩⟩
instance : FldC Try.prog 114 0 0 := ⟨⟨_, _, Try.underlying114, rfl, rfl, 0, by kernel_rfl⟩⟩
instance : FldV Try.prog 114 0 0 1 true := ⟨⟨_, _, _, Try.underlying114, rfl, rfl, by kernel_rfl, Try.underlying3, rfl⟩⟩
instance : FldC Try.prog 114 1 1 := ⟨⟨_, _, Try.underlying114, rfl, rfl, 63, by kernel_rfl⟩⟩
instance : FldV Try.prog 114 1 1 64 false := ⟨⟨_, _, _, Try.underlying114, rfl, rfl, by kernel_rfl, Try.underlying112, rfl⟩⟩
-- 115 disk.write
instance : RowC Try.prog 115 65 := ⟨⟨_, Try.underlying115, rfl⟩, by kernel_rfl⟩
instance : ZeroC Try.prog 115 ([.int .i64 0, .int .u8 0, .int .u8 0, .int .u8 0, .int .u8 0, .int .u8 0, .int .u8 0, .int .u8 0, .int .u8 0, .int .u8 0, .int .u8 0, .int .u8 0, .int .u8 0, .int .u8 0, .int .u8 0, .int .u8 0, .int .u8 0, .int .u8 0, .int .u8 0, .int .u8 0, .int .u8 0, .int .u8 0, .int .u8 0, .int .u8 0, .int .u8 0, .int .u8 0, .int .u8 0, .int .u8 0, .int .u8 0, .int .u8 0, .int .u8 0, .int .u8 0, .int .u8 0, .int .u8 0, .int .u8 0, .int .u8 0, .int .u8 0, .int .u8 0, .int .u8 0, .int .u8 0, .int .u8 0, .int .u8 0, .int .u8 0, .int .u8 0, .int .u8 0, .int .u8 0, .int .u8 0, .int .u8 0, .int .u8 0, .int .u8 0, .int .u8 0, .int .u8 0, .int .u8 0, .int .u8 0, .int .u8 0, .int .u8 0, .int .u8 0, .int .u8 0, .int .u8 0, .int .u8 0, .int .u8 0, .int .u8 0, .int .u8 0, .int .u8 0, .int .u8 0]) := ⟨⟨.agg ([.int .i64 0, .int .u8 0, .int .u8 0, .int .u8 0, .int .u8 0, .int .u8 0, .int .u8 0, .int .u8 0, .int .u8 0, .int .u8 0, .int .u8 0, .int .u8 0, .int .u8 0, .int .u8 0, .int .u8 0, .int .u8 0, .int .u8 0, .int .u8 0, .int .u8 0, .int .u8 0, .int .u8 0, .int .u8 0, .int .u8 0, .int .u8 0, .int .u8 0, .int .u8 0, .int .u8 0, .int .u8 0, .int .u8 0, .int .u8 0, .int .u8 0, .int .u8 0, .int .u8 0, .int .u8 0, .int .u8 0, .int .u8 0, .int .u8 0, .int .u8 0, .int .u8 0, .int .u8 0, .int .u8 0, .int .u8 0, .int .u8 0, .int .u8 0, .int .u8 0, .int .u8 0, .int .u8 0, .int .u8 0, .int .u8 0, .int .u8 0, .int .u8 0, .int .u8 0, .int .u8 0, .int .u8 0, .int .u8 0, .int .u8 0, .int .u8 0, .int .u8 0, .int .u8 0, .int .u8 0, .int .u8 0, .int .u8 0, .int .u8 0, .int .u8 0, .int .u8 0]).toArray, by kernel_rfl, by kernel_rfl⟩⟩
instance : FldC Try.prog 115 0 0 := ⟨⟨_, _, Try.underlying115, rfl, rfl, 0, by kernel_rfl⟩⟩
instance : FldV Try.prog 115 0 0 1 true := ⟨⟨_, _, _, Try.underlying115, rfl, rfl, by kernel_rfl, Try.underlying3, rfl⟩⟩
instance : FldC Try.prog 115 1 1 := ⟨⟨_, _, Try.underlying115, rfl, rfl, 63, by kernel_rfl⟩⟩
instance : FldV Try.prog 115 1 1 64 false := ⟨⟨_, _, _, Try.underlying115, rfl, rfl, by kernel_rfl, Try.underlying112, rfl⟩⟩
-- 116 func(*disk.Disk,%20nacelleref05.Disk,%20nacellelaw05.Act)%20(nacelleref05.Disk,%20bool)
instance : OneC Try.prog 116 := ⟨⟨_, Try.underlying116, rfl⟩, by kernel_rfl⟩
instance : ZeroC Try.prog 116 ([.nilFunc]) := ⟨⟨.nilFunc, by kernel_rfl, by kernel_rfl⟩⟩
-- 117 func([]extent.Extent,%20func(extent.Extent,%20extent.Extent)%20int)
instance : OneC Try.prog 117 := ⟨⟨_, Try.underlying117, rfl⟩, by kernel_rfl⟩
instance : ZeroC Try.prog 117 ([.nilFunc]) := ⟨⟨.nilFunc, by kernel_rfl, by kernel_rfl⟩⟩
-- 118 func(int,%20int)%20int
instance : OneC Try.prog 118 := ⟨⟨_, Try.underlying118, rfl⟩, by kernel_rfl⟩
instance : ZeroC Try.prog 118 ([.nilFunc]) := ⟨⟨.nilFunc, by kernel_rfl, by kernel_rfl⟩⟩
-- 119 func(extent.Extent,%20extent.Extent)%20int
instance : OneC Try.prog 119 := ⟨⟨_, Try.underlying119, rfl⟩, by kernel_rfl⟩
instance : ZeroC Try.prog 119 ([.nilFunc]) := ⟨⟨.nilFunc, by kernel_rfl, by kernel_rfl⟩⟩
-- 120 func(int,%20int,%20int,%20int)%20bool
instance : OneC Try.prog 120 := ⟨⟨_, Try.underlying120, rfl⟩, by kernel_rfl⟩
instance : ZeroC Try.prog 120 ([.nilFunc]) := ⟨⟨.nilFunc, by kernel_rfl, by kernel_rfl⟩⟩
-- 121 func([]int)%20[]int
instance : OneC Try.prog 121 := ⟨⟨_, Try.underlying121, rfl⟩, by kernel_rfl⟩
instance : ZeroC Try.prog 121 ([.nilFunc]) := ⟨⟨.nilFunc, by kernel_rfl, by kernel_rfl⟩⟩
-- 122 []iosched.partition
instance : OneC Try.prog 122 := ⟨⟨_, Try.underlying122, rfl⟩, by kernel_rfl⟩
instance : ZeroC Try.prog 122 ([.slice none 0 0]) := ⟨⟨.slice none 0 0, by kernel_rfl, by kernel_rfl⟩⟩
instance : ElC Try.prog 122 131 70 816 ([.pointer none, .int .i64 0, .int .u64 0, .int .u64 0, .int .u64 0, .int .i64 0, .int .i64 0, .slice none 0 0, .int .u64 0, .int .i64 0, .int .i64 0, .slice none 0 0, .int .u64 0, .int .i64 0, .int .i64 0, .slice none 0 0, .int .u64 0, .int .i64 0, .int .i64 0, .slice none 0 0, .int .u64 0, .int .i64 0, .int .i64 0, .slice none 0 0, .int .u64 0, .int .i64 0, .int .i64 0, .slice none 0 0, .int .u64 0, .int .i64 0, .int .i64 0, .slice none 0 0, .int .u64 0, .int .i64 0, .int .i64 0, .slice none 0 0, .int .u64 0, .int .i64 0, .int .i64 0, .slice none 0 0, .int .u64 0, .int .i64 0, .int .i64 0, .slice none 0 0, .int .u64 0, .int .i64 0, .int .i64 0, .slice none 0 0, .int .u64 0, .int .i64 0, .int .i64 0, .slice none 0 0, .int .u64 0, .int .i64 0, .int .i64 0, .slice none 0 0, .int .u64 0, .int .i64 0, .int .i64 0, .slice none 0 0, .int .u64 0, .int .i64 0, .int .i64 0, .slice none 0 0, .int .u64 0, .int .i64 0, .int .i64 0, .slice none 0 0, .int .i64 0, .int .i64 0]) := ⟨⟨.agg ([.pointer none, .int .i64 0, .int .u64 0, .int .u64 0, .int .u64 0, .int .i64 0, .int .i64 0, .slice none 0 0, .int .u64 0, .int .i64 0, .int .i64 0, .slice none 0 0, .int .u64 0, .int .i64 0, .int .i64 0, .slice none 0 0, .int .u64 0, .int .i64 0, .int .i64 0, .slice none 0 0, .int .u64 0, .int .i64 0, .int .i64 0, .slice none 0 0, .int .u64 0, .int .i64 0, .int .i64 0, .slice none 0 0, .int .u64 0, .int .i64 0, .int .i64 0, .slice none 0 0, .int .u64 0, .int .i64 0, .int .i64 0, .slice none 0 0, .int .u64 0, .int .i64 0, .int .i64 0, .slice none 0 0, .int .u64 0, .int .i64 0, .int .i64 0, .slice none 0 0, .int .u64 0, .int .i64 0, .int .i64 0, .slice none 0 0, .int .u64 0, .int .i64 0, .int .i64 0, .slice none 0 0, .int .u64 0, .int .i64 0, .int .i64 0, .slice none 0 0, .int .u64 0, .int .i64 0, .int .i64 0, .slice none 0 0, .int .u64 0, .int .i64 0, .int .i64 0, .slice none 0 0, .int .u64 0, .int .i64 0, .int .i64 0, .slice none 0 0, .int .i64 0, .int .i64 0]).toArray, elT Try.underlying122 (by kernel_rfl) (by kernel_rfl) (by decide), by kernel_rfl⟩⟩
-- 123 struct%20{%20parts%20[]iosched.partition;%20slots%20[]int;%20next%20int%20}
instance : RowC Try.prog 123 3 := ⟨⟨_, Try.underlying123, rfl⟩, by kernel_rfl⟩
instance : ZeroC Try.prog 123 ([.slice none 0 0, .slice none 0 0, .int .i64 0]) := ⟨⟨.agg ([.slice none 0 0, .slice none 0 0, .int .i64 0]).toArray, by kernel_rfl, by kernel_rfl⟩⟩
instance : FldC Try.prog 123 0 0 := ⟨⟨_, _, Try.underlying123, rfl, rfl, 0, by kernel_rfl⟩⟩
instance : FldV Try.prog 123 0 0 1 true := ⟨⟨_, _, _, Try.underlying123, rfl, rfl, by kernel_rfl, Try.underlying122, rfl⟩⟩
instance : FldC Try.prog 123 1 1 := ⟨⟨_, _, Try.underlying123, rfl, rfl, 0, by kernel_rfl⟩⟩
instance : FldV Try.prog 123 1 1 1 true := ⟨⟨_, _, _, Try.underlying123, rfl, rfl, by kernel_rfl, Try.underlying45, rfl⟩⟩
instance : FldC Try.prog 123 2 2 := ⟨⟨_, _, Try.underlying123, rfl, rfl, 0, by kernel_rfl⟩⟩
instance : FldV Try.prog 123 2 2 1 true := ⟨⟨_, _, _, Try.underlying123, rfl, rfl, by kernel_rfl, Try.underlying3, rfl⟩⟩
-- 125 struct%20{%20n%20uint64;%20request%20api.Request%20}
instance : RowC Try.prog 125 4 := ⟨⟨_, Try.underlying125, rfl⟩, by kernel_rfl⟩
instance : ZeroC Try.prog 125 ([.int .u64 0, .int .i64 0, .int .i64 0, .slice none 0 0]) := ⟨⟨.agg ([.int .u64 0, .int .i64 0, .int .i64 0, .slice none 0 0]).toArray, by kernel_rfl, by kernel_rfl⟩⟩
instance : FldC Try.prog 125 0 0 := ⟨⟨_, _, Try.underlying125, rfl, rfl, 0, by kernel_rfl⟩⟩
instance : FldV Try.prog 125 0 0 1 true := ⟨⟨_, _, _, Try.underlying125, rfl, rfl, by kernel_rfl, Try.underlying64, rfl⟩⟩
instance : FldC Try.prog 125 1 1 := ⟨⟨_, _, Try.underlying125, rfl, rfl, 2, by kernel_rfl⟩⟩
instance : FldV Try.prog 125 1 1 3 false := ⟨⟨_, _, _, Try.underlying125, rfl, rfl, by kernel_rfl, Try.underlying68, rfl⟩⟩
-- 127 [16]iosched.asked
instance : RowC Try.prog 127 64 := ⟨⟨_, Try.underlying127, rfl⟩, by kernel_rfl⟩
instance : ZeroC Try.prog 127 ([.int .u64 0, .int .i64 0, .int .i64 0, .slice none 0 0, .int .u64 0, .int .i64 0, .int .i64 0, .slice none 0 0, .int .u64 0, .int .i64 0, .int .i64 0, .slice none 0 0, .int .u64 0, .int .i64 0, .int .i64 0, .slice none 0 0, .int .u64 0, .int .i64 0, .int .i64 0, .slice none 0 0, .int .u64 0, .int .i64 0, .int .i64 0, .slice none 0 0, .int .u64 0, .int .i64 0, .int .i64 0, .slice none 0 0, .int .u64 0, .int .i64 0, .int .i64 0, .slice none 0 0, .int .u64 0, .int .i64 0, .int .i64 0, .slice none 0 0, .int .u64 0, .int .i64 0, .int .i64 0, .slice none 0 0, .int .u64 0, .int .i64 0, .int .i64 0, .slice none 0 0, .int .u64 0, .int .i64 0, .int .i64 0, .slice none 0 0, .int .u64 0, .int .i64 0, .int .i64 0, .slice none 0 0, .int .u64 0, .int .i64 0, .int .i64 0, .slice none 0 0, .int .u64 0, .int .i64 0, .int .i64 0, .slice none 0 0, .int .u64 0, .int .i64 0, .int .i64 0, .slice none 0 0]) := ⟨⟨.agg ([.int .u64 0, .int .i64 0, .int .i64 0, .slice none 0 0, .int .u64 0, .int .i64 0, .int .i64 0, .slice none 0 0, .int .u64 0, .int .i64 0, .int .i64 0, .slice none 0 0, .int .u64 0, .int .i64 0, .int .i64 0, .slice none 0 0, .int .u64 0, .int .i64 0, .int .i64 0, .slice none 0 0, .int .u64 0, .int .i64 0, .int .i64 0, .slice none 0 0, .int .u64 0, .int .i64 0, .int .i64 0, .slice none 0 0, .int .u64 0, .int .i64 0, .int .i64 0, .slice none 0 0, .int .u64 0, .int .i64 0, .int .i64 0, .slice none 0 0, .int .u64 0, .int .i64 0, .int .i64 0, .slice none 0 0, .int .u64 0, .int .i64 0, .int .i64 0, .slice none 0 0, .int .u64 0, .int .i64 0, .int .i64 0, .slice none 0 0, .int .u64 0, .int .i64 0, .int .i64 0, .slice none 0 0, .int .u64 0, .int .i64 0, .int .i64 0, .slice none 0 0, .int .u64 0, .int .i64 0, .int .i64 0, .slice none 0 0, .int .u64 0, .int .i64 0, .int .i64 0, .slice none 0 0]).toArray, by kernel_rfl, by kernel_rfl⟩⟩
instance : ArrC Try.prog 127 16 4 false := ⟨⟨_, _, Try.underlying127, by kernel_rfl, Try.underlying126, rfl⟩⟩
-- 128 struct%20{%20items%20[16]iosched.asked;%20first%20int;%20count%20int%20}
instance : RowC Try.prog 128 66 := ⟨⟨_, Try.underlying128, rfl⟩, by kernel_rfl⟩
instance : ZeroC Try.prog 128 ([.int .u64 0, .int .i64 0, .int .i64 0, .slice none 0 0, .int .u64 0, .int .i64 0, .int .i64 0, .slice none 0 0, .int .u64 0, .int .i64 0, .int .i64 0, .slice none 0 0, .int .u64 0, .int .i64 0, .int .i64 0, .slice none 0 0, .int .u64 0, .int .i64 0, .int .i64 0, .slice none 0 0, .int .u64 0, .int .i64 0, .int .i64 0, .slice none 0 0, .int .u64 0, .int .i64 0, .int .i64 0, .slice none 0 0, .int .u64 0, .int .i64 0, .int .i64 0, .slice none 0 0, .int .u64 0, .int .i64 0, .int .i64 0, .slice none 0 0, .int .u64 0, .int .i64 0, .int .i64 0, .slice none 0 0, .int .u64 0, .int .i64 0, .int .i64 0, .slice none 0 0, .int .u64 0, .int .i64 0, .int .i64 0, .slice none 0 0, .int .u64 0, .int .i64 0, .int .i64 0, .slice none 0 0, .int .u64 0, .int .i64 0, .int .i64 0, .slice none 0 0, .int .u64 0, .int .i64 0, .int .i64 0, .slice none 0 0, .int .u64 0, .int .i64 0, .int .i64 0, .slice none 0 0, .int .i64 0, .int .i64 0]) := ⟨⟨.agg ([.int .u64 0, .int .i64 0, .int .i64 0, .slice none 0 0, .int .u64 0, .int .i64 0, .int .i64 0, .slice none 0 0, .int .u64 0, .int .i64 0, .int .i64 0, .slice none 0 0, .int .u64 0, .int .i64 0, .int .i64 0, .slice none 0 0, .int .u64 0, .int .i64 0, .int .i64 0, .slice none 0 0, .int .u64 0, .int .i64 0, .int .i64 0, .slice none 0 0, .int .u64 0, .int .i64 0, .int .i64 0, .slice none 0 0, .int .u64 0, .int .i64 0, .int .i64 0, .slice none 0 0, .int .u64 0, .int .i64 0, .int .i64 0, .slice none 0 0, .int .u64 0, .int .i64 0, .int .i64 0, .slice none 0 0, .int .u64 0, .int .i64 0, .int .i64 0, .slice none 0 0, .int .u64 0, .int .i64 0, .int .i64 0, .slice none 0 0, .int .u64 0, .int .i64 0, .int .i64 0, .slice none 0 0, .int .u64 0, .int .i64 0, .int .i64 0, .slice none 0 0, .int .u64 0, .int .i64 0, .int .i64 0, .slice none 0 0, .int .u64 0, .int .i64 0, .int .i64 0, .slice none 0 0, .int .i64 0, .int .i64 0]).toArray, by kernel_rfl, by kernel_rfl⟩⟩
instance : FldC Try.prog 128 0 0 := ⟨⟨_, _, Try.underlying128, rfl, rfl, 63, by kernel_rfl⟩⟩
instance : FldV Try.prog 128 0 0 64 false := ⟨⟨_, _, _, Try.underlying128, rfl, rfl, by kernel_rfl, Try.underlying127, rfl⟩⟩
instance : FldC Try.prog 128 1 64 := ⟨⟨_, _, Try.underlying128, rfl, rfl, 0, by kernel_rfl⟩⟩
instance : FldV Try.prog 128 1 64 1 true := ⟨⟨_, _, _, Try.underlying128, rfl, rfl, by kernel_rfl, Try.underlying3, rfl⟩⟩
instance : FldC Try.prog 128 2 65 := ⟨⟨_, _, Try.underlying128, rfl, rfl, 0, by kernel_rfl⟩⟩
instance : FldV Try.prog 128 2 65 1 true := ⟨⟨_, _, _, Try.underlying128, rfl, rfl, by kernel_rfl, Try.underlying3, rfl⟩⟩
-- 129 iosched.ring[nacelle/iosched.asked]
instance : RowC Try.prog 129 66 := ⟨⟨_, Try.underlying129, rfl⟩, by kernel_rfl⟩
instance : ZeroC Try.prog 129 ([.int .u64 0, .int .i64 0, .int .i64 0, .slice none 0 0, .int .u64 0, .int .i64 0, .int .i64 0, .slice none 0 0, .int .u64 0, .int .i64 0, .int .i64 0, .slice none 0 0, .int .u64 0, .int .i64 0, .int .i64 0, .slice none 0 0, .int .u64 0, .int .i64 0, .int .i64 0, .slice none 0 0, .int .u64 0, .int .i64 0, .int .i64 0, .slice none 0 0, .int .u64 0, .int .i64 0, .int .i64 0, .slice none 0 0, .int .u64 0, .int .i64 0, .int .i64 0, .slice none 0 0, .int .u64 0, .int .i64 0, .int .i64 0, .slice none 0 0, .int .u64 0, .int .i64 0, .int .i64 0, .slice none 0 0, .int .u64 0, .int .i64 0, .int .i64 0, .slice none 0 0, .int .u64 0, .int .i64 0, .int .i64 0, .slice none 0 0, .int .u64 0, .int .i64 0, .int .i64 0, .slice none 0 0, .int .u64 0, .int .i64 0, .int .i64 0, .slice none 0 0, .int .u64 0, .int .i64 0, .int .i64 0, .slice none 0 0, .int .u64 0, .int .i64 0, .int .i64 0, .slice none 0 0, .int .i64 0, .int .i64 0]) := ⟨⟨.agg ([.int .u64 0, .int .i64 0, .int .i64 0, .slice none 0 0, .int .u64 0, .int .i64 0, .int .i64 0, .slice none 0 0, .int .u64 0, .int .i64 0, .int .i64 0, .slice none 0 0, .int .u64 0, .int .i64 0, .int .i64 0, .slice none 0 0, .int .u64 0, .int .i64 0, .int .i64 0, .slice none 0 0, .int .u64 0, .int .i64 0, .int .i64 0, .slice none 0 0, .int .u64 0, .int .i64 0, .int .i64 0, .slice none 0 0, .int .u64 0, .int .i64 0, .int .i64 0, .slice none 0 0, .int .u64 0, .int .i64 0, .int .i64 0, .slice none 0 0, .int .u64 0, .int .i64 0, .int .i64 0, .slice none 0 0, .int .u64 0, .int .i64 0, .int .i64 0, .slice none 0 0, .int .u64 0, .int .i64 0, .int .i64 0, .slice none 0 0, .int .u64 0, .int .i64 0, .int .i64 0, .slice none 0 0, .int .u64 0, .int .i64 0, .int .i64 0, .slice none 0 0, .int .u64 0, .int .i64 0, .int .i64 0, .slice none 0 0, .int .u64 0, .int .i64 0, .int .i64 0, .slice none 0 0, .int .i64 0, .int .i64 0]).toArray, by kernel_rfl, by kernel_rfl⟩⟩
instance : FldC Try.prog 129 0 0 := ⟨⟨_, _, Try.underlying129, rfl, rfl, 63, by kernel_rfl⟩⟩
instance : FldV Try.prog 129 0 0 64 false := ⟨⟨_, _, _, Try.underlying129, rfl, rfl, by kernel_rfl, Try.underlying127, rfl⟩⟩
instance : FldC Try.prog 129 1 64 := ⟨⟨_, _, Try.underlying129, rfl, rfl, 0, by kernel_rfl⟩⟩
instance : FldV Try.prog 129 1 64 1 true := ⟨⟨_, _, _, Try.underlying129, rfl, rfl, by kernel_rfl, Try.underlying3, rfl⟩⟩
instance : FldC Try.prog 129 2 65 := ⟨⟨_, _, Try.underlying129, rfl, rfl, 0, by kernel_rfl⟩⟩
instance : FldV Try.prog 129 2 65 1 true := ⟨⟨_, _, _, Try.underlying129, rfl, rfl, by kernel_rfl, Try.underlying3, rfl⟩⟩
-- 130 struct%20{%20part%20*extent.Part;%20room%20int;%20last%20uint64;%20served%20uint64;%20waiting%20iosched.ring[nacelle/iosched.asked]%20}
instance : RowC Try.prog 130 70 := ⟨⟨_, Try.underlying130, rfl⟩, by kernel_rfl⟩
instance : ZeroC Try.prog 130 ([.pointer none, .int .i64 0, .int .u64 0, .int .u64 0, .int .u64 0, .int .i64 0, .int .i64 0, .slice none 0 0, .int .u64 0, .int .i64 0, .int .i64 0, .slice none 0 0, .int .u64 0, .int .i64 0, .int .i64 0, .slice none 0 0, .int .u64 0, .int .i64 0, .int .i64 0, .slice none 0 0, .int .u64 0, .int .i64 0, .int .i64 0, .slice none 0 0, .int .u64 0, .int .i64 0, .int .i64 0, .slice none 0 0, .int .u64 0, .int .i64 0, .int .i64 0, .slice none 0 0, .int .u64 0, .int .i64 0, .int .i64 0, .slice none 0 0, .int .u64 0, .int .i64 0, .int .i64 0, .slice none 0 0, .int .u64 0, .int .i64 0, .int .i64 0, .slice none 0 0, .int .u64 0, .int .i64 0, .int .i64 0, .slice none 0 0, .int .u64 0, .int .i64 0, .int .i64 0, .slice none 0 0, .int .u64 0, .int .i64 0, .int .i64 0, .slice none 0 0, .int .u64 0, .int .i64 0, .int .i64 0, .slice none 0 0, .int .u64 0, .int .i64 0, .int .i64 0, .slice none 0 0, .int .u64 0, .int .i64 0, .int .i64 0, .slice none 0 0, .int .i64 0, .int .i64 0]) := ⟨⟨.agg ([.pointer none, .int .i64 0, .int .u64 0, .int .u64 0, .int .u64 0, .int .i64 0, .int .i64 0, .slice none 0 0, .int .u64 0, .int .i64 0, .int .i64 0, .slice none 0 0, .int .u64 0, .int .i64 0, .int .i64 0, .slice none 0 0, .int .u64 0, .int .i64 0, .int .i64 0, .slice none 0 0, .int .u64 0, .int .i64 0, .int .i64 0, .slice none 0 0, .int .u64 0, .int .i64 0, .int .i64 0, .slice none 0 0, .int .u64 0, .int .i64 0, .int .i64 0, .slice none 0 0, .int .u64 0, .int .i64 0, .int .i64 0, .slice none 0 0, .int .u64 0, .int .i64 0, .int .i64 0, .slice none 0 0, .int .u64 0, .int .i64 0, .int .i64 0, .slice none 0 0, .int .u64 0, .int .i64 0, .int .i64 0, .slice none 0 0, .int .u64 0, .int .i64 0, .int .i64 0, .slice none 0 0, .int .u64 0, .int .i64 0, .int .i64 0, .slice none 0 0, .int .u64 0, .int .i64 0, .int .i64 0, .slice none 0 0, .int .u64 0, .int .i64 0, .int .i64 0, .slice none 0 0, .int .u64 0, .int .i64 0, .int .i64 0, .slice none 0 0, .int .i64 0, .int .i64 0]).toArray, by kernel_rfl, by kernel_rfl⟩⟩
instance : FldC Try.prog 130 0 0 := ⟨⟨_, _, Try.underlying130, rfl, rfl, 0, by kernel_rfl⟩⟩
instance : FldV Try.prog 130 0 0 1 true := ⟨⟨_, _, _, Try.underlying130, rfl, rfl, by kernel_rfl, Try.underlying82, rfl⟩⟩
instance : FldC Try.prog 130 1 1 := ⟨⟨_, _, Try.underlying130, rfl, rfl, 0, by kernel_rfl⟩⟩
instance : FldV Try.prog 130 1 1 1 true := ⟨⟨_, _, _, Try.underlying130, rfl, rfl, by kernel_rfl, Try.underlying3, rfl⟩⟩
instance : FldC Try.prog 130 2 2 := ⟨⟨_, _, Try.underlying130, rfl, rfl, 0, by kernel_rfl⟩⟩
instance : FldV Try.prog 130 2 2 1 true := ⟨⟨_, _, _, Try.underlying130, rfl, rfl, by kernel_rfl, Try.underlying64, rfl⟩⟩
instance : FldC Try.prog 130 3 3 := ⟨⟨_, _, Try.underlying130, rfl, rfl, 0, by kernel_rfl⟩⟩
instance : FldV Try.prog 130 3 3 1 true := ⟨⟨_, _, _, Try.underlying130, rfl, rfl, by kernel_rfl, Try.underlying64, rfl⟩⟩
instance : FldC Try.prog 130 4 4 := ⟨⟨_, _, Try.underlying130, rfl, rfl, 65, by kernel_rfl⟩⟩
instance : FldV Try.prog 130 4 4 66 false := ⟨⟨_, _, _, Try.underlying130, rfl, rfl, by kernel_rfl, Try.underlying129, rfl⟩⟩
-- 132 *iosched.partition
instance : OneC Try.prog 132 := ⟨⟨_, Try.underlying132, rfl⟩, by kernel_rfl⟩
instance : ZeroC Try.prog 132 ([.pointer none]) := ⟨⟨.pointer none, by kernel_rfl, by kernel_rfl⟩⟩
instance : PtrC Try.prog 132 131 := ⟨Try.underlying132⟩
-- 133 func(api.Request)%20bool
instance : OneC Try.prog 133 := ⟨⟨_, Try.underlying133, rfl⟩, by kernel_rfl⟩
instance : ZeroC Try.prog 133 ([.nilFunc]) := ⟨⟨.nilFunc, by kernel_rfl, by kernel_rfl⟩⟩
-- 134 func([]uint8)%20[]uint8
instance : OneC Try.prog 134 := ⟨⟨_, Try.underlying134, rfl⟩, by kernel_rfl⟩
instance : ZeroC Try.prog 134 ([.nilFunc]) := ⟨⟨.nilFunc, by kernel_rfl, by kernel_rfl⟩⟩
-- 135 func(iosched.asked)
instance : OneC Try.prog 135 := ⟨⟨_, Try.underlying135, rfl⟩, by kernel_rfl⟩
instance : ZeroC Try.prog 135 ([.nilFunc]) := ⟨⟨.nilFunc, by kernel_rfl, by kernel_rfl⟩⟩
-- 136 func()%20iosched.asked
instance : OneC Try.prog 136 := ⟨⟨_, Try.underlying136, rfl⟩, by kernel_rfl⟩
instance : ZeroC Try.prog 136 ([.nilFunc]) := ⟨⟨.nilFunc, by kernel_rfl, by kernel_rfl⟩⟩
-- 137 struct%20{%20extent.Extent;%20d%20*disk.Disk%20}
instance : RowC Try.prog 137 3 := ⟨⟨_, Try.underlying137, rfl⟩, by kernel_rfl⟩
instance : ZeroC Try.prog 137 ([.int .i64 0, .int .i64 0, .pointer none]) := ⟨⟨.agg ([.int .i64 0, .int .i64 0, .pointer none]).toArray, by kernel_rfl, by kernel_rfl⟩⟩
instance : FldC Try.prog 137 0 0 := ⟨⟨_, _, Try.underlying137, rfl, rfl, 1, by kernel_rfl⟩⟩
instance : FldV Try.prog 137 0 0 2 false := ⟨⟨_, _, _, Try.underlying137, rfl, rfl, by kernel_rfl, Try.underlying51, rfl⟩⟩
instance : FldC Try.prog 137 1 2 := ⟨⟨_, _, Try.underlying137, rfl, rfl, 0, by kernel_rfl⟩⟩
instance : FldV Try.prog 137 1 2 1 true := ⟨⟨_, _, _, Try.underlying137, rfl, rfl, by kernel_rfl, Try.underlying22, rfl⟩⟩
-- 138 extent.Part
instance : RowC Try.prog 138 3 := ⟨⟨_, Try.underlying138, rfl⟩, by kernel_rfl⟩
instance : ZeroC Try.prog 138 ([.int .i64 0, .int .i64 0, .pointer none]) := ⟨⟨.agg ([.int .i64 0, .int .i64 0, .pointer none]).toArray, by kernel_rfl, by kernel_rfl⟩⟩
instance : FldC Try.prog 138 0 0 := ⟨⟨_, _, Try.underlying138, rfl, rfl, 1, by kernel_rfl⟩⟩
instance : FldV Try.prog 138 0 0 2 false := ⟨⟨_, _, _, Try.underlying138, rfl, rfl, by kernel_rfl, Try.underlying51, rfl⟩⟩
instance : FldC Try.prog 138 1 2 := ⟨⟨_, _, Try.underlying138, rfl, rfl, 0, by kernel_rfl⟩⟩
instance : FldV Try.prog 138 1 2 1 true := ⟨⟨_, _, _, Try.underlying138, rfl, rfl, by kernel_rfl, Try.underlying22, rfl⟩⟩
-- 139 func()%20(nacelleref05.Disk,%20bool)
instance : OneC Try.prog 139 := ⟨⟨_, Try.underlying139, rfl⟩, by kernel_rfl⟩
instance : ZeroC Try.prog 139 ([.nilFunc]) := ⟨⟨.nilFunc, by kernel_rfl, by kernel_rfl⟩⟩
-- 140 struct%20{%20At%20int;%20B%20string%20}
instance : RowC Try.prog 140 2 := ⟨⟨_, Try.underlying140, rfl⟩, by kernel_rfl⟩
instance : ZeroC Try.prog 140 ([.int .i64 0, .string ⟨#[]⟩]) := ⟨⟨.agg ([.int .i64 0, .string ⟨#[]⟩]).toArray, by kernel_rfl, by kernel_rfl⟩⟩
instance : FldC Try.prog 140 0 0 := ⟨⟨_, _, Try.underlying140, rfl, rfl, 0, by kernel_rfl⟩⟩
instance : FldV Try.prog 140 0 0 1 true := ⟨⟨_, _, _, Try.underlying140, rfl, rfl, by kernel_rfl, Try.underlying3, rfl⟩⟩
instance : FldC Try.prog 140 1 1 := ⟨⟨_, _, Try.underlying140, rfl, rfl, 0, by kernel_rfl⟩⟩
instance : FldV Try.prog 140 1 1 1 true := ⟨⟨_, _, _, Try.underlying140, rfl, rfl, by kernel_rfl, Try.underlying9, rfl⟩⟩
-- 141 nacelleref05.Write
instance : RowC Try.prog 141 2 := ⟨⟨_, Try.underlying141, rfl⟩, by kernel_rfl⟩
instance : ZeroC Try.prog 141 ([.int .i64 0, .string ⟨#[]⟩]) := ⟨⟨.agg ([.int .i64 0, .string ⟨#[]⟩]).toArray, by kernel_rfl, by kernel_rfl⟩⟩
instance : FldC Try.prog 141 0 0 := ⟨⟨_, _, Try.underlying141, rfl, rfl, 0, by kernel_rfl⟩⟩
instance : FldV Try.prog 141 0 0 1 true := ⟨⟨_, _, _, Try.underlying141, rfl, rfl, by kernel_rfl, Try.underlying3, rfl⟩⟩
instance : FldC Try.prog 141 1 1 := ⟨⟨_, _, Try.underlying141, rfl, rfl, 0, by kernel_rfl⟩⟩
instance : FldV Try.prog 141 1 1 1 true := ⟨⟨_, _, _, Try.underlying141, rfl, rfl, by kernel_rfl, Try.underlying9, rfl⟩⟩
-- 142 func(bool,%20[]bool)%20nacelleref05.Disk
instance : OneC Try.prog 142 := ⟨⟨_, Try.underlying142, rfl⟩, by kernel_rfl⟩
instance : ZeroC Try.prog 142 ([.nilFunc]) := ⟨⟨.nilFunc, by kernel_rfl, by kernel_rfl⟩⟩
-- 143 func(int,%20[]bool)%20nacelleref05.Disk
instance : OneC Try.prog 143 := ⟨⟨_, Try.underlying143, rfl⟩, by kernel_rfl⟩
instance : ZeroC Try.prog 143 ([.nilFunc]) := ⟨⟨.nilFunc, by kernel_rfl, by kernel_rfl⟩⟩
-- 144 func(string)%20(nacelleref05.Disk,%20int)
instance : OneC Try.prog 144 := ⟨⟨_, Try.underlying144, rfl⟩, by kernel_rfl⟩
instance : ZeroC Try.prog 144 ([.nilFunc]) := ⟨⟨.nilFunc, by kernel_rfl, by kernel_rfl⟩⟩
-- 145 func([]uint8)%20api.Errno
instance : OneC Try.prog 145 := ⟨⟨_, Try.underlying145, rfl⟩, by kernel_rfl⟩
instance : ZeroC Try.prog 145 ([.nilFunc]) := ⟨⟨.nilFunc, by kernel_rfl, by kernel_rfl⟩⟩
-- 146 func([]extent.Extent,%20int,%20int,%20int,%20func(extent.Extent,%20extent.Extent)%20int)
instance : OneC Try.prog 146 := ⟨⟨_, Try.underlying146, rfl⟩, by kernel_rfl⟩
instance : ZeroC Try.prog 146 ([.nilFunc]) := ⟨⟨.nilFunc, by kernel_rfl, by kernel_rfl⟩⟩
-- 147 func(uint)%20int
instance : OneC Try.prog 147 := ⟨⟨_, Try.underlying147, rfl⟩, by kernel_rfl⟩
instance : ZeroC Try.prog 147 ([.nilFunc]) := ⟨⟨.nilFunc, by kernel_rfl, by kernel_rfl⟩⟩
-- 148 uint
instance : OneC Try.prog 148 := ⟨⟨_, Try.underlying148, rfl⟩, by kernel_rfl⟩
instance : ZeroC Try.prog 148 ([.int .u64 0]) := ⟨⟨.int .u64 0, by kernel_rfl, by kernel_rfl⟩⟩
instance : IntC Try.prog 148 .u64 := ⟨Try.underlying148⟩
-- 149 *iosched.ring[nacelle/iosched.asked]
instance : OneC Try.prog 149 := ⟨⟨_, Try.underlying149, rfl⟩, by kernel_rfl⟩
instance : ZeroC Try.prog 149 ([.pointer none]) := ⟨⟨.pointer none, by kernel_rfl, by kernel_rfl⟩⟩
instance : PtrC Try.prog 149 129 := ⟨Try.underlying149⟩
-- 150 func([]string,%20int,%20string)%20[]string
instance : OneC Try.prog 150 := ⟨⟨_, Try.underlying150, rfl⟩, by kernel_rfl⟩
instance : ZeroC Try.prog 150 ([.nilFunc]) := ⟨⟨.nilFunc, by kernel_rfl, by kernel_rfl⟩⟩
-- 151 func([]extent.Extent,%20int,%20int,%20func(extent.Extent,%20extent.Extent)%20int)
instance : OneC Try.prog 151 := ⟨⟨_, Try.underlying151, rfl⟩, by kernel_rfl⟩
instance : ZeroC Try.prog 151 ([.nilFunc]) := ⟨⟨.nilFunc, by kernel_rfl, by kernel_rfl⟩⟩
-- 152 slices.sortedHint
instance : OneC Try.prog 152 := ⟨⟨_, Try.underlying152, rfl⟩, by kernel_rfl⟩
instance : ZeroC Try.prog 152 ([.int .i64 0]) := ⟨⟨.int .i64 0, by kernel_rfl, by kernel_rfl⟩⟩
instance : IntC Try.prog 152 .i64 := ⟨Try.underlying152⟩
-- 154 func([]extent.Extent,%20int,%20int,%20func(extent.Extent,%20extent.Extent)%20int)%20(int,%20slices.sortedHint)
instance : OneC Try.prog 154 := ⟨⟨_, Try.underlying154, rfl⟩, by kernel_rfl⟩
instance : ZeroC Try.prog 154 ([.nilFunc]) := ⟨⟨.nilFunc, by kernel_rfl, by kernel_rfl⟩⟩
-- 155 func([]extent.Extent,%20int,%20int,%20func(extent.Extent,%20extent.Extent)%20int)%20bool
instance : OneC Try.prog 155 := ⟨⟨_, Try.underlying155, rfl⟩, by kernel_rfl⟩
instance : ZeroC Try.prog 155 ([.nilFunc]) := ⟨⟨.nilFunc, by kernel_rfl, by kernel_rfl⟩⟩
-- 156 func([]extent.Extent,%20int,%20int,%20int,%20func(extent.Extent,%20extent.Extent)%20int)%20int
instance : OneC Try.prog 156 := ⟨⟨_, Try.underlying156, rfl⟩, by kernel_rfl⟩
instance : ZeroC Try.prog 156 ([.nilFunc]) := ⟨⟨.nilFunc, by kernel_rfl, by kernel_rfl⟩⟩
-- 157 func([]extent.Extent,%20int,%20int,%20int,%20func(extent.Extent,%20extent.Extent)%20int)%20(int,%20bool)
instance : OneC Try.prog 157 := ⟨⟨_, Try.underlying157, rfl⟩, by kernel_rfl⟩
instance : ZeroC Try.prog 157 ([.nilFunc]) := ⟨⟨.nilFunc, by kernel_rfl, by kernel_rfl⟩⟩
-- 158 func(uint32)%20int
instance : OneC Try.prog 158 := ⟨⟨_, Try.underlying158, rfl⟩, by kernel_rfl⟩
instance : ZeroC Try.prog 158 ([.nilFunc]) := ⟨⟨.nilFunc, by kernel_rfl, by kernel_rfl⟩⟩
-- 159 uint32
instance : OneC Try.prog 159 := ⟨⟨_, Try.underlying159, rfl⟩, by kernel_rfl⟩
instance : ZeroC Try.prog 159 ([.int .u32 0]) := ⟨⟨.int .u32 0, by kernel_rfl, by kernel_rfl⟩⟩
instance : IntC Try.prog 159 .u32 := ⟨Try.underlying159⟩
-- 160 func(uint64)%20int
instance : OneC Try.prog 160 := ⟨⟨_, Try.underlying160, rfl⟩, by kernel_rfl⟩
instance : ZeroC Try.prog 160 ([.nilFunc]) := ⟨⟨.nilFunc, by kernel_rfl, by kernel_rfl⟩⟩
-- 161 slices.xorshift
instance : OneC Try.prog 161 := ⟨⟨_, Try.underlying161, rfl⟩, by kernel_rfl⟩
instance : ZeroC Try.prog 161 ([.int .u64 0]) := ⟨⟨.int .u64 0, by kernel_rfl, by kernel_rfl⟩⟩
instance : IntC Try.prog 161 .u64 := ⟨Try.underlying161⟩
-- 162 func(int)%20uint
instance : OneC Try.prog 162 := ⟨⟨_, Try.underlying162, rfl⟩, by kernel_rfl⟩
instance : ZeroC Try.prog 162 ([.nilFunc]) := ⟨⟨.nilFunc, by kernel_rfl, by kernel_rfl⟩⟩
-- 163 func()%20uint64
instance : OneC Try.prog 163 := ⟨⟨_, Try.underlying163, rfl⟩, by kernel_rfl⟩
instance : ZeroC Try.prog 163 ([.nilFunc]) := ⟨⟨.nilFunc, by kernel_rfl, by kernel_rfl⟩⟩
-- 164 func([]extent.Extent,%20int,%20*int,%20func(extent.Extent,%20extent.Extent)%20int)%20int
instance : OneC Try.prog 164 := ⟨⟨_, Try.underlying164, rfl⟩, by kernel_rfl⟩
instance : ZeroC Try.prog 164 ([.nilFunc]) := ⟨⟨.nilFunc, by kernel_rfl, by kernel_rfl⟩⟩
-- 165 *int
instance : OneC Try.prog 165 := ⟨⟨_, Try.underlying165, rfl⟩, by kernel_rfl⟩
instance : ZeroC Try.prog 165 ([.pointer none]) := ⟨⟨.pointer none, by kernel_rfl, by kernel_rfl⟩⟩
instance : PtrC Try.prog 165 3 := ⟨Try.underlying165⟩
-- 166 func([]extent.Extent,%20int,%20int,%20int,%20*int,%20func(extent.Extent,%20extent.Extent)%20int)%20int
instance : OneC Try.prog 166 := ⟨⟨_, Try.underlying166, rfl⟩, by kernel_rfl⟩
instance : ZeroC Try.prog 166 ([.nilFunc]) := ⟨⟨.nilFunc, by kernel_rfl, by kernel_rfl⟩⟩
-- 167 *slices.xorshift
instance : OneC Try.prog 167 := ⟨⟨_, Try.underlying167, rfl⟩, by kernel_rfl⟩
instance : ZeroC Try.prog 167 ([.pointer none]) := ⟨⟨.pointer none, by kernel_rfl, by kernel_rfl⟩⟩
instance : PtrC Try.prog 167 161 := ⟨Try.underlying167⟩
-- 169 func([]extent.Extent,%20int,%20int,%20*int,%20func(extent.Extent,%20extent.Extent)%20int)%20(int,%20int)
instance : OneC Try.prog 169 := ⟨⟨_, Try.underlying169, rfl⟩, by kernel_rfl⟩
instance : ZeroC Try.prog 169 ([.nilFunc]) := ⟨⟨.nilFunc, by kernel_rfl, by kernel_rfl⟩⟩
-- 170 struct%20{%20_interface%20*abi.Type;%20concrete%20*abi.Type;%20asserted%20*abi.Type;%20missingMethod%20string%20}
instance : RowC Try.prog 170 4 := ⟨⟨_, Try.underlying170, rfl⟩, by kernel_rfl⟩
instance : ZeroC Try.prog 170 ([.pointer none, .pointer none, .pointer none, .string ⟨#[]⟩]) := ⟨⟨.agg ([.pointer none, .pointer none, .pointer none, .string ⟨#[]⟩]).toArray, by kernel_rfl, by kernel_rfl⟩⟩
instance : FldC Try.prog 170 0 0 := ⟨⟨_, _, Try.underlying170, rfl, rfl, 0, by kernel_rfl⟩⟩
instance : FldV Try.prog 170 0 0 1 true := ⟨⟨_, _, _, Try.underlying170, rfl, rfl, by kernel_rfl, Try.underlying17, rfl⟩⟩
instance : FldC Try.prog 170 1 1 := ⟨⟨_, _, Try.underlying170, rfl, rfl, 0, by kernel_rfl⟩⟩
instance : FldV Try.prog 170 1 1 1 true := ⟨⟨_, _, _, Try.underlying170, rfl, rfl, by kernel_rfl, Try.underlying17, rfl⟩⟩
instance : FldC Try.prog 170 2 2 := ⟨⟨_, _, Try.underlying170, rfl, rfl, 0, by kernel_rfl⟩⟩
instance : FldV Try.prog 170 2 2 1 true := ⟨⟨_, _, _, Try.underlying170, rfl, rfl, by kernel_rfl, Try.underlying17, rfl⟩⟩
instance : FldC Try.prog 170 3 3 := ⟨⟨_, _, Try.underlying170, rfl, rfl, 0, by kernel_rfl⟩⟩
instance : FldV Try.prog 170 3 3 1 true := ⟨⟨_, _, _, Try.underlying170, rfl, rfl, by kernel_rfl, Try.underlying9, rfl⟩⟩
-- 172 [0]*runtime.PanicNilError
instance : RowC Try.prog 172 0 := ⟨⟨_, Try.underlying172, rfl⟩, by kernel_rfl⟩
instance : ZeroC Try.prog 172 ([]) := ⟨⟨.agg ([]).toArray, by kernel_rfl, by kernel_rfl⟩⟩
instance : ArrC Try.prog 172 0 1 true := ⟨⟨_, _, Try.underlying172, by kernel_rfl, Try.underlying16, rfl⟩⟩
-- 173 struct%20{%20_%20[0]*runtime.PanicNilError%20}
instance : RowC Try.prog 173 0 := ⟨⟨_, Try.underlying173, rfl⟩, by kernel_rfl⟩
instance : ZeroC Try.prog 173 ([]) := ⟨⟨.agg ([]).toArray, by kernel_rfl, by kernel_rfl⟩⟩
-- 175 abi.TFlag
instance : OneC Try.prog 175 := ⟨⟨_, Try.underlying175, rfl⟩, by kernel_rfl⟩
instance : ZeroC Try.prog 175 ([.int .u8 0]) := ⟨⟨.int .u8 0, by kernel_rfl, by kernel_rfl⟩⟩
instance : IntC Try.prog 175 .u8 := ⟨Try.underlying175⟩
-- 176 abi.Kind
instance : OneC Try.prog 176 := ⟨⟨_, Try.underlying176, rfl⟩, by kernel_rfl⟩
instance : ZeroC Try.prog 176 ([.int .u8 0]) := ⟨⟨.int .u8 0, by kernel_rfl, by kernel_rfl⟩⟩
instance : IntC Try.prog 176 .u8 := ⟨Try.underlying176⟩
-- 177 func(unsafe.Pointer,%20unsafe.Pointer)%20bool
instance : OneC Try.prog 177 := ⟨⟨_, Try.underlying177, rfl⟩, by kernel_rfl⟩
instance : ZeroC Try.prog 177 ([.nilFunc]) := ⟨⟨.nilFunc, by kernel_rfl, by kernel_rfl⟩⟩
-- 178 *uint8
instance : OneC Try.prog 178 := ⟨⟨_, Try.underlying178, rfl⟩, by kernel_rfl⟩
instance : ZeroC Try.prog 178 ([.pointer none]) := ⟨⟨.pointer none, by kernel_rfl, by kernel_rfl⟩⟩
instance : PtrC Try.prog 178 5 := ⟨Try.underlying178⟩
-- 179 abi.NameOff
instance : OneC Try.prog 179 := ⟨⟨_, Try.underlying179, rfl⟩, by kernel_rfl⟩
instance : ZeroC Try.prog 179 ([.int .i32 0]) := ⟨⟨.int .i32 0, by kernel_rfl, by kernel_rfl⟩⟩
instance : IntC Try.prog 179 .i32 := ⟨Try.underlying179⟩
-- 180 abi.TypeOff
instance : OneC Try.prog 180 := ⟨⟨_, Try.underlying180, rfl⟩, by kernel_rfl⟩
instance : ZeroC Try.prog 180 ([.int .i32 0]) := ⟨⟨.int .i32 0, by kernel_rfl, by kernel_rfl⟩⟩
instance : IntC Try.prog 180 .i32 := ⟨Try.underlying180⟩
-- 181 struct%20{%20Size_%20uintptr;%20PtrBytes%20uintptr;%20Hash%20uint32;%20TFlag%20abi.TFlag;%20Align_%20uint8;%20FieldAlign_%20uint8;%20Kind_%20abi.Kind;%20Equal%20func(unsafe.Pointer,%20unsafe.Pointer)%20bool;%20GCData%20*uint8;%20Str%20abi.NameOff;%20PtrToThis%20abi.TypeOff%20}
instance : RowC Try.prog 181 11 := ⟨⟨_, Try.underlying181, rfl⟩, by kernel_rfl⟩
instance : ZeroC Try.prog 181 ([.int .u64 0, .int .u64 0, .int .u32 0, .int .u8 0, .int .u8 0, .int .u8 0, .int .u8 0, .nilFunc, .pointer none, .int .i32 0, .int .i32 0]) := ⟨⟨.agg ([.int .u64 0, .int .u64 0, .int .u32 0, .int .u8 0, .int .u8 0, .int .u8 0, .int .u8 0, .nilFunc, .pointer none, .int .i32 0, .int .i32 0]).toArray, by kernel_rfl, by kernel_rfl⟩⟩
instance : FldC Try.prog 181 0 0 := ⟨⟨_, _, Try.underlying181, rfl, rfl, 0, by kernel_rfl⟩⟩
instance : FldV Try.prog 181 0 0 1 true := ⟨⟨_, _, _, Try.underlying181, rfl, rfl, by kernel_rfl, Try.underlying12, rfl⟩⟩
instance : FldC Try.prog 181 1 1 := ⟨⟨_, _, Try.underlying181, rfl, rfl, 0, by kernel_rfl⟩⟩
instance : FldV Try.prog 181 1 1 1 true := ⟨⟨_, _, _, Try.underlying181, rfl, rfl, by kernel_rfl, Try.underlying12, rfl⟩⟩
instance : FldC Try.prog 181 2 2 := ⟨⟨_, _, Try.underlying181, rfl, rfl, 0, by kernel_rfl⟩⟩
instance : FldV Try.prog 181 2 2 1 true := ⟨⟨_, _, _, Try.underlying181, rfl, rfl, by kernel_rfl, Try.underlying159, rfl⟩⟩
instance : FldC Try.prog 181 3 3 := ⟨⟨_, _, Try.underlying181, rfl, rfl, 0, by kernel_rfl⟩⟩
instance : FldV Try.prog 181 3 3 1 true := ⟨⟨_, _, _, Try.underlying181, rfl, rfl, by kernel_rfl, Try.underlying175, rfl⟩⟩
instance : FldC Try.prog 181 4 4 := ⟨⟨_, _, Try.underlying181, rfl, rfl, 0, by kernel_rfl⟩⟩
instance : FldV Try.prog 181 4 4 1 true := ⟨⟨_, _, _, Try.underlying181, rfl, rfl, by kernel_rfl, Try.underlying5, rfl⟩⟩
instance : FldC Try.prog 181 5 5 := ⟨⟨_, _, Try.underlying181, rfl, rfl, 0, by kernel_rfl⟩⟩
instance : FldV Try.prog 181 5 5 1 true := ⟨⟨_, _, _, Try.underlying181, rfl, rfl, by kernel_rfl, Try.underlying5, rfl⟩⟩
instance : FldC Try.prog 181 6 6 := ⟨⟨_, _, Try.underlying181, rfl, rfl, 0, by kernel_rfl⟩⟩
instance : FldV Try.prog 181 6 6 1 true := ⟨⟨_, _, _, Try.underlying181, rfl, rfl, by kernel_rfl, Try.underlying176, rfl⟩⟩
instance : FldC Try.prog 181 7 7 := ⟨⟨_, _, Try.underlying181, rfl, rfl, 0, by kernel_rfl⟩⟩
instance : FldV Try.prog 181 7 7 1 true := ⟨⟨_, _, _, Try.underlying181, rfl, rfl, by kernel_rfl, Try.underlying177, rfl⟩⟩
instance : FldC Try.prog 181 8 8 := ⟨⟨_, _, Try.underlying181, rfl, rfl, 0, by kernel_rfl⟩⟩
instance : FldV Try.prog 181 8 8 1 true := ⟨⟨_, _, _, Try.underlying181, rfl, rfl, by kernel_rfl, Try.underlying178, rfl⟩⟩
instance : FldC Try.prog 181 9 9 := ⟨⟨_, _, Try.underlying181, rfl, rfl, 0, by kernel_rfl⟩⟩
instance : FldV Try.prog 181 9 9 1 true := ⟨⟨_, _, _, Try.underlying181, rfl, rfl, by kernel_rfl, Try.underlying179, rfl⟩⟩
instance : FldC Try.prog 181 10 10 := ⟨⟨_, _, Try.underlying181, rfl, rfl, 0, by kernel_rfl⟩⟩
instance : FldV Try.prog 181 10 10 1 true := ⟨⟨_, _, _, Try.underlying181, rfl, rfl, by kernel_rfl, Try.underlying180, rfl⟩⟩
instance : FunC Try.prog 3 := ⟨⟨_, _, Try.func3, by kernel_rfl, rfl⟩⟩  -- nacelle/nacellelaw05.DiskSizes
instance : FunC Try.prog 4 := ⟨⟨_, _, Try.func4, by kernel_rfl, rfl⟩⟩  -- nacelle/nacellelaw05.DiskArmed
instance : FunC Try.prog 5 := ⟨⟨_, _, Try.func5, by kernel_rfl, rfl⟩⟩  -- nacelle/nacellelaw05.DiskFlushes
instance : FunC Try.prog 6 := ⟨⟨_, _, Try.func6, by kernel_rfl, rfl⟩⟩  -- nacelle/nacellelaw06.ExtentApart
instance : FunC Try.prog 7 := ⟨⟨_, _, Try.func7, by kernel_rfl, rfl⟩⟩  -- nacelle/nacelletop.NacelleDisk
instance : FunC Try.prog 8 := ⟨⟨_, _, Try.func8, by kernel_rfl, rfl⟩⟩  -- nacelle/nacellelaw06.ExtentPlaces
instance : FunC Try.prog 9 := ⟨⟨_, _, Try.func9, by kernel_rfl, rfl⟩⟩  -- nacelle/nacellelaw06.ExtentConfined
instance : FunC Try.prog 10 := ⟨⟨_, _, Try.func10, by kernel_rfl, rfl⟩⟩  -- nacelle/nacellelaw06.ExtentNested
instance : FunC Try.prog 11 := ⟨⟨_, _, Try.func11, by kernel_rfl, rfl⟩⟩  -- nacelle/nacellelaw06.ExtentPlays
instance : FunC Try.prog 12 := ⟨⟨_, _, Try.func12, by kernel_rfl, rfl⟩⟩  -- nacelle/disk.New
instance : FunC Try.prog 13 := ⟨⟨_, _, Try.func13, by kernel_rfl, rfl⟩⟩  -- nacelle/nacellelaw05.awake
instance : FunC Try.prog 14 := ⟨⟨_, _, Try.func14, by kernel_rfl, rfl⟩⟩  -- (*nacelle/disk.Disk).Has
instance : FunC Try.prog 15 := ⟨⟨_, _, Try.func15, by kernel_rfl, rfl⟩⟩  -- (*nacelle/disk.Disk).Size
instance : FunC Try.prog 16 := ⟨⟨_, _, Try.func16, by kernel_rfl, rfl⟩⟩  -- (*nacelle/disk.Disk).On
instance : FunC Try.prog 17 := ⟨⟨_, _, Try.func17, by kernel_rfl, rfl⟩⟩  -- (*nacelle/disk.Disk).Image
instance : FunC Try.prog 18 := ⟨⟨_, _, Try.func18, by kernel_rfl, rfl⟩⟩  -- nacelle/nacelleref05.Noughts
instance : FunC Try.prog 19 := ⟨⟨_, _, Try.func19, by kernel_rfl, rfl⟩⟩  -- (*nacelle/disk.Disk).Arm
instance : FunC Try.prog 20 := ⟨⟨_, _, Try.func20, by kernel_rfl, rfl⟩⟩  -- (*nacelle/disk.Disk).Crash
instance : FunC Try.prog 21 := ⟨⟨_, _, Try.func21, by kernel_rfl, rfl⟩⟩  -- (*nacelle/disk.Disk).Flush
instance : FunC Try.prog 22 := ⟨⟨_, _, Try.func22, by kernel_rfl, rfl⟩⟩  -- (*nacelle/disk.Disk).Write
instance : FunC Try.prog 23 := ⟨⟨_, _, Try.func23, by kernel_rfl, rfl⟩⟩  -- nacelle/nacellelaw05.Sector
instance : FunC Try.prog 24 := ⟨⟨_, _, Try.func24, by kernel_rfl, rfl⟩⟩  -- nacelle/nacellelaw05.played
instance : FunC Try.prog 25 := ⟨⟨_, _, Try.func25, by kernel_rfl, rfl⟩⟩  -- (*nacelle/disk.Disk).Read
instance : FunC Try.prog 26 := ⟨⟨_, _, Try.func26, by kernel_rfl, rfl⟩⟩  -- (*nacelle/disk.Disk).Waiting
instance : FunC Try.prog 27 := ⟨⟨_, _, Try.func27, by kernel_rfl, rfl⟩⟩  -- nacelle/extent.Apart
instance : FunC Try.prog 28 := ⟨⟨_, _, Try.func28, by kernel_rfl, rfl⟩⟩  -- nacelle/nacelleref06.Apart
instance : FunC Try.prog 29 := ⟨⟨_, _, Try.func29, by kernel_rfl, rfl⟩⟩  -- nacelle/nacellelaw06.awake
instance : FunC Try.prog 30 := ⟨⟨_, _, Try.func30, by kernel_rfl, rfl⟩⟩  -- nacelle/iosched.New
instance : FunC Try.prog 31 := ⟨⟨_, _, Try.func31, by kernel_rfl, rfl⟩⟩  -- (*nacelle/iosched.Schedule).Ask
instance : FunC Try.prog 32 := ⟨⟨_, _, Try.func32, by kernel_rfl, rfl⟩⟩  -- nacelle/nacellelaw15.Request
instance : FunC Try.prog 33 := ⟨⟨_, _, Try.func33, by kernel_rfl, rfl⟩⟩  -- (*nacelle/iosched.Schedule).Slot
instance : FunC Try.prog 34 := ⟨⟨_, _, Try.func34, by kernel_rfl, rfl⟩⟩  -- nacelle/extent.Place
instance : FunC Try.prog 35 := ⟨⟨_, _, Try.func35, by kernel_rfl, rfl⟩⟩  -- nacelle/extent.Lies
instance : FunC Try.prog 36 := ⟨⟨_, _, Try.func36, by kernel_rfl, rfl⟩⟩  -- nacelle/extent.New
instance : FunC Try.prog 37 := ⟨⟨_, _, Try.func37, by kernel_rfl, rfl⟩⟩  -- (*nacelle/extent.Part).Write
instance : FunC Try.prog 38 := ⟨⟨_, _, Try.func38, by kernel_rfl, rfl⟩⟩  -- (*nacelle/extent.Part).Read
instance : FunC Try.prog 39 := ⟨⟨_, _, Try.func39, by kernel_rfl, rfl⟩⟩  -- (*nacelle/extent.Part).Part
instance : FunC Try.prog 40 := ⟨⟨_, _, Try.func40, by kernel_rfl, rfl⟩⟩  -- (*nacelle/extent.Part).Size
instance : FunC Try.prog 41 := ⟨⟨_, _, Try.func41, by kernel_rfl, rfl⟩⟩  -- (*nacelle/extent.Part).Flush
instance : FunC Try.prog 42 := ⟨⟨_, _, Try.func42, by kernel_rfl, rfl⟩⟩  -- (*nacelle/extent.Part).Image
instance : FunC Try.prog 43 := ⟨⟨_, _, Try.func43, by kernel_rfl, rfl⟩⟩  -- nacelle/nacelleref05.New
instance : FunC Try.prog 44 := ⟨⟨_, _, Try.func44, by kernel_rfl, rfl⟩⟩  -- nacelle/nacelleref06.Lies
instance : FunC Try.prog 45 := ⟨⟨_, _, Try.func45, by kernel_rfl, rfl⟩⟩  -- nacelle/nacelleref06.Place
instance : FunC Try.prog 46 := ⟨⟨_, _, Try.func46, by kernel_rfl, rfl⟩⟩  -- (nacelle/nacelleref05.Disk).Write
instance : FunC Try.prog 47 := ⟨⟨_, _, Try.func47, by kernel_rfl, rfl⟩⟩  -- (nacelle/nacelleref05.Disk).Read
instance : FunC Try.prog 48 := ⟨⟨_, _, Try.func48, by kernel_rfl, rfl⟩⟩  -- (nacelle/nacelleref05.Disk).Flush
instance : FunC Try.prog 49 := ⟨⟨_, _, Try.func49, by kernel_rfl, rfl⟩⟩  -- (nacelle/nacelleref05.Disk).Image
instance : FunC Try.prog 50 := ⟨⟨_, _, Try.func50, by kernel_rfl, rfl⟩⟩  -- (nacelle/nacelleref05.Disk).Crash
instance : FunC Try.prog 51 := ⟨⟨_, _, Try.func51, by kernel_rfl, rfl⟩⟩  -- (*nacelle/disk.Disk).Power
instance : FunC Try.prog 52 := ⟨⟨_, _, Try.func52, by kernel_rfl, rfl⟩⟩  -- (nacelle/nacelleref05.Disk).Power
instance : FunC Try.prog 53 := ⟨⟨_, _, Try.func53, by kernel_rfl, rfl⟩⟩  -- (*nacelle/disk.Disk).has
instance : FunC Try.prog 54 := ⟨⟨_, _, Try.func54, by kernel_rfl, rfl⟩⟩  -- (*nacelle/disk.Disk).disarm
instance : FunC Try.prog 55 := ⟨⟨_, _, Try.func55, by kernel_rfl, rfl⟩⟩  -- slices.Clone[[]bool,bool]
instance : FunC Try.prog 56 := ⟨⟨_, _, Try.func56, by kernel_rfl, rfl⟩⟩  -- (*nacelle/disk.Disk).powered
instance : FunC Try.prog 57 := ⟨⟨_, _, Try.func57, by kernel_rfl, rfl⟩⟩  -- nacelle/nacellelaw05.Do
instance : FunC Try.prog 58 := ⟨⟨_, _, Try.func58, by kernel_rfl, rfl⟩⟩  -- slices.SortFunc[[]nacelle/extent.Extent,nacelle/extent.Extent]
instance : FunC Try.prog 59 := ⟨⟨_, _, Try.func59, by kernel_rfl, rfl⟩⟩  -- nacelle/extent.Apart$1
instance : FunC Try.prog 60 := ⟨⟨_, _, Try.func60, by kernel_rfl, rfl⟩⟩  -- cmp.Compare[int]
instance : FunC Try.prog 61 := ⟨⟨_, _, Try.func61, by kernel_rfl, rfl⟩⟩  -- nacelle/nacelleref06.Meet
instance : FunC Try.prog 62 := ⟨⟨_, _, Try.func62, by kernel_rfl, rfl⟩⟩  -- slices.Clone[[]int,int]
instance : FunC Try.prog 63 := ⟨⟨_, _, Try.func63, by kernel_rfl, rfl⟩⟩  -- (*nacelle/iosched.Schedule).isPart
instance : FunC Try.prog 64 := ⟨⟨_, _, Try.func64, by kernel_rfl, rfl⟩⟩  -- nacelle/iosched.formed
instance : FunC Try.prog 65 := ⟨⟨_, _, Try.func65, by kernel_rfl, rfl⟩⟩  -- slices.Clone[[]byte,byte]
instance : FunC Try.prog 66 := ⟨⟨_, _, Try.func66, by kernel_rfl, rfl⟩⟩  -- (*nacelle/iosched.ring[nacelle/iosched.asked]).push
instance : FunC Try.prog 67 := ⟨⟨_, _, Try.func67, by kernel_rfl, rfl⟩⟩  -- (*nacelle/iosched.ring[nacelle/iosched.asked]).pop
instance : FunC Try.prog 68 := ⟨⟨_, _, Try.func68, by kernel_rfl, rfl⟩⟩  -- (nacelle/nacelleref05.Disk).step
instance : FunC Try.prog 69 := ⟨⟨_, _, Try.func69, by kernel_rfl, rfl⟩⟩  -- (nacelle/nacelleref05.Disk).laid
instance : FunC Try.prog 70 := ⟨⟨_, _, Try.func70, by kernel_rfl, rfl⟩⟩  -- (nacelle/nacelleref05.Disk).Arm
instance : FunC Try.prog 71 := ⟨⟨_, _, Try.func71, by kernel_rfl, rfl⟩⟩  -- (nacelle/nacelleref05.Disk).Load
instance : FunC Try.prog 72 := ⟨⟨_, _, Try.func72, by kernel_rfl, rfl⟩⟩  -- (*nacelle/disk.Disk).Load
instance : FunC Try.prog 73 := ⟨⟨_, _, Try.func73, by kernel_rfl, rfl⟩⟩  -- slices.pdqsortCmpFunc[nacelle/extent.Extent]
instance : FunC Try.prog 75 := ⟨⟨_, _, Try.func75, by kernel_rfl, rfl⟩⟩  -- cmp.isNaN[int]
instance : FunC Try.prog 76 := ⟨⟨_, _, Try.func76, by kernel_rfl, rfl⟩⟩  -- nacelle/nacelleref05.with
instance : FunC Try.prog 77 := ⟨⟨_, _, Try.func77, by kernel_rfl, rfl⟩⟩  -- slices.insertionSortCmpFunc[nacelle/extent.Extent]
instance : FunC Try.prog 78 := ⟨⟨_, _, Try.func78, by kernel_rfl, rfl⟩⟩  -- slices.heapSortCmpFunc[nacelle/extent.Extent]
instance : FunC Try.prog 79 := ⟨⟨_, _, Try.func79, by kernel_rfl, rfl⟩⟩  -- slices.breakPatternsCmpFunc[nacelle/extent.Extent]
instance : FunC Try.prog 80 := ⟨⟨_, _, Try.func80, by kernel_rfl, rfl⟩⟩  -- slices.choosePivotCmpFunc[nacelle/extent.Extent]
instance : FunC Try.prog 81 := ⟨⟨_, _, Try.func81, by kernel_rfl, rfl⟩⟩  -- slices.reverseRangeCmpFunc[nacelle/extent.Extent]
instance : FunC Try.prog 82 := ⟨⟨_, _, Try.func82, by kernel_rfl, rfl⟩⟩  -- slices.partialInsertionSortCmpFunc[nacelle/extent.Extent]
instance : FunC Try.prog 83 := ⟨⟨_, _, Try.func83, by kernel_rfl, rfl⟩⟩  -- slices.partitionEqualCmpFunc[nacelle/extent.Extent]
instance : FunC Try.prog 84 := ⟨⟨_, _, Try.func84, by kernel_rfl, rfl⟩⟩  -- slices.partitionCmpFunc[nacelle/extent.Extent]
instance : FunC Try.prog 87 := ⟨⟨_, _, Try.func87, by kernel_rfl, rfl⟩⟩  -- slices.siftDownCmpFunc[nacelle/extent.Extent]
instance : FunC Try.prog 88 := ⟨⟨_, _, Try.func88, by kernel_rfl, rfl⟩⟩  -- slices.nextPowerOfTwo
instance : FunC Try.prog 90 := ⟨⟨_, _, Try.func90, by kernel_rfl, rfl⟩⟩  -- slices.medianAdjacentCmpFunc[nacelle/extent.Extent]
instance : FunC Try.prog 91 := ⟨⟨_, _, Try.func91, by kernel_rfl, rfl⟩⟩  -- slices.medianCmpFunc[nacelle/extent.Extent]
instance : FunC Try.prog 92 := ⟨⟨_, _, Try.func92, by kernel_rfl, rfl⟩⟩  -- slices.order2CmpFunc[nacelle/extent.Extent]
end Go.Proofs.Yteoopnhogfjeaaa

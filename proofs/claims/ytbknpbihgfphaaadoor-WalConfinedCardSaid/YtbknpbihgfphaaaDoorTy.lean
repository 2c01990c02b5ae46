/- The types of the program, as instances; by types.py. -/
import Derived.Test.YtbknpbihgfphaaaDoorRows
import Derived.Test.YtbknpbihgfphaaaDoorK3
set_option linter.unusedSimpArgs false
namespace Go.Proofs.YtbknpbihgfphaaaDoor
open Go Go.RowKit Go.Own
-- 1 func()
instance : OneC Tryd.prog 1 := ⟨⟨_, Tryd.underlying1, rfl⟩, by kernel_rfl⟩
instance : ZeroC Tryd.prog 1 ([.nilFunc]) := ⟨⟨.nilFunc, by kernel_rfl, by kernel_rfl⟩⟩
-- 2 int64
instance : OneC Tryd.prog 2 := ⟨⟨_, Tryd.underlying2, rfl⟩, by kernel_rfl⟩
instance : ZeroC Tryd.prog 2 ([.int .i64 0]) := ⟨⟨.int .i64 0, by kernel_rfl, by kernel_rfl⟩⟩
instance : IntC Tryd.prog 2 .i64 := ⟨Tryd.underlying2⟩
-- 3 int
instance : OneC Tryd.prog 3 := ⟨⟨_, Tryd.underlying3, rfl⟩, by kernel_rfl⟩
instance : ZeroC Tryd.prog 3 ([.int .i64 0]) := ⟨⟨.int .i64 0, by kernel_rfl, by kernel_rfl⟩⟩
instance : IntC Tryd.prog 3 .i64 := ⟨Tryd.underlying3⟩
-- 4 bool
instance : OneC Tryd.prog 4 := ⟨⟨_, Tryd.underlying4, rfl⟩, by kernel_rfl⟩
instance : ZeroC Tryd.prog 4 ([.bool false]) := ⟨⟨.bool false, by kernel_rfl, by kernel_rfl⟩⟩
instance : BoolC Tryd.prog 4 := ⟨Tryd.underlying4⟩
-- 5 uint8
instance : OneC Tryd.prog 5 := ⟨⟨_, Tryd.underlying5, rfl⟩, by kernel_rfl⟩
instance : ZeroC Tryd.prog 5 ([.int .u8 0]) := ⟨⟨.int .u8 0, by kernel_rfl, by kernel_rfl⟩⟩
instance : IntC Tryd.prog 5 .u8 := ⟨Tryd.underlying5⟩
-- 6 abi.BoundsErrorCode
instance : OneC Tryd.prog 6 := ⟨⟨_, Tryd.underlying6, rfl⟩, by kernel_rfl⟩
instance : ZeroC Tryd.prog 6 ([.int .u8 0]) := ⟨⟨.int .u8 0, by kernel_rfl, by kernel_rfl⟩⟩
instance : IntC Tryd.prog 6 .u8 := ⟨Tryd.underlying6⟩
-- 7 struct%20{%20x%20int64;%20y%20int;%20signed%20bool;%20code%20abi.BoundsErrorCode%20}
instance : RowC Tryd.prog 7 4 := ⟨⟨_, Tryd.underlying7, rfl⟩, by kernel_rfl⟩
instance : ZeroC Tryd.prog 7 ([.int .i64 0, .int .i64 0, .bool false, .int .u8 0]) := ⟨⟨.agg ([.int .i64 0, .int .i64 0, .bool false, .int .u8 0]).toArray, by kernel_rfl, by kernel_rfl⟩⟩
instance : FldC Tryd.prog 7 0 0 := ⟨⟨_, _, Tryd.underlying7, rfl, rfl, 0, by kernel_rfl⟩⟩
instance : FldV Tryd.prog 7 0 0 1 true := ⟨⟨_, _, _, Tryd.underlying7, rfl, rfl, by kernel_rfl, Tryd.underlying2, rfl⟩⟩
instance : FldC Tryd.prog 7 1 1 := ⟨⟨_, _, Tryd.underlying7, rfl, rfl, 0, by kernel_rfl⟩⟩
instance : FldV Tryd.prog 7 1 1 1 true := ⟨⟨_, _, _, Tryd.underlying7, rfl, rfl, by kernel_rfl, Tryd.underlying3, rfl⟩⟩
instance : FldC Tryd.prog 7 2 2 := ⟨⟨_, _, Tryd.underlying7, rfl, rfl, 0, by kernel_rfl⟩⟩
instance : FldV Tryd.prog 7 2 2 1 true := ⟨⟨_, _, _, Tryd.underlying7, rfl, rfl, by kernel_rfl, Tryd.underlying4, rfl⟩⟩
instance : FldC Tryd.prog 7 3 3 := ⟨⟨_, _, Tryd.underlying7, rfl, rfl, 0, by kernel_rfl⟩⟩
instance : FldV Tryd.prog 7 3 3 1 true := ⟨⟨_, _, _, Tryd.underlying7, rfl, rfl, by kernel_rfl, Tryd.underlying6, rfl⟩⟩
-- 9 string
instance : OneC Tryd.prog 9 := ⟨⟨_, Tryd.underlying9, rfl⟩, by kernel_rfl⟩
instance : ZeroC Tryd.prog 9 ([.string ⟨#[]⟩]) := ⟨⟨.string ⟨#[]⟩, by kernel_rfl, by kernel_rfl⟩⟩
instance : StrC Tryd.prog 9 := ⟨Tryd.underlying9⟩
-- 10 runtime.errorString
instance : OneC Tryd.prog 10 := ⟨⟨_, Tryd.underlying10, rfl⟩, by kernel_rfl⟩
instance : ZeroC Tryd.prog 10 ([.string ⟨#[]⟩]) := ⟨⟨.string ⟨#[]⟩, by kernel_rfl, by kernel_rfl⟩⟩
instance : StrC Tryd.prog 10 := ⟨Tryd.underlying10⟩
-- 11 runtime.plainError
instance : OneC Tryd.prog 11 := ⟨⟨_, Tryd.underlying11, rfl⟩, by kernel_rfl⟩
instance : ZeroC Tryd.prog 11 ([.string ⟨#[]⟩]) := ⟨⟨.string ⟨#[]⟩, by kernel_rfl, by kernel_rfl⟩⟩
instance : StrC Tryd.prog 11 := ⟨Tryd.underlying11⟩
-- 12 uintptr
instance : OneC Tryd.prog 12 := ⟨⟨_, Tryd.underlying12, rfl⟩, by kernel_rfl⟩
instance : ZeroC Tryd.prog 12 ([.int .u64 0]) := ⟨⟨.int .u64 0, by kernel_rfl, by kernel_rfl⟩⟩
instance : IntC Tryd.prog 12 .u64 := ⟨Tryd.underlying12⟩
-- 13 struct%20{%20msg%20string;%20addr%20uintptr%20}
instance : RowC Tryd.prog 13 2 := ⟨⟨_, Tryd.underlying13, rfl⟩, by kernel_rfl⟩
instance : ZeroC Tryd.prog 13 ([.string ⟨#[]⟩, .int .u64 0]) := ⟨⟨.agg ([.string ⟨#[]⟩, .int .u64 0]).toArray, by kernel_rfl, by kernel_rfl⟩⟩
instance : FldC Tryd.prog 13 0 0 := ⟨⟨_, _, Tryd.underlying13, rfl, rfl, 0, by kernel_rfl⟩⟩
instance : FldV Tryd.prog 13 0 0 1 true := ⟨⟨_, _, _, Tryd.underlying13, rfl, rfl, by kernel_rfl, Tryd.underlying9, rfl⟩⟩
instance : FldC Tryd.prog 13 1 1 := ⟨⟨_, _, Tryd.underlying13, rfl, rfl, 0, by kernel_rfl⟩⟩
instance : FldV Tryd.prog 13 1 1 1 true := ⟨⟨_, _, _, Tryd.underlying13, rfl, rfl, by kernel_rfl, Tryd.underlying12, rfl⟩⟩
-- 15 *runtime.TypeAssertionError
instance : OneC Tryd.prog 15 := ⟨⟨_, Tryd.underlying15, rfl⟩, by kernel_rfl⟩
instance : ZeroC Tryd.prog 15 ([.pointer none]) := ⟨⟨.pointer none, by kernel_rfl, by kernel_rfl⟩⟩
instance : PtrC Tryd.prog 15 200 := ⟨Tryd.underlying15⟩
-- 16 *runtime.PanicNilError
instance : OneC Tryd.prog 16 := ⟨⟨_, Tryd.underlying16, rfl⟩, by kernel_rfl⟩
instance : ZeroC Tryd.prog 16 ([.pointer none]) := ⟨⟨.pointer none, by kernel_rfl, by kernel_rfl⟩⟩
instance : PtrC Tryd.prog 16 203 := ⟨Tryd.underlying16⟩
-- 17 *abi.Type
instance : OneC Tryd.prog 17 := ⟨⟨_, Tryd.underlying17, rfl⟩, by kernel_rfl⟩
instance : ZeroC Tryd.prog 17 ([.pointer none]) := ⟨⟨.pointer none, by kernel_rfl, by kernel_rfl⟩⟩
instance : PtrC Tryd.prog 17 211 := ⟨Tryd.underlying17⟩
-- 18 struct%20{%20typ%20*abi.Type%20}
instance : RowC Tryd.prog 18 1 := ⟨⟨_, Tryd.underlying18, rfl⟩, by kernel_rfl⟩
instance : ZeroC Tryd.prog 18 ([.pointer none]) := ⟨⟨.agg ([.pointer none]).toArray, by kernel_rfl, by kernel_rfl⟩⟩
instance : FldC Tryd.prog 18 0 0 := ⟨⟨_, _, Tryd.underlying18, rfl, rfl, 0, by kernel_rfl⟩⟩
instance : FldV Tryd.prog 18 0 0 1 true := ⟨⟨_, _, _, Tryd.underlying18, rfl, rfl, by kernel_rfl, Tryd.underlying17, rfl⟩⟩
-- 20 interface%20{}
instance : OneC Tryd.prog 20 := ⟨⟨_, Tryd.underlying20, rfl⟩, by kernel_rfl⟩
instance : ZeroC Tryd.prog 20 ([.nilIface]) := ⟨⟨.nilIface, by kernel_rfl, by kernel_rfl⟩⟩
-- 21 int32
instance : OneC Tryd.prog 21 := ⟨⟨_, Tryd.underlying21, rfl⟩, by kernel_rfl⟩
instance : ZeroC Tryd.prog 21 ([.int .i32 0]) := ⟨⟨.int .i32 0, by kernel_rfl, by kernel_rfl⟩⟩
instance : IntC Tryd.prog 21 .i32 := ⟨Tryd.underlying21⟩
-- 22 []api.Entry
instance : OneC Tryd.prog 22 := ⟨⟨_, Tryd.underlying22, rfl⟩, by kernel_rfl⟩
instance : ZeroC Tryd.prog 22 ([.slice none 0 0]) := ⟨⟨.slice none 0 0, by kernel_rfl, by kernel_rfl⟩⟩
instance : ElC Tryd.prog 22 34 4 32 ([.int .i64 0, .int .i64 0, .int .u32 0, .int .i64 0]) := ⟨⟨.agg ([.int .i64 0, .int .i64 0, .int .u32 0, .int .i64 0]).toArray, elT Tryd.underlying22 (by kernel_rfl) (by kernel_rfl) (by decide), by kernel_rfl⟩⟩
-- 23 *disk.Disk
instance : OneC Tryd.prog 23 := ⟨⟨_, Tryd.underlying23, rfl⟩, by kernel_rfl⟩
instance : ZeroC Tryd.prog 23 ([.pointer none]) := ⟨⟨.pointer none, by kernel_rfl, by kernel_rfl⟩⟩
instance : PtrC Tryd.prog 23 123 := ⟨Tryd.underlying23⟩
-- 24 *extent.Part
instance : OneC Tryd.prog 24 := ⟨⟨_, Tryd.underlying24, rfl⟩, by kernel_rfl⟩
instance : ZeroC Tryd.prog 24 ([.pointer none]) := ⟨⟨.pointer none, by kernel_rfl, by kernel_rfl⟩⟩
instance : PtrC Tryd.prog 24 150 := ⟨Tryd.underlying24⟩
-- 26 func(int)%20(*disk.Disk,%20*extent.Part,%20bool)
instance : OneC Tryd.prog 26 := ⟨⟨_, Tryd.underlying26, rfl⟩, by kernel_rfl⟩
instance : ZeroC Tryd.prog 26 ([.nilFunc]) := ⟨⟨.nilFunc, by kernel_rfl, by kernel_rfl⟩⟩
-- 27 *audit.Log
instance : OneC Tryd.prog 27 := ⟨⟨_, Tryd.underlying27, rfl⟩, by kernel_rfl⟩
instance : ZeroC Tryd.prog 27 ([.pointer none]) := ⟨⟨.pointer none, by kernel_rfl, by kernel_rfl⟩⟩
instance : PtrC Tryd.prog 27 112 := ⟨Tryd.underlying27⟩
-- 28 api.Errno
instance : OneC Tryd.prog 28 := ⟨⟨_, Tryd.underlying28, rfl⟩, by kernel_rfl⟩
instance : ZeroC Tryd.prog 28 ([.int .i64 0]) := ⟨⟨.int .i64 0, by kernel_rfl, by kernel_rfl⟩⟩
instance : IntC Tryd.prog 28 .i64 := ⟨Tryd.underlying28⟩
-- 30 func(*extent.Part)%20(*audit.Log,%20api.Errno)
instance : OneC Tryd.prog 30 := ⟨⟨_, Tryd.underlying30, rfl⟩, by kernel_rfl⟩
instance : ZeroC Tryd.prog 30 ([.nilFunc]) := ⟨⟨.nilFunc, by kernel_rfl, by kernel_rfl⟩⟩
-- 31 func(api.Entry)%20api.Errno
instance : OneC Tryd.prog 31 := ⟨⟨_, Tryd.underlying31, rfl⟩, by kernel_rfl⟩
instance : ZeroC Tryd.prog 31 ([.nilFunc]) := ⟨⟨.nilFunc, by kernel_rfl, by kernel_rfl⟩⟩
-- 32 uint32
instance : OneC Tryd.prog 32 := ⟨⟨_, Tryd.underlying32, rfl⟩, by kernel_rfl⟩
instance : ZeroC Tryd.prog 32 ([.int .u32 0]) := ⟨⟨.int .u32 0, by kernel_rfl, by kernel_rfl⟩⟩
instance : IntC Tryd.prog 32 .u32 := ⟨Tryd.underlying32⟩
-- 33 struct%20{%20Kind%20int;%20Part%20int;%20Version%20uint32;%20Code%20int%20}
instance : RowC Tryd.prog 33 4 := ⟨⟨_, Tryd.underlying33, rfl⟩, by kernel_rfl⟩
instance : ZeroC Tryd.prog 33 ([.int .i64 0, .int .i64 0, .int .u32 0, .int .i64 0]) := ⟨⟨.agg ([.int .i64 0, .int .i64 0, .int .u32 0, .int .i64 0]).toArray, by kernel_rfl, by kernel_rfl⟩⟩
instance : FldC Tryd.prog 33 0 0 := ⟨⟨_, _, Tryd.underlying33, rfl, rfl, 0, by kernel_rfl⟩⟩
instance : FldV Tryd.prog 33 0 0 1 true := ⟨⟨_, _, _, Tryd.underlying33, rfl, rfl, by kernel_rfl, Tryd.underlying3, rfl⟩⟩
instance : FldC Tryd.prog 33 1 1 := ⟨⟨_, _, Tryd.underlying33, rfl, rfl, 0, by kernel_rfl⟩⟩
instance : FldV Tryd.prog 33 1 1 1 true := ⟨⟨_, _, _, Tryd.underlying33, rfl, rfl, by kernel_rfl, Tryd.underlying3, rfl⟩⟩
instance : FldC Tryd.prog 33 2 2 := ⟨⟨_, _, Tryd.underlying33, rfl, rfl, 0, by kernel_rfl⟩⟩
instance : FldV Tryd.prog 33 2 2 1 true := ⟨⟨_, _, _, Tryd.underlying33, rfl, rfl, by kernel_rfl, Tryd.underlying32, rfl⟩⟩
instance : FldC Tryd.prog 33 3 3 := ⟨⟨_, _, Tryd.underlying33, rfl, rfl, 0, by kernel_rfl⟩⟩
instance : FldV Tryd.prog 33 3 3 1 true := ⟨⟨_, _, _, Tryd.underlying33, rfl, rfl, by kernel_rfl, Tryd.underlying3, rfl⟩⟩
-- 35 func(api.Entry)%20bool
instance : OneC Tryd.prog 35 := ⟨⟨_, Tryd.underlying35, rfl⟩, by kernel_rfl⟩
instance : ZeroC Tryd.prog 35 ([.nilFunc]) := ⟨⟨.nilFunc, by kernel_rfl, by kernel_rfl⟩⟩
-- 36 func()%20[]api.Entry
instance : OneC Tryd.prog 36 := ⟨⟨_, Tryd.underlying36, rfl⟩, by kernel_rfl⟩
instance : ZeroC Tryd.prog 36 ([.nilFunc]) := ⟨⟨.nilFunc, by kernel_rfl, by kernel_rfl⟩⟩
-- 37 []uint8
instance : OneC Tryd.prog 37 := ⟨⟨_, Tryd.underlying37, rfl⟩, by kernel_rfl⟩
instance : ZeroC Tryd.prog 37 ([.slice none 0 0]) := ⟨⟨.slice none 0 0, by kernel_rfl, by kernel_rfl⟩⟩
instance : ElC Tryd.prog 37 5 1 1 ([.int .u8 0]) := ⟨⟨.int .u8 0, elT Tryd.underlying37 (by kernel_rfl) (by kernel_rfl) (by decide), by kernel_rfl⟩⟩
instance : BytesC Tryd.prog 37 := ⟨⟨_, Tryd.underlying37, Tryd.underlying5, by kernel_rfl⟩⟩
-- 39 func(int)%20([]uint8,%20api.Errno)
instance : OneC Tryd.prog 39 := ⟨⟨_, Tryd.underlying39, rfl⟩, by kernel_rfl⟩
instance : ZeroC Tryd.prog 39 ([.nilFunc]) := ⟨⟨.nilFunc, by kernel_rfl, by kernel_rfl⟩⟩
-- 40 func()%20string
instance : OneC Tryd.prog 40 := ⟨⟨_, Tryd.underlying40, rfl⟩, by kernel_rfl⟩
instance : ZeroC Tryd.prog 40 ([.nilFunc]) := ⟨⟨.nilFunc, by kernel_rfl, by kernel_rfl⟩⟩
-- 41 func()%20bool
instance : OneC Tryd.prog 41 := ⟨⟨_, Tryd.underlying41, rfl⟩, by kernel_rfl⟩
instance : ZeroC Tryd.prog 41 ([.nilFunc]) := ⟨⟨.nilFunc, by kernel_rfl, by kernel_rfl⟩⟩
-- 42 func([]api.Entry)%20bool
instance : OneC Tryd.prog 42 := ⟨⟨_, Tryd.underlying42, rfl⟩, by kernel_rfl⟩
instance : ZeroC Tryd.prog 42 ([.nilFunc]) := ⟨⟨.nilFunc, by kernel_rfl, by kernel_rfl⟩⟩
-- 43 []nacellelaw20.Act
instance : OneC Tryd.prog 43 := ⟨⟨_, Tryd.underlying43, rfl⟩, by kernel_rfl⟩
instance : ZeroC Tryd.prog 43 ([.slice none 0 0]) := ⟨⟨.slice none 0 0, by kernel_rfl, by kernel_rfl⟩⟩
instance : ElC Tryd.prog 43 46 7 72 ([.int .i64 0, .int .i64 0, .int .i64 0, .int .i64 0, .int .u32 0, .int .i64 0, .slice none 0 0]) := ⟨⟨.agg ([.int .i64 0, .int .i64 0, .int .i64 0, .int .i64 0, .int .u32 0, .int .i64 0, .slice none 0 0]).toArray, elT Tryd.underlying43 (by kernel_rfl) (by kernel_rfl) (by decide), by kernel_rfl⟩⟩
-- 44 []bool
instance : OneC Tryd.prog 44 := ⟨⟨_, Tryd.underlying44, rfl⟩, by kernel_rfl⟩
instance : ZeroC Tryd.prog 44 ([.slice none 0 0]) := ⟨⟨.slice none 0 0, by kernel_rfl, by kernel_rfl⟩⟩
instance : ElC Tryd.prog 44 4 1 1 ([.bool false]) := ⟨⟨.bool false, elT Tryd.underlying44 (by kernel_rfl) (by kernel_rfl) (by decide), by kernel_rfl⟩⟩
-- 45 struct%20{%20Do%20int;%20N%20int;%20Entry%20api.Entry;%20Keep%20[]bool%20}
instance : RowC Tryd.prog 45 7 := ⟨⟨_, Tryd.underlying45, rfl⟩, by kernel_rfl⟩
instance : ZeroC Tryd.prog 45 ([.int .i64 0, .int .i64 0, .int .i64 0, .int .i64 0, .int .u32 0, .int .i64 0, .slice none 0 0]) := ⟨⟨.agg ([.int .i64 0, .int .i64 0, .int .i64 0, .int .i64 0, .int .u32 0, .int .i64 0, .slice none 0 0]).toArray, by kernel_rfl, by kernel_rfl⟩⟩
instance : FldC Tryd.prog 45 0 0 := ⟨⟨_, _, Tryd.underlying45, rfl, rfl, 0, by kernel_rfl⟩⟩
instance : FldV Tryd.prog 45 0 0 1 true := ⟨⟨_, _, _, Tryd.underlying45, rfl, rfl, by kernel_rfl, Tryd.underlying3, rfl⟩⟩
instance : FldC Tryd.prog 45 1 1 := ⟨⟨_, _, Tryd.underlying45, rfl, rfl, 0, by kernel_rfl⟩⟩
instance : FldV Tryd.prog 45 1 1 1 true := ⟨⟨_, _, _, Tryd.underlying45, rfl, rfl, by kernel_rfl, Tryd.underlying3, rfl⟩⟩
instance : FldC Tryd.prog 45 2 2 := ⟨⟨_, _, Tryd.underlying45, rfl, rfl, 3, by kernel_rfl⟩⟩
instance : FldV Tryd.prog 45 2 2 4 false := ⟨⟨_, _, _, Tryd.underlying45, rfl, rfl, by kernel_rfl, Tryd.underlying34, rfl⟩⟩
instance : FldC Tryd.prog 45 3 6 := ⟨⟨_, _, Tryd.underlying45, rfl, rfl, 0, by kernel_rfl⟩⟩
instance : FldV Tryd.prog 45 3 6 1 true := ⟨⟨_, _, _, Tryd.underlying45, rfl, rfl, by kernel_rfl, Tryd.underlying44, rfl⟩⟩
-- 46 nacellelaw20.Act
instance : RowC Tryd.prog 46 7 := ⟨⟨_, Tryd.underlying46, rfl⟩, by kernel_rfl⟩
instance : ZeroC Tryd.prog 46 ([.int .i64 0, .int .i64 0, .int .i64 0, .int .i64 0, .int .u32 0, .int .i64 0, .slice none 0 0]) := ⟨⟨.agg ([.int .i64 0, .int .i64 0, .int .i64 0, .int .i64 0, .int .u32 0, .int .i64 0, .slice none 0 0]).toArray, by kernel_rfl, by kernel_rfl⟩⟩
instance : FldC Tryd.prog 46 0 0 := ⟨⟨_, _, Tryd.underlying46, rfl, rfl, 0, by kernel_rfl⟩⟩
instance : FldV Tryd.prog 46 0 0 1 true := ⟨⟨_, _, _, Tryd.underlying46, rfl, rfl, by kernel_rfl, Tryd.underlying3, rfl⟩⟩
instance : FldC Tryd.prog 46 1 1 := ⟨⟨_, _, Tryd.underlying46, rfl, rfl, 0, by kernel_rfl⟩⟩
instance : FldV Tryd.prog 46 1 1 1 true := ⟨⟨_, _, _, Tryd.underlying46, rfl, rfl, by kernel_rfl, Tryd.underlying3, rfl⟩⟩
instance : FldC Tryd.prog 46 2 2 := ⟨⟨_, _, Tryd.underlying46, rfl, rfl, 3, by kernel_rfl⟩⟩
instance : FldV Tryd.prog 46 2 2 4 false := ⟨⟨_, _, _, Tryd.underlying46, rfl, rfl, by kernel_rfl, Tryd.underlying34, rfl⟩⟩
instance : FldC Tryd.prog 46 3 6 := ⟨⟨_, _, Tryd.underlying46, rfl, rfl, 0, by kernel_rfl⟩⟩
instance : FldV Tryd.prog 46 3 6 1 true := ⟨⟨_, _, _, Tryd.underlying46, rfl, rfl, by kernel_rfl, Tryd.underlying44, rfl⟩⟩
-- 47 func(int,%20[]bool)
instance : OneC Tryd.prog 47 := ⟨⟨_, Tryd.underlying47, rfl⟩, by kernel_rfl⟩
instance : ZeroC Tryd.prog 47 ([.nilFunc]) := ⟨⟨.nilFunc, by kernel_rfl, by kernel_rfl⟩⟩
-- 48 func([]api.Entry,%20[]api.Entry)%20bool
instance : OneC Tryd.prog 48 := ⟨⟨_, Tryd.underlying48, rfl⟩, by kernel_rfl⟩
instance : ZeroC Tryd.prog 48 ([.nilFunc]) := ⟨⟨.nilFunc, by kernel_rfl, by kernel_rfl⟩⟩
-- 49 func([]nacellelaw20.Act)%20bool
instance : OneC Tryd.prog 49 := ⟨⟨_, Tryd.underlying49, rfl⟩, by kernel_rfl⟩
instance : ZeroC Tryd.prog 49 ([.nilFunc]) := ⟨⟨.nilFunc, by kernel_rfl, by kernel_rfl⟩⟩
-- 50 func(int)%20int
instance : OneC Tryd.prog 50 := ⟨⟨_, Tryd.underlying50, rfl⟩, by kernel_rfl⟩
instance : ZeroC Tryd.prog 50 ([.nilFunc]) := ⟨⟨.nilFunc, by kernel_rfl, by kernel_rfl⟩⟩
-- 51 []string
instance : OneC Tryd.prog 51 := ⟨⟨_, Tryd.underlying51, rfl⟩, by kernel_rfl⟩
instance : ZeroC Tryd.prog 51 ([.slice none 0 0]) := ⟨⟨.slice none 0 0, by kernel_rfl, by kernel_rfl⟩⟩
instance : ElC Tryd.prog 51 9 1 16 ([.string ⟨#[]⟩]) := ⟨⟨.string ⟨#[]⟩, elT Tryd.underlying51 (by kernel_rfl) (by kernel_rfl) (by decide), by kernel_rfl⟩⟩
-- 52 []nacelleref05.Write
instance : OneC Tryd.prog 52 := ⟨⟨_, Tryd.underlying52, rfl⟩, by kernel_rfl⟩
instance : ZeroC Tryd.prog 52 ([.slice none 0 0]) := ⟨⟨.slice none 0 0, by kernel_rfl, by kernel_rfl⟩⟩
instance : ElC Tryd.prog 52 153 2 24 ([.int .i64 0, .string ⟨#[]⟩]) := ⟨⟨.agg ([.int .i64 0, .string ⟨#[]⟩]).toArray, elT Tryd.underlying52 (by kernel_rfl) (by kernel_rfl) (by decide), by kernel_rfl⟩⟩
-- 53 struct%20{%20Has%20[]string;%20Waits%20[]nacelleref05.Write;%20Off%20bool;%20Left%20int;%20Survivors%20[]bool%20}
instance : RowC Tryd.prog 53 5 := ⟨⟨_, Tryd.underlying53, rfl⟩, by kernel_rfl⟩
instance : ZeroC Tryd.prog 53 ([.slice none 0 0, .slice none 0 0, .bool false, .int .i64 0, .slice none 0 0]) := ⟨⟨.agg ([.slice none 0 0, .slice none 0 0, .bool false, .int .i64 0, .slice none 0 0]).toArray, by kernel_rfl, by kernel_rfl⟩⟩
instance : FldC Tryd.prog 53 0 0 := ⟨⟨_, _, Tryd.underlying53, rfl, rfl, 0, by kernel_rfl⟩⟩
instance : FldV Tryd.prog 53 0 0 1 true := ⟨⟨_, _, _, Tryd.underlying53, rfl, rfl, by kernel_rfl, Tryd.underlying51, rfl⟩⟩
instance : FldC Tryd.prog 53 1 1 := ⟨⟨_, _, Tryd.underlying53, rfl, rfl, 0, by kernel_rfl⟩⟩
instance : FldV Tryd.prog 53 1 1 1 true := ⟨⟨_, _, _, Tryd.underlying53, rfl, rfl, by kernel_rfl, Tryd.underlying52, rfl⟩⟩
instance : FldC Tryd.prog 53 2 2 := ⟨⟨_, _, Tryd.underlying53, rfl, rfl, 0, by kernel_rfl⟩⟩
instance : FldV Tryd.prog 53 2 2 1 true := ⟨⟨_, _, _, Tryd.underlying53, rfl, rfl, by kernel_rfl, Tryd.underlying4, rfl⟩⟩
instance : FldC Tryd.prog 53 3 3 := ⟨⟨_, _, Tryd.underlying53, rfl, rfl, 0, by kernel_rfl⟩⟩
instance : FldV Tryd.prog 53 3 3 1 true := ⟨⟨_, _, _, Tryd.underlying53, rfl, rfl, by kernel_rfl, Tryd.underlying3, rfl⟩⟩
instance : FldC Tryd.prog 53 4 4 := ⟨⟨_, _, Tryd.underlying53, rfl, rfl, 0, by kernel_rfl⟩⟩
instance : FldV Tryd.prog 53 4 4 1 true := ⟨⟨_, _, _, Tryd.underlying53, rfl, rfl, by kernel_rfl, Tryd.underlying44, rfl⟩⟩
-- 54 nacelleref05.Disk
instance : RowC Tryd.prog 54 5 := ⟨⟨_, Tryd.underlying54, rfl⟩, by kernel_rfl⟩
instance : ZeroC Tryd.prog 54 ([.slice none 0 0, .slice none 0 0, .bool false, .int .i64 0, .slice none 0 0]) := ⟨⟨.agg ([.slice none 0 0, .slice none 0 0, .bool false, .int .i64 0, .slice none 0 0]).toArray, by kernel_rfl, by kernel_rfl⟩⟩
instance : FldC Tryd.prog 54 0 0 := ⟨⟨_, _, Tryd.underlying54, rfl, rfl, 0, by kernel_rfl⟩⟩
instance : FldV Tryd.prog 54 0 0 1 true := ⟨⟨_, _, _, Tryd.underlying54, rfl, rfl, by kernel_rfl, Tryd.underlying51, rfl⟩⟩
instance : FldC Tryd.prog 54 1 1 := ⟨⟨_, _, Tryd.underlying54, rfl, rfl, 0, by kernel_rfl⟩⟩
instance : FldV Tryd.prog 54 1 1 1 true := ⟨⟨_, _, _, Tryd.underlying54, rfl, rfl, by kernel_rfl, Tryd.underlying52, rfl⟩⟩
instance : FldC Tryd.prog 54 2 2 := ⟨⟨_, _, Tryd.underlying54, rfl, rfl, 0, by kernel_rfl⟩⟩
instance : FldV Tryd.prog 54 2 2 1 true := ⟨⟨_, _, _, Tryd.underlying54, rfl, rfl, by kernel_rfl, Tryd.underlying4, rfl⟩⟩
instance : FldC Tryd.prog 54 3 3 := ⟨⟨_, _, Tryd.underlying54, rfl, rfl, 0, by kernel_rfl⟩⟩
instance : FldV Tryd.prog 54 3 3 1 true := ⟨⟨_, _, _, Tryd.underlying54, rfl, rfl, by kernel_rfl, Tryd.underlying3, rfl⟩⟩
instance : FldC Tryd.prog 54 4 4 := ⟨⟨_, _, Tryd.underlying54, rfl, rfl, 0, by kernel_rfl⟩⟩
instance : FldV Tryd.prog 54 4 4 1 true := ⟨⟨_, _, _, Tryd.underlying54, rfl, rfl, by kernel_rfl, Tryd.underlying44, rfl⟩⟩
-- 56 func(int)%20(nacelleref05.Disk,%20bool)
instance : OneC Tryd.prog 56 := ⟨⟨_, Tryd.underlying56, rfl⟩, by kernel_rfl⟩
instance : ZeroC Tryd.prog 56 ([.nilFunc]) := ⟨⟨.nilFunc, by kernel_rfl, by kernel_rfl⟩⟩
-- 57 struct%20{%20D%20nacelleref05.Disk;%20From%20int;%20Count%20int;%20L%20[]api.Entry;%20Dead%20bool%20}
instance : RowC Tryd.prog 57 9 := ⟨⟨_, Tryd.underlying57, rfl⟩, by kernel_rfl⟩
instance : ZeroC Tryd.prog 57 ([.slice none 0 0, .slice none 0 0, .bool false, .int .i64 0, .slice none 0 0, .int .i64 0, .int .i64 0, .slice none 0 0, .bool false]) := ⟨⟨.agg ([.slice none 0 0, .slice none 0 0, .bool false, .int .i64 0, .slice none 0 0, .int .i64 0, .int .i64 0, .slice none 0 0, .bool false]).toArray, by kernel_rfl, by kernel_rfl⟩⟩
instance : FldC Tryd.prog 57 0 0 := ⟨⟨_, _, Tryd.underlying57, rfl, rfl, 4, by kernel_rfl⟩⟩
instance : FldV Tryd.prog 57 0 0 5 false := ⟨⟨_, _, _, Tryd.underlying57, rfl, rfl, by kernel_rfl, Tryd.underlying54, rfl⟩⟩
instance : FldC Tryd.prog 57 1 5 := ⟨⟨_, _, Tryd.underlying57, rfl, rfl, 0, by kernel_rfl⟩⟩
instance : FldV Tryd.prog 57 1 5 1 true := ⟨⟨_, _, _, Tryd.underlying57, rfl, rfl, by kernel_rfl, Tryd.underlying3, rfl⟩⟩
instance : FldC Tryd.prog 57 2 6 := ⟨⟨_, _, Tryd.underlying57, rfl, rfl, 0, by kernel_rfl⟩⟩
instance : FldV Tryd.prog 57 2 6 1 true := ⟨⟨_, _, _, Tryd.underlying57, rfl, rfl, by kernel_rfl, Tryd.underlying3, rfl⟩⟩
instance : FldC Tryd.prog 57 3 7 := ⟨⟨_, _, Tryd.underlying57, rfl, rfl, 0, by kernel_rfl⟩⟩
instance : FldV Tryd.prog 57 3 7 1 true := ⟨⟨_, _, _, Tryd.underlying57, rfl, rfl, by kernel_rfl, Tryd.underlying22, rfl⟩⟩
instance : FldC Tryd.prog 57 4 8 := ⟨⟨_, _, Tryd.underlying57, rfl, rfl, 0, by kernel_rfl⟩⟩
instance : FldV Tryd.prog 57 4 8 1 true := ⟨⟨_, _, _, Tryd.underlying57, rfl, rfl, by kernel_rfl, Tryd.underlying4, rfl⟩⟩
-- 58 nacelleref20.Log
instance : RowC Tryd.prog 58 9 := ⟨⟨_, Tryd.underlying58, rfl⟩, by kernel_rfl⟩
instance : ZeroC Tryd.prog 58 ([.slice none 0 0, .slice none 0 0, .bool false, .int .i64 0, .slice none 0 0, .int .i64 0, .int .i64 0, .slice none 0 0, .bool false]) := ⟨⟨.agg ([.slice none 0 0, .slice none 0 0, .bool false, .int .i64 0, .slice none 0 0, .int .i64 0, .int .i64 0, .slice none 0 0, .bool false]).toArray, by kernel_rfl, by kernel_rfl⟩⟩
instance : FldC Tryd.prog 58 0 0 := ⟨⟨_, _, Tryd.underlying58, rfl, rfl, 4, by kernel_rfl⟩⟩
instance : FldV Tryd.prog 58 0 0 5 false := ⟨⟨_, _, _, Tryd.underlying58, rfl, rfl, by kernel_rfl, Tryd.underlying54, rfl⟩⟩
instance : FldC Tryd.prog 58 1 5 := ⟨⟨_, _, Tryd.underlying58, rfl, rfl, 0, by kernel_rfl⟩⟩
instance : FldV Tryd.prog 58 1 5 1 true := ⟨⟨_, _, _, Tryd.underlying58, rfl, rfl, by kernel_rfl, Tryd.underlying3, rfl⟩⟩
instance : FldC Tryd.prog 58 2 6 := ⟨⟨_, _, Tryd.underlying58, rfl, rfl, 0, by kernel_rfl⟩⟩
instance : FldV Tryd.prog 58 2 6 1 true := ⟨⟨_, _, _, Tryd.underlying58, rfl, rfl, by kernel_rfl, Tryd.underlying3, rfl⟩⟩
instance : FldC Tryd.prog 58 3 7 := ⟨⟨_, _, Tryd.underlying58, rfl, rfl, 0, by kernel_rfl⟩⟩
instance : FldV Tryd.prog 58 3 7 1 true := ⟨⟨_, _, _, Tryd.underlying58, rfl, rfl, by kernel_rfl, Tryd.underlying22, rfl⟩⟩
instance : FldC Tryd.prog 58 4 8 := ⟨⟨_, _, Tryd.underlying58, rfl, rfl, 0, by kernel_rfl⟩⟩
instance : FldV Tryd.prog 58 4 8 1 true := ⟨⟨_, _, _, Tryd.underlying58, rfl, rfl, by kernel_rfl, Tryd.underlying4, rfl⟩⟩
-- 60 func(nacelleref05.Disk,%20int,%20int)%20(nacelleref20.Log,%20int)
instance : OneC Tryd.prog 60 := ⟨⟨_, Tryd.underlying60, rfl⟩, by kernel_rfl⟩
instance : ZeroC Tryd.prog 60 ([.nilFunc]) := ⟨⟨.nilFunc, by kernel_rfl, by kernel_rfl⟩⟩
-- 61 func(api.Entry)%20(nacelleref20.Log,%20int)
instance : OneC Tryd.prog 61 := ⟨⟨_, Tryd.underlying61, rfl⟩, by kernel_rfl⟩
instance : ZeroC Tryd.prog 61 ([.nilFunc]) := ⟨⟨.nilFunc, by kernel_rfl, by kernel_rfl⟩⟩
-- 62 func(int,%20[]bool)%20nacelleref05.Disk
instance : OneC Tryd.prog 62 := ⟨⟨_, Tryd.underlying62, rfl⟩, by kernel_rfl⟩
instance : ZeroC Tryd.prog 62 ([.nilFunc]) := ⟨⟨.nilFunc, by kernel_rfl, by kernel_rfl⟩⟩
-- 63 func([]bool)
instance : OneC Tryd.prog 63 := ⟨⟨_, Tryd.underlying63, rfl⟩, by kernel_rfl⟩
instance : ZeroC Tryd.prog 63 ([.nilFunc]) := ⟨⟨.nilFunc, by kernel_rfl, by kernel_rfl⟩⟩
-- 64 func([]bool)%20nacelleref05.Disk
instance : OneC Tryd.prog 64 := ⟨⟨_, Tryd.underlying64, rfl⟩, by kernel_rfl⟩
instance : ZeroC Tryd.prog 64 ([.nilFunc]) := ⟨⟨.nilFunc, by kernel_rfl, by kernel_rfl⟩⟩
-- 65 func()%20nacelleref05.Disk
instance : OneC Tryd.prog 65 := ⟨⟨_, Tryd.underlying65, rfl⟩, by kernel_rfl⟩
instance : ZeroC Tryd.prog 65 ([.nilFunc]) := ⟨⟨.nilFunc, by kernel_rfl, by kernel_rfl⟩⟩
-- 66 func()%20[]uint8
instance : OneC Tryd.prog 66 := ⟨⟨_, Tryd.underlying66, rfl⟩, by kernel_rfl⟩
instance : ZeroC Tryd.prog 66 ([.nilFunc]) := ⟨⟨.nilFunc, by kernel_rfl, by kernel_rfl⟩⟩
-- 67 func(int,%20[]nacellelaw20.Act)%20bool
instance : OneC Tryd.prog 67 := ⟨⟨_, Tryd.underlying67, rfl⟩, by kernel_rfl⟩
instance : ZeroC Tryd.prog 67 ([.nilFunc]) := ⟨⟨.nilFunc, by kernel_rfl, by kernel_rfl⟩⟩
-- 68 []nacellelaw16.Act
instance : OneC Tryd.prog 68 := ⟨⟨_, Tryd.underlying68, rfl⟩, by kernel_rfl⟩
instance : ZeroC Tryd.prog 68 ([.slice none 0 0]) := ⟨⟨.slice none 0 0, by kernel_rfl, by kernel_rfl⟩⟩
instance : ElC Tryd.prog 68 78 6 64 ([.int .i64 0, .int .i64 0, .int .i64 0, .int .i64 0, .int .u8 0, .slice none 0 0]) := ⟨⟨.agg ([.int .i64 0, .int .i64 0, .int .i64 0, .int .i64 0, .int .u8 0, .slice none 0 0]).toArray, elT Tryd.underlying68 (by kernel_rfl) (by kernel_rfl) (by decide), by kernel_rfl⟩⟩
-- 70 func(int)%20(*disk.Disk,%20*extent.Part,%20nacelleref05.Disk,%20bool)
instance : OneC Tryd.prog 70 := ⟨⟨_, Tryd.underlying70, rfl⟩, by kernel_rfl⟩
instance : ZeroC Tryd.prog 70 ([.nilFunc]) := ⟨⟨.nilFunc, by kernel_rfl, by kernel_rfl⟩⟩
-- 71 *wal.Log
instance : OneC Tryd.prog 71 := ⟨⟨_, Tryd.underlying71, rfl⟩, by kernel_rfl⟩
instance : ZeroC Tryd.prog 71 ([.pointer none]) := ⟨⟨.pointer none, by kernel_rfl, by kernel_rfl⟩⟩
instance : PtrC Tryd.prog 71 140 := ⟨Tryd.underlying71⟩
-- 73 func(*extent.Part)%20(*wal.Log,%20api.Errno)
instance : OneC Tryd.prog 73 := ⟨⟨_, Tryd.underlying73, rfl⟩, by kernel_rfl⟩
instance : ZeroC Tryd.prog 73 ([.nilFunc]) := ⟨⟨.nilFunc, by kernel_rfl, by kernel_rfl⟩⟩
-- 74 func([]api.Change)%20api.Errno
instance : OneC Tryd.prog 74 := ⟨⟨_, Tryd.underlying74, rfl⟩, by kernel_rfl⟩
instance : ZeroC Tryd.prog 74 ([.nilFunc]) := ⟨⟨.nilFunc, by kernel_rfl, by kernel_rfl⟩⟩
-- 75 []api.Change
instance : OneC Tryd.prog 75 := ⟨⟨_, Tryd.underlying75, rfl⟩, by kernel_rfl⟩
instance : ZeroC Tryd.prog 75 ([.slice none 0 0]) := ⟨⟨.slice none 0 0, by kernel_rfl, by kernel_rfl⟩⟩
instance : ElC Tryd.prog 75 98 2 32 ([.int .i64 0, .slice none 0 0]) := ⟨⟨.agg ([.int .i64 0, .slice none 0 0]).toArray, elT Tryd.underlying75 (by kernel_rfl) (by kernel_rfl) (by decide), by kernel_rfl⟩⟩
-- 76 func(nacellelaw16.Act)%20[]api.Change
instance : OneC Tryd.prog 76 := ⟨⟨_, Tryd.underlying76, rfl⟩, by kernel_rfl⟩
instance : ZeroC Tryd.prog 76 ([.nilFunc]) := ⟨⟨.nilFunc, by kernel_rfl, by kernel_rfl⟩⟩
-- 77 struct%20{%20Do%20int;%20N%20int;%20At%20int;%20Off%20int;%20Fill%20uint8;%20Keep%20[]bool%20}
instance : RowC Tryd.prog 77 6 := ⟨⟨_, Tryd.underlying77, rfl⟩, by kernel_rfl⟩
instance : ZeroC Tryd.prog 77 ([.int .i64 0, .int .i64 0, .int .i64 0, .int .i64 0, .int .u8 0, .slice none 0 0]) := ⟨⟨.agg ([.int .i64 0, .int .i64 0, .int .i64 0, .int .i64 0, .int .u8 0, .slice none 0 0]).toArray, by kernel_rfl, by kernel_rfl⟩⟩
instance : FldC Tryd.prog 77 0 0 := ⟨⟨_, _, Tryd.underlying77, rfl, rfl, 0, by kernel_rfl⟩⟩
instance : FldV Tryd.prog 77 0 0 1 true := ⟨⟨_, _, _, Tryd.underlying77, rfl, rfl, by kernel_rfl, Tryd.underlying3, rfl⟩⟩
instance : FldC Tryd.prog 77 1 1 := ⟨⟨_, _, Tryd.underlying77, rfl, rfl, 0, by kernel_rfl⟩⟩
instance : FldV Tryd.prog 77 1 1 1 true := ⟨⟨_, _, _, Tryd.underlying77, rfl, rfl, by kernel_rfl, Tryd.underlying3, rfl⟩⟩
instance : FldC Tryd.prog 77 2 2 := ⟨⟨_, _, Tryd.underlying77, rfl, rfl, 0, by kernel_rfl⟩⟩
instance : FldV Tryd.prog 77 2 2 1 true := ⟨⟨_, _, _, Tryd.underlying77, rfl, rfl, by kernel_rfl, Tryd.underlying3, rfl⟩⟩
instance : FldC Tryd.prog 77 3 3 := ⟨⟨_, _, Tryd.underlying77, rfl, rfl, 0, by kernel_rfl⟩⟩
instance : FldV Tryd.prog 77 3 3 1 true := ⟨⟨_, _, _, Tryd.underlying77, rfl, rfl, by kernel_rfl, Tryd.underlying3, rfl⟩⟩
instance : FldC Tryd.prog 77 4 4 := ⟨⟨_, _, Tryd.underlying77, rfl, rfl, 0, by kernel_rfl⟩⟩
instance : FldV Tryd.prog 77 4 4 1 true := ⟨⟨_, _, _, Tryd.underlying77, rfl, rfl, by kernel_rfl, Tryd.underlying5, rfl⟩⟩
instance : FldC Tryd.prog 77 5 5 := ⟨⟨_, _, Tryd.underlying77, rfl, rfl, 0, by kernel_rfl⟩⟩
instance : FldV Tryd.prog 77 5 5 1 true := ⟨⟨_, _, _, Tryd.underlying77, rfl, rfl, by kernel_rfl, Tryd.underlying44, rfl⟩⟩
-- 78 nacellelaw16.Act
instance : RowC Tryd.prog 78 6 := ⟨⟨_, Tryd.underlying78, rfl⟩, by kernel_rfl⟩
instance : ZeroC Tryd.prog 78 ([.int .i64 0, .int .i64 0, .int .i64 0, .int .i64 0, .int .u8 0, .slice none 0 0]) := ⟨⟨.agg ([.int .i64 0, .int .i64 0, .int .i64 0, .int .i64 0, .int .u8 0, .slice none 0 0]).toArray, by kernel_rfl, by kernel_rfl⟩⟩
instance : FldC Tryd.prog 78 0 0 := ⟨⟨_, _, Tryd.underlying78, rfl, rfl, 0, by kernel_rfl⟩⟩
instance : FldV Tryd.prog 78 0 0 1 true := ⟨⟨_, _, _, Tryd.underlying78, rfl, rfl, by kernel_rfl, Tryd.underlying3, rfl⟩⟩
instance : FldC Tryd.prog 78 1 1 := ⟨⟨_, _, Tryd.underlying78, rfl, rfl, 0, by kernel_rfl⟩⟩
instance : FldV Tryd.prog 78 1 1 1 true := ⟨⟨_, _, _, Tryd.underlying78, rfl, rfl, by kernel_rfl, Tryd.underlying3, rfl⟩⟩
instance : FldC Tryd.prog 78 2 2 := ⟨⟨_, _, Tryd.underlying78, rfl, rfl, 0, by kernel_rfl⟩⟩
instance : FldV Tryd.prog 78 2 2 1 true := ⟨⟨_, _, _, Tryd.underlying78, rfl, rfl, by kernel_rfl, Tryd.underlying3, rfl⟩⟩
instance : FldC Tryd.prog 78 3 3 := ⟨⟨_, _, Tryd.underlying78, rfl, rfl, 0, by kernel_rfl⟩⟩
instance : FldV Tryd.prog 78 3 3 1 true := ⟨⟨_, _, _, Tryd.underlying78, rfl, rfl, by kernel_rfl, Tryd.underlying3, rfl⟩⟩
instance : FldC Tryd.prog 78 4 4 := ⟨⟨_, _, Tryd.underlying78, rfl, rfl, 0, by kernel_rfl⟩⟩
instance : FldV Tryd.prog 78 4 4 1 true := ⟨⟨_, _, _, Tryd.underlying78, rfl, rfl, by kernel_rfl, Tryd.underlying5, rfl⟩⟩
instance : FldC Tryd.prog 78 5 5 := ⟨⟨_, _, Tryd.underlying78, rfl, rfl, 0, by kernel_rfl⟩⟩
instance : FldV Tryd.prog 78 5 5 1 true := ⟨⟨_, _, _, Tryd.underlying78, rfl, rfl, by kernel_rfl, Tryd.underlying44, rfl⟩⟩
-- 79 func([]nacellelaw16.Act)%20bool
instance : OneC Tryd.prog 79 := ⟨⟨_, Tryd.underlying79, rfl⟩, by kernel_rfl⟩
instance : ZeroC Tryd.prog 79 ([.nilFunc]) := ⟨⟨.nilFunc, by kernel_rfl, by kernel_rfl⟩⟩
-- 80 func(string,%20uint32,%20string)%20string
instance : OneC Tryd.prog 80 := ⟨⟨_, Tryd.underlying80, rfl⟩, by kernel_rfl⟩
instance : ZeroC Tryd.prog 80 ([.nilFunc]) := ⟨⟨.nilFunc, by kernel_rfl, by kernel_rfl⟩⟩
-- 81 func(int)%20string
instance : OneC Tryd.prog 81 := ⟨⟨_, Tryd.underlying81, rfl⟩, by kernel_rfl⟩
instance : ZeroC Tryd.prog 81 ([.nilFunc]) := ⟨⟨.nilFunc, by kernel_rfl, by kernel_rfl⟩⟩
-- 82 func(int,%20[]uint8)%20api.Errno
instance : OneC Tryd.prog 82 := ⟨⟨_, Tryd.underlying82, rfl⟩, by kernel_rfl⟩
instance : ZeroC Tryd.prog 82 ([.nilFunc]) := ⟨⟨.nilFunc, by kernel_rfl, by kernel_rfl⟩⟩
-- 84 func(int,%20string)%20(nacelleref05.Disk,%20int)
instance : OneC Tryd.prog 84 := ⟨⟨_, Tryd.underlying84, rfl⟩, by kernel_rfl⟩
instance : ZeroC Tryd.prog 84 ([.nilFunc]) := ⟨⟨.nilFunc, by kernel_rfl, by kernel_rfl⟩⟩
-- 85 struct%20{%20D%20nacelleref05.Disk;%20From%20int;%20Pages%20[]string;%20Epoch%20uint32;%20Home%20int;%20Used%20int;%20Dead%20bool%20}
instance : RowC Tryd.prog 85 11 := ⟨⟨_, Tryd.underlying85, rfl⟩, by kernel_rfl⟩
instance : ZeroC Tryd.prog 85 ([.slice none 0 0, .slice none 0 0, .bool false, .int .i64 0, .slice none 0 0, .int .i64 0, .slice none 0 0, .int .u32 0, .int .i64 0, .int .i64 0, .bool false]) := ⟨⟨.agg ([.slice none 0 0, .slice none 0 0, .bool false, .int .i64 0, .slice none 0 0, .int .i64 0, .slice none 0 0, .int .u32 0, .int .i64 0, .int .i64 0, .bool false]).toArray, by kernel_rfl, by kernel_rfl⟩⟩
instance : FldC Tryd.prog 85 0 0 := ⟨⟨_, _, Tryd.underlying85, rfl, rfl, 4, by kernel_rfl⟩⟩
instance : FldV Tryd.prog 85 0 0 5 false := ⟨⟨_, _, _, Tryd.underlying85, rfl, rfl, by kernel_rfl, Tryd.underlying54, rfl⟩⟩
instance : FldC Tryd.prog 85 1 5 := ⟨⟨_, _, Tryd.underlying85, rfl, rfl, 0, by kernel_rfl⟩⟩
instance : FldV Tryd.prog 85 1 5 1 true := ⟨⟨_, _, _, Tryd.underlying85, rfl, rfl, by kernel_rfl, Tryd.underlying3, rfl⟩⟩
instance : FldC Tryd.prog 85 2 6 := ⟨⟨_, _, Tryd.underlying85, rfl, rfl, 0, by kernel_rfl⟩⟩
instance : FldV Tryd.prog 85 2 6 1 true := ⟨⟨_, _, _, Tryd.underlying85, rfl, rfl, by kernel_rfl, Tryd.underlying51, rfl⟩⟩
instance : FldC Tryd.prog 85 3 7 := ⟨⟨_, _, Tryd.underlying85, rfl, rfl, 0, by kernel_rfl⟩⟩
instance : FldV Tryd.prog 85 3 7 1 true := ⟨⟨_, _, _, Tryd.underlying85, rfl, rfl, by kernel_rfl, Tryd.underlying32, rfl⟩⟩
instance : FldC Tryd.prog 85 4 8 := ⟨⟨_, _, Tryd.underlying85, rfl, rfl, 0, by kernel_rfl⟩⟩
instance : FldV Tryd.prog 85 4 8 1 true := ⟨⟨_, _, _, Tryd.underlying85, rfl, rfl, by kernel_rfl, Tryd.underlying3, rfl⟩⟩
instance : FldC Tryd.prog 85 5 9 := ⟨⟨_, _, Tryd.underlying85, rfl, rfl, 0, by kernel_rfl⟩⟩
instance : FldV Tryd.prog 85 5 9 1 true := ⟨⟨_, _, _, Tryd.underlying85, rfl, rfl, by kernel_rfl, Tryd.underlying3, rfl⟩⟩
instance : FldC Tryd.prog 85 6 10 := ⟨⟨_, _, Tryd.underlying85, rfl, rfl, 0, by kernel_rfl⟩⟩
instance : FldV Tryd.prog 85 6 10 1 true := ⟨⟨_, _, _, Tryd.underlying85, rfl, rfl, by kernel_rfl, Tryd.underlying4, rfl⟩⟩
-- 86 nacelleref16.Log
instance : RowC Tryd.prog 86 11 := ⟨⟨_, Tryd.underlying86, rfl⟩, by kernel_rfl⟩
instance : ZeroC Tryd.prog 86 ([.slice none 0 0, .slice none 0 0, .bool false, .int .i64 0, .slice none 0 0, .int .i64 0, .slice none 0 0, .int .u32 0, .int .i64 0, .int .i64 0, .bool false]) := ⟨⟨.agg ([.slice none 0 0, .slice none 0 0, .bool false, .int .i64 0, .slice none 0 0, .int .i64 0, .slice none 0 0, .int .u32 0, .int .i64 0, .int .i64 0, .bool false]).toArray, by kernel_rfl, by kernel_rfl⟩⟩
instance : FldC Tryd.prog 86 0 0 := ⟨⟨_, _, Tryd.underlying86, rfl, rfl, 4, by kernel_rfl⟩⟩
instance : FldV Tryd.prog 86 0 0 5 false := ⟨⟨_, _, _, Tryd.underlying86, rfl, rfl, by kernel_rfl, Tryd.underlying54, rfl⟩⟩
instance : FldC Tryd.prog 86 1 5 := ⟨⟨_, _, Tryd.underlying86, rfl, rfl, 0, by kernel_rfl⟩⟩
instance : FldV Tryd.prog 86 1 5 1 true := ⟨⟨_, _, _, Tryd.underlying86, rfl, rfl, by kernel_rfl, Tryd.underlying3, rfl⟩⟩
instance : FldC Tryd.prog 86 2 6 := ⟨⟨_, _, Tryd.underlying86, rfl, rfl, 0, by kernel_rfl⟩⟩
instance : FldV Tryd.prog 86 2 6 1 true := ⟨⟨_, _, _, Tryd.underlying86, rfl, rfl, by kernel_rfl, Tryd.underlying51, rfl⟩⟩
instance : FldC Tryd.prog 86 3 7 := ⟨⟨_, _, Tryd.underlying86, rfl, rfl, 0, by kernel_rfl⟩⟩
instance : FldV Tryd.prog 86 3 7 1 true := ⟨⟨_, _, _, Tryd.underlying86, rfl, rfl, by kernel_rfl, Tryd.underlying32, rfl⟩⟩
instance : FldC Tryd.prog 86 4 8 := ⟨⟨_, _, Tryd.underlying86, rfl, rfl, 0, by kernel_rfl⟩⟩
instance : FldV Tryd.prog 86 4 8 1 true := ⟨⟨_, _, _, Tryd.underlying86, rfl, rfl, by kernel_rfl, Tryd.underlying3, rfl⟩⟩
instance : FldC Tryd.prog 86 5 9 := ⟨⟨_, _, Tryd.underlying86, rfl, rfl, 0, by kernel_rfl⟩⟩
instance : FldV Tryd.prog 86 5 9 1 true := ⟨⟨_, _, _, Tryd.underlying86, rfl, rfl, by kernel_rfl, Tryd.underlying3, rfl⟩⟩
instance : FldC Tryd.prog 86 6 10 := ⟨⟨_, _, Tryd.underlying86, rfl, rfl, 0, by kernel_rfl⟩⟩
instance : FldV Tryd.prog 86 6 10 1 true := ⟨⟨_, _, _, Tryd.underlying86, rfl, rfl, by kernel_rfl, Tryd.underlying4, rfl⟩⟩
-- 88 func(nacelleref05.Disk,%20int)%20(nacelleref16.Log,%20int)
instance : OneC Tryd.prog 88 := ⟨⟨_, Tryd.underlying88, rfl⟩, by kernel_rfl⟩
instance : ZeroC Tryd.prog 88 ([.nilFunc]) := ⟨⟨.nilFunc, by kernel_rfl, by kernel_rfl⟩⟩
-- 89 func(*wal.Log,%20nacelleref16.Log)%20bool
instance : OneC Tryd.prog 89 := ⟨⟨_, Tryd.underlying89, rfl⟩, by kernel_rfl⟩
instance : ZeroC Tryd.prog 89 ([.nilFunc]) := ⟨⟨.nilFunc, by kernel_rfl, by kernel_rfl⟩⟩
-- 90 func([]api.Change)%20(nacelleref16.Log,%20int)
instance : OneC Tryd.prog 90 := ⟨⟨_, Tryd.underlying90, rfl⟩, by kernel_rfl⟩
instance : ZeroC Tryd.prog 90 ([.nilFunc]) := ⟨⟨.nilFunc, by kernel_rfl, by kernel_rfl⟩⟩
-- 91 func([]uint8,%20uint32)%20bool
instance : OneC Tryd.prog 91 := ⟨⟨_, Tryd.underlying91, rfl⟩, by kernel_rfl⟩
instance : ZeroC Tryd.prog 91 ([.nilFunc]) := ⟨⟨.nilFunc, by kernel_rfl, by kernel_rfl⟩⟩
-- 92 struct%20{%20Acts%20[]nacellelaw16.Act;%20At%20int;%20Sector%20[]uint8;%20More%20[]nacellelaw16.Act%20}
instance : RowC Tryd.prog 92 4 := ⟨⟨_, Tryd.underlying92, rfl⟩, by kernel_rfl⟩
instance : ZeroC Tryd.prog 92 ([.slice none 0 0, .int .i64 0, .slice none 0 0, .slice none 0 0]) := ⟨⟨.agg ([.slice none 0 0, .int .i64 0, .slice none 0 0, .slice none 0 0]).toArray, by kernel_rfl, by kernel_rfl⟩⟩
instance : FldC Tryd.prog 92 0 0 := ⟨⟨_, _, Tryd.underlying92, rfl, rfl, 0, by kernel_rfl⟩⟩
instance : FldV Tryd.prog 92 0 0 1 true := ⟨⟨_, _, _, Tryd.underlying92, rfl, rfl, by kernel_rfl, Tryd.underlying68, rfl⟩⟩
instance : FldC Tryd.prog 92 1 1 := ⟨⟨_, _, Tryd.underlying92, rfl, rfl, 0, by kernel_rfl⟩⟩
instance : FldV Tryd.prog 92 1 1 1 true := ⟨⟨_, _, _, Tryd.underlying92, rfl, rfl, by kernel_rfl, Tryd.underlying3, rfl⟩⟩
instance : FldC Tryd.prog 92 2 2 := ⟨⟨_, _, Tryd.underlying92, rfl, rfl, 0, by kernel_rfl⟩⟩
instance : FldV Tryd.prog 92 2 2 1 true := ⟨⟨_, _, _, Tryd.underlying92, rfl, rfl, by kernel_rfl, Tryd.underlying37, rfl⟩⟩
instance : FldC Tryd.prog 92 3 3 := ⟨⟨_, _, Tryd.underlying92, rfl, rfl, 0, by kernel_rfl⟩⟩
instance : FldV Tryd.prog 92 3 3 1 true := ⟨⟨_, _, _, Tryd.underlying92, rfl, rfl, by kernel_rfl, Tryd.underlying68, rfl⟩⟩
-- 93 nacellelaw16.Forged
instance : RowC Tryd.prog 93 4 := ⟨⟨_, Tryd.underlying93, rfl⟩, by kernel_rfl⟩
instance : ZeroC Tryd.prog 93 ([.slice none 0 0, .int .i64 0, .slice none 0 0, .slice none 0 0]) := ⟨⟨.agg ([.slice none 0 0, .int .i64 0, .slice none 0 0, .slice none 0 0]).toArray, by kernel_rfl, by kernel_rfl⟩⟩
instance : FldC Tryd.prog 93 0 0 := ⟨⟨_, _, Tryd.underlying93, rfl, rfl, 0, by kernel_rfl⟩⟩
instance : FldV Tryd.prog 93 0 0 1 true := ⟨⟨_, _, _, Tryd.underlying93, rfl, rfl, by kernel_rfl, Tryd.underlying68, rfl⟩⟩
instance : FldC Tryd.prog 93 1 1 := ⟨⟨_, _, Tryd.underlying93, rfl, rfl, 0, by kernel_rfl⟩⟩
instance : FldV Tryd.prog 93 1 1 1 true := ⟨⟨_, _, _, Tryd.underlying93, rfl, rfl, by kernel_rfl, Tryd.underlying3, rfl⟩⟩
instance : FldC Tryd.prog 93 2 2 := ⟨⟨_, _, Tryd.underlying93, rfl, rfl, 0, by kernel_rfl⟩⟩
instance : FldV Tryd.prog 93 2 2 1 true := ⟨⟨_, _, _, Tryd.underlying93, rfl, rfl, by kernel_rfl, Tryd.underlying37, rfl⟩⟩
instance : FldC Tryd.prog 93 3 3 := ⟨⟨_, _, Tryd.underlying93, rfl, rfl, 0, by kernel_rfl⟩⟩
instance : FldV Tryd.prog 93 3 3 1 true := ⟨⟨_, _, _, Tryd.underlying93, rfl, rfl, by kernel_rfl, Tryd.underlying68, rfl⟩⟩
-- 94 func(nacellelaw16.Forged)%20bool
instance : OneC Tryd.prog 94 := ⟨⟨_, Tryd.underlying94, rfl⟩, by kernel_rfl⟩
instance : ZeroC Tryd.prog 94 ([.nilFunc]) := ⟨⟨.nilFunc, by kernel_rfl, by kernel_rfl⟩⟩
-- 95 func(*wal.Log)%20string
instance : OneC Tryd.prog 95 := ⟨⟨_, Tryd.underlying95, rfl⟩, by kernel_rfl⟩
instance : ZeroC Tryd.prog 95 ([.nilFunc]) := ⟨⟨.nilFunc, by kernel_rfl, by kernel_rfl⟩⟩
-- 96 func([]api.Change)%20bool
instance : OneC Tryd.prog 96 := ⟨⟨_, Tryd.underlying96, rfl⟩, by kernel_rfl⟩
instance : ZeroC Tryd.prog 96 ([.nilFunc]) := ⟨⟨.nilFunc, by kernel_rfl, by kernel_rfl⟩⟩
-- 97 struct%20{%20Page%20int;%20Data%20[]uint8%20}
instance : RowC Tryd.prog 97 2 := ⟨⟨_, Tryd.underlying97, rfl⟩, by kernel_rfl⟩
instance : ZeroC Tryd.prog 97 ([.int .i64 0, .slice none 0 0]) := ⟨⟨.agg ([.int .i64 0, .slice none 0 0]).toArray, by kernel_rfl, by kernel_rfl⟩⟩
instance : FldC Tryd.prog 97 0 0 := ⟨⟨_, _, Tryd.underlying97, rfl, rfl, 0, by kernel_rfl⟩⟩
instance : FldV Tryd.prog 97 0 0 1 true := ⟨⟨_, _, _, Tryd.underlying97, rfl, rfl, by kernel_rfl, Tryd.underlying3, rfl⟩⟩
instance : FldC Tryd.prog 97 1 1 := ⟨⟨_, _, Tryd.underlying97, rfl, rfl, 0, by kernel_rfl⟩⟩
instance : FldV Tryd.prog 97 1 1 1 true := ⟨⟨_, _, _, Tryd.underlying97, rfl, rfl, by kernel_rfl, Tryd.underlying37, rfl⟩⟩
-- 99 func(int,%20[]nacellelaw16.Act)%20bool
instance : OneC Tryd.prog 99 := ⟨⟨_, Tryd.underlying99, rfl⟩, by kernel_rfl⟩
instance : ZeroC Tryd.prog 99 ([.nilFunc]) := ⟨⟨.nilFunc, by kernel_rfl, by kernel_rfl⟩⟩
-- 100 []int
instance : OneC Tryd.prog 100 := ⟨⟨_, Tryd.underlying100, rfl⟩, by kernel_rfl⟩
instance : ZeroC Tryd.prog 100 ([.slice none 0 0]) := ⟨⟨.slice none 0 0, by kernel_rfl, by kernel_rfl⟩⟩
instance : ElC Tryd.prog 100 3 1 8 ([.int .i64 0]) := ⟨⟨.int .i64 0, elT Tryd.underlying100 (by kernel_rfl) (by kernel_rfl) (by decide), by kernel_rfl⟩⟩
-- 101 func()%20[]int
instance : OneC Tryd.prog 101 := ⟨⟨_, Tryd.underlying101, rfl⟩, by kernel_rfl⟩
instance : ZeroC Tryd.prog 101 ([.nilFunc]) := ⟨⟨.nilFunc, by kernel_rfl, by kernel_rfl⟩⟩
-- 102 func()%20uint32
instance : OneC Tryd.prog 102 := ⟨⟨_, Tryd.underlying102, rfl⟩, by kernel_rfl⟩
instance : ZeroC Tryd.prog 102 ([.nilFunc]) := ⟨⟨.nilFunc, by kernel_rfl, by kernel_rfl⟩⟩
-- 103 func()%20int
instance : OneC Tryd.prog 103 := ⟨⟨_, Tryd.underlying103, rfl⟩, by kernel_rfl⟩
instance : ZeroC Tryd.prog 103 ([.nilFunc]) := ⟨⟨.nilFunc, by kernel_rfl, by kernel_rfl⟩⟩
-- 104 func(int,%20[]nacellelaw16.Act,%20[]bool)%20bool
instance : OneC Tryd.prog 104 := ⟨⟨_, Tryd.underlying104, rfl⟩, by kernel_rfl⟩
instance : ZeroC Tryd.prog 104 ([.nilFunc]) := ⟨⟨.nilFunc, by kernel_rfl, by kernel_rfl⟩⟩
-- 106 func(int)%20(*disk.Disk,%20api.Errno)
instance : OneC Tryd.prog 106 := ⟨⟨_, Tryd.underlying106, rfl⟩, by kernel_rfl⟩
instance : ZeroC Tryd.prog 106 ([.nilFunc]) := ⟨⟨.nilFunc, by kernel_rfl, by kernel_rfl⟩⟩
-- 108 func(*disk.Disk,%20extent.Extent)%20(*extent.Part,%20api.Errno)
instance : OneC Tryd.prog 108 := ⟨⟨_, Tryd.underlying108, rfl⟩, by kernel_rfl⟩
instance : ZeroC Tryd.prog 108 ([.nilFunc]) := ⟨⟨.nilFunc, by kernel_rfl, by kernel_rfl⟩⟩
-- 109 struct%20{%20From%20int;%20Count%20int%20}
instance : RowC Tryd.prog 109 2 := ⟨⟨_, Tryd.underlying109, rfl⟩, by kernel_rfl⟩
instance : ZeroC Tryd.prog 109 ([.int .i64 0, .int .i64 0]) := ⟨⟨.agg ([.int .i64 0, .int .i64 0]).toArray, by kernel_rfl, by kernel_rfl⟩⟩
instance : FldC Tryd.prog 109 0 0 := ⟨⟨_, _, Tryd.underlying109, rfl, rfl, 0, by kernel_rfl⟩⟩
instance : FldV Tryd.prog 109 0 0 1 true := ⟨⟨_, _, _, Tryd.underlying109, rfl, rfl, by kernel_rfl, Tryd.underlying3, rfl⟩⟩
instance : FldC Tryd.prog 109 1 1 := ⟨⟨_, _, Tryd.underlying109, rfl, rfl, 0, by kernel_rfl⟩⟩
instance : FldV Tryd.prog 109 1 1 1 true := ⟨⟨_, _, _, Tryd.underlying109, rfl, rfl, by kernel_rfl, Tryd.underlying3, rfl⟩⟩
-- 110 extent.Extent
instance : RowC Tryd.prog 110 2 := ⟨⟨_, Tryd.underlying110, rfl⟩, by kernel_rfl⟩
instance : ZeroC Tryd.prog 110 ([.int .i64 0, .int .i64 0]) := ⟨⟨.agg ([.int .i64 0, .int .i64 0]).toArray, by kernel_rfl, by kernel_rfl⟩⟩
instance : FldC Tryd.prog 110 0 0 := ⟨⟨_, _, Tryd.underlying110, rfl, rfl, 0, by kernel_rfl⟩⟩
instance : FldV Tryd.prog 110 0 0 1 true := ⟨⟨_, _, _, Tryd.underlying110, rfl, rfl, by kernel_rfl, Tryd.underlying3, rfl⟩⟩
instance : FldC Tryd.prog 110 1 1 := ⟨⟨_, _, Tryd.underlying110, rfl, rfl, 0, by kernel_rfl⟩⟩
instance : FldV Tryd.prog 110 1 1 1 true := ⟨⟨_, _, _, Tryd.underlying110, rfl, rfl, by kernel_rfl, Tryd.underlying3, rfl⟩⟩
-- 111 struct%20{%20part%20*extent.Part;%20entries%20[]api.Entry;%20dead%20bool%20}
instance : RowC Tryd.prog 111 3 := ⟨⟨_, Tryd.underlying111, rfl⟩, by kernel_rfl⟩
instance : ZeroC Tryd.prog 111 ([.pointer none, .slice none 0 0, .bool false]) := ⟨⟨.agg ([.pointer none, .slice none 0 0, .bool false]).toArray, by kernel_rfl, by kernel_rfl⟩⟩
instance : FldC Tryd.prog 111 0 0 := ⟨⟨_, _, Tryd.underlying111, rfl, rfl, 0, by kernel_rfl⟩⟩
instance : FldV Tryd.prog 111 0 0 1 true := ⟨⟨_, _, _, Tryd.underlying111, rfl, rfl, by kernel_rfl, Tryd.underlying24, rfl⟩⟩
instance : FldC Tryd.prog 111 1 1 := ⟨⟨_, _, Tryd.underlying111, rfl, rfl, 0, by kernel_rfl⟩⟩
instance : FldV Tryd.prog 111 1 1 1 true := ⟨⟨_, _, _, Tryd.underlying111, rfl, rfl, by kernel_rfl, Tryd.underlying22, rfl⟩⟩
instance : FldC Tryd.prog 111 2 2 := ⟨⟨_, _, Tryd.underlying111, rfl, rfl, 0, by kernel_rfl⟩⟩
instance : FldV Tryd.prog 111 2 2 1 true := ⟨⟨_, _, _, Tryd.underlying111, rfl, rfl, by kernel_rfl, Tryd.underlying4, rfl⟩⟩
-- 113 func([]uint8)%20(api.Entry,%20bool)
instance : OneC Tryd.prog 113 := ⟨⟨_, Tryd.underlying113, rfl⟩, by kernel_rfl⟩
instance : ZeroC Tryd.prog 113 ([.nilFunc]) := ⟨⟨.nilFunc, by kernel_rfl, by kernel_rfl⟩⟩
-- 114 audit.place
instance : OneC Tryd.prog 114 := ⟨⟨_, Tryd.underlying114, rfl⟩, by kernel_rfl⟩
instance : ZeroC Tryd.prog 114 ([.int .i64 0]) := ⟨⟨.int .i64 0, by kernel_rfl, by kernel_rfl⟩⟩
instance : IntC Tryd.prog 114 .i64 := ⟨Tryd.underlying114⟩
-- 116 func(api.Entry)%20[]uint8
instance : OneC Tryd.prog 116 := ⟨⟨_, Tryd.underlying116, rfl⟩, by kernel_rfl⟩
instance : ZeroC Tryd.prog 116 ([.nilFunc]) := ⟨⟨.nilFunc, by kernel_rfl, by kernel_rfl⟩⟩
-- 117 func()%20api.Errno
instance : OneC Tryd.prog 117 := ⟨⟨_, Tryd.underlying117, rfl⟩, by kernel_rfl⟩
instance : ZeroC Tryd.prog 117 ([.nilFunc]) := ⟨⟨.nilFunc, by kernel_rfl, by kernel_rfl⟩⟩
-- 118 func([]api.Entry)%20[]api.Entry
instance : OneC Tryd.prog 118 := ⟨⟨_, Tryd.underlying118, rfl⟩, by kernel_rfl⟩
instance : ZeroC Tryd.prog 118 ([.nilFunc]) := ⟨⟨.nilFunc, by kernel_rfl, by kernel_rfl⟩⟩
-- 119 func(int)%20bool
instance : OneC Tryd.prog 119 := ⟨⟨_, Tryd.underlying119, rfl⟩, by kernel_rfl⟩
instance : ZeroC Tryd.prog 119 ([.nilFunc]) := ⟨⟨.nilFunc, by kernel_rfl, by kernel_rfl⟩⟩
-- 120 []disk.sector
instance : OneC Tryd.prog 120 := ⟨⟨_, Tryd.underlying120, rfl⟩, by kernel_rfl⟩
instance : ZeroC Tryd.prog 120 ([.slice none 0 0]) := ⟨⟨.slice none 0 0, by kernel_rfl, by kernel_rfl⟩⟩
instance : ElC Tryd.prog 120 125 64 64 (List.replicate 64 (.int .u8 0)) := ⟨⟨.agg (List.replicate 64 (.int .u8 0)).toArray, elT Tryd.underlying120 (by kernel_rfl) (by kernel_rfl) (by decide), by kernel_rfl⟩⟩
-- 121 []disk.write
instance : OneC Tryd.prog 121 := ⟨⟨_, Tryd.underlying121, rfl⟩, by kernel_rfl⟩
instance : ZeroC Tryd.prog 121 ([.slice none 0 0]) := ⟨⟨.slice none 0 0, by kernel_rfl, by kernel_rfl⟩⟩
instance : ElC Tryd.prog 121 127 65 72 ([.int .i64 0, .int .u8 0, .int .u8 0, .int .u8 0, .int .u8 0, .int .u8 0, .int .u8 0, .int .u8 0, .int .u8 0, .int .u8 0, .int .u8 0, .int .u8 0, .int .u8 0, .int .u8 0, .int .u8 0, .int .u8 0, .int .u8 0, .int .u8 0, .int .u8 0, .int .u8 0, .int .u8 0, .int .u8 0, .int .u8 0, .int .u8 0, .int .u8 0, .int .u8 0, .int .u8 0, .int .u8 0, .int .u8 0, .int .u8 0, .int .u8 0, .int .u8 0, .int .u8 0, .int .u8 0, .int .u8 0, .int .u8 0, .int .u8 0, .int .u8 0, .int .u8 0, .int .u8 0, .int .u8 0, .int .u8 0, .int .u8 0, .int .u8 0, .int .u8 0, .int .u8 0, .int .u8 0, .int .u8 0, .int .u8 0, .int .u8 0, .int .u8 0, .int .u8 0, .int .u8 0, .int .u8 0, .int .u8 0, .int .u8 0, .int .u8 0, .int .u8 0, .int .u8 0, .int .u8 0, .int .u8 0, .int .u8 0, .int .u8 0, .int .u8 0, .int .u8 0]) := ⟨⟨.agg ([.int .i64 0, .int .u8 0, .int .u8 0, .int .u8 0, .int .u8 0, .int .u8 0, .int .u8 0, .int .u8 0, .int .u8 0, .int .u8 0, .int .u8 0, .int .u8 0, .int .u8 0, .int .u8 0, .int .u8 0, .int .u8 0, .int .u8 0, .int .u8 0, .int .u8 0, .int .u8 0, .int .u8 0, .int .u8 0, .int .u8 0, .int .u8 0, .int .u8 0, .int .u8 0, .int .u8 0, .int .u8 0, .int .u8 0, .int .u8 0, .int .u8 0, .int .u8 0, .int .u8 0, .int .u8 0, .int .u8 0, .int .u8 0, .int .u8 0, .int .u8 0, .int .u8 0, .int .u8 0, .int .u8 0, .int .u8 0, .int .u8 0, .int .u8 0, .int .u8 0, .int .u8 0, .int .u8 0, .int .u8 0, .int .u8 0, .int .u8 0, .int .u8 0, .int .u8 0, .int .u8 0, .int .u8 0, .int .u8 0, .int .u8 0, .int .u8 0, .int .u8 0, .int .u8 0, .int .u8 0, .int .u8 0, .int .u8 0, .int .u8 0, .int .u8 0, .int .u8 0]).toArray, elT Tryd.underlying121 (by kernel_rfl) (by kernel_rfl) (by decide), by kernel_rfl⟩⟩
-- 122 struct%20{%20sectors%20[]disk.sector;%20pending%20[]disk.write;%20off%20bool;%20armed%20bool;%20left%20int;%20survivors%20[]bool%20}
instance : RowC Tryd.prog 122 6 := ⟨⟨_, Tryd.underlying122, rfl⟩, by kernel_rfl⟩
instance : ZeroC Tryd.prog 122 ([.slice none 0 0, .slice none 0 0, .bool false, .bool false, .int .i64 0, .slice none 0 0]) := ⟨⟨.agg ([.slice none 0 0, .slice none 0 0, .bool false, .bool false, .int .i64 0, .slice none 0 0]).toArray, by kernel_rfl, by kernel_rfl⟩⟩
instance : FldC Tryd.prog 122 0 0 := ⟨⟨_, _, Tryd.underlying122, rfl, rfl, 0, by kernel_rfl⟩⟩
instance : FldV Tryd.prog 122 0 0 1 true := ⟨⟨_, _, _, Tryd.underlying122, rfl, rfl, by kernel_rfl, Tryd.underlying120, rfl⟩⟩
instance : FldC Tryd.prog 122 1 1 := ⟨⟨_, _, Tryd.underlying122, rfl, rfl, 0, by kernel_rfl⟩⟩
instance : FldV Tryd.prog 122 1 1 1 true := ⟨⟨_, _, _, Tryd.underlying122, rfl, rfl, by kernel_rfl, Tryd.underlying121, rfl⟩⟩
instance : FldC Tryd.prog 122 2 2 := ⟨⟨_, _, Tryd.underlying122, rfl, rfl, 0, by kernel_rfl⟩⟩
instance : FldV Tryd.prog 122 2 2 1 true := ⟨⟨_, _, _, Tryd.underlying122, rfl, rfl, by kernel_rfl, Tryd.underlying4, rfl⟩⟩
instance : FldC Tryd.prog 122 3 3 := ⟨⟨_, _, Tryd.underlying122, rfl, rfl, 0, by kernel_rfl⟩⟩
instance : FldV Tryd.prog 122 3 3 1 true := ⟨⟨_, _, _, Tryd.underlying122, rfl, rfl, by kernel_rfl, Tryd.underlying4, rfl⟩⟩
instance : FldC Tryd.prog 122 4 4 := ⟨⟨_, _, Tryd.underlying122, rfl, rfl, 0, by kernel_rfl⟩⟩
instance : FldV Tryd.prog 122 4 4 1 true := ⟨⟨_, _, _, Tryd.underlying122, rfl, rfl, by kernel_rfl, Tryd.underlying3, rfl⟩⟩
instance : FldC Tryd.prog 122 5 5 := ⟨⟨_, _, Tryd.underlying122, rfl, rfl, 0, by kernel_rfl⟩⟩
instance : FldV Tryd.prog 122 5 5 1 true := ⟨⟨_, _, _, Tryd.underlying122, rfl, rfl, by kernel_rfl, Tryd.underlying44, rfl⟩⟩
-- 123 disk.Disk
instance : RowC Tryd.prog 123 6 := ⟨⟨_, Tryd.underlying123, rfl⟩, by kernel_rfl⟩
instance : ZeroC Tryd.prog 123 ([.slice none 0 0, .slice none 0 0, .bool false, .bool false, .int .i64 0, .slice none 0 0]) := ⟨⟨.agg ([.slice none 0 0, .slice none 0 0, .bool false, .bool false, .int .i64 0, .slice none 0 0]).toArray, by kernel_rfl, by kernel_rfl⟩⟩
instance : FldC Tryd.prog 123 0 0 := ⟨⟨_, _, Tryd.underlying123, rfl, rfl, 0, by kernel_rfl⟩⟩
instance : FldV Tryd.prog 123 0 0 1 true := ⟨⟨_, _, _, Tryd.underlying123, rfl, rfl, by kernel_rfl, Tryd.underlying120, rfl⟩⟩
instance : FldC Tryd.prog 123 1 1 := ⟨⟨_, _, Tryd.underlying123, rfl, rfl, 0, by kernel_rfl⟩⟩
instance : FldV Tryd.prog 123 1 1 1 true := ⟨⟨_, _, _, Tryd.underlying123, rfl, rfl, by kernel_rfl, Tryd.underlying121, rfl⟩⟩
instance : FldC Tryd.prog 123 2 2 := ⟨⟨_, _, Tryd.underlying123, rfl, rfl, 0, by kernel_rfl⟩⟩
instance : FldV Tryd.prog 123 2 2 1 true := ⟨⟨_, _, _, Tryd.underlying123, rfl, rfl, by kernel_rfl, Tryd.underlying4, rfl⟩⟩
instance : FldC Tryd.prog 123 3 3 := ⟨⟨_, _, Tryd.underlying123, rfl, rfl, 0, by kernel_rfl⟩⟩
instance : FldV Tryd.prog 123 3 3 1 true := ⟨⟨_, _, _, Tryd.underlying123, rfl, rfl, by kernel_rfl, Tryd.underlying4, rfl⟩⟩
instance : FldC Tryd.prog 123 4 4 := ⟨⟨_, _, Tryd.underlying123, rfl, rfl, 0, by kernel_rfl⟩⟩
instance : FldV Tryd.prog 123 4 4 1 true := ⟨⟨_, _, _, Tryd.underlying123, rfl, rfl, by kernel_rfl, Tryd.underlying3, rfl⟩⟩
instance : FldC Tryd.prog 123 5 5 := ⟨⟨_, _, Tryd.underlying123, rfl, rfl, 0, by kernel_rfl⟩⟩
instance : FldV Tryd.prog 123 5 5 1 true := ⟨⟨_, _, _, Tryd.underlying123, rfl, rfl, by kernel_rfl, Tryd.underlying44, rfl⟩⟩
-- 124 [64]uint8
instance : RowC Tryd.prog 124 64 := ⟨⟨_, Tryd.underlying124, rfl⟩, by kernel_rfl⟩
instance : ZeroC Tryd.prog 124 (List.replicate 64 (.int .u8 0)) := ⟨⟨.agg (List.replicate 64 (.int .u8 0)).toArray, by kernel_rfl, by kernel_rfl⟩⟩
instance : ArrC Tryd.prog 124 64 1 true := ⟨⟨_, _, Tryd.underlying124, by kernel_rfl, Tryd.underlying5, rfl⟩⟩
-- 125 disk.sector
instance : RowC Tryd.prog 125 64 := ⟨⟨_, Tryd.underlying125, rfl⟩, by kernel_rfl⟩
instance : ZeroC Tryd.prog 125 (List.replicate 64 (.int .u8 0)) := ⟨⟨.agg (List.replicate 64 (.int .u8 0)).toArray, by kernel_rfl, by kernel_rfl⟩⟩
instance : ArrC Tryd.prog 125 64 1 true := ⟨⟨_, _, Tryd.underlying125, by kernel_rfl, Tryd.underlying5, rfl⟩⟩
-- 126 struct%20{%20at%20int;%20content%20disk.sector%20}
instance : RowC Tryd.prog 126 65 := ⟨⟨_, Tryd.underlying126, rfl⟩, by kernel_rfl⟩
instance : ZeroC Tryd.prog 126 ([.int .i64 0, .int .u8 0, .int .u8 0, .int .u8 0, .int .u8 0, .int .u8 0, .int .u8 0, .int .u8 0, .int .u8 0, .int .u8 0, .int .u8 0, .int .u8 0, .int .u8 0, .int .u8 0, .int .u8 0, .int .u8 0, .int .u8 0, .int .u8 0, .int .u8 0, .int .u8 0, .int .u8 0, .int .u8 0, .int .u8 0, .int .u8 0, .int .u8 0, .int .u8 0, .int .u8 0, .int .u8 0, .int .u8 0, .int .u8 0, .int .u8 0, .int .u8 0, .int .u8 0, .int .u8 0, .int .u8 0, .int .u8 0, .int .u8 0, .int .u8 0, .int .u8 0, .int .u8 0, .int .u8 0, .int .u8 0, .int .u8 0, .int .u8 0, .int .u8 0, .int .u8 0, .int .u8 0, .int .u8 0, .int .u8 0, .int .u8 0, .int .u8 0, .int .u8 0, .int .u8 0, .int .u8 0, .int .u8 0, .int .u8 0, .int .u8 0, .int .u8 0, .int .u8 0, .int .u8 0, .int .u8 0, .int .u8 0, .int .u8 0, .int .u8 0, .int .u8 0]) := ⟨⟨.agg ([.int .i64 0, .int .u8 0, .int .u8 0, .int .u8 0, .int .u8 0, .int .u8 0, .int .u8 0, .int .u8 0, .int .u8 0, .int .u8 0, .int .u8 0, .int .u8 0, .int .u8 0, .int .u8 0, .int .u8 0, .int .u8 0, .int .u8 0, .int .u8 0, .int .u8 0, .int .u8 0, .int .u8 0, .int .u8 0, .int .u8 0, .int .u8 0, .int .u8 0, .int .u8 0, .int .u8 0, .int .u8 0, .int .u8 0, .int .u8 0, .int .u8 0, .int .u8 0, .int .u8 0, .int .u8 0, .int .u8 0, .int .u8 0, .int .u8 0, .int .u8 0, .int .u8 0, .int .u8 0, .int .u8 0, .int .u8 0, .int .u8 0, .int .u8 0, .int .u8 0, .int .u8 0, .int .u8 0, .int .u8 0, .int .u8 0, .int .u8 0, .int .u8 0, .int .u8 0, .int .u8 0, .int .u8 0, .int .u8 0, .int .u8 0, .int .u8 0, .int .u8 0, .int .u8 0, .int .u8 0, .int .u8 0, .int .u8 0, .int .u8 0, .int .u8 0, .int .u8 0]).toArray, by kernel_rfl, by kernel_rfl⟩⟩
instance : FldC Tryd.prog 126 0 0 := ⟨⟨_, _, Tryd.underlying126, rfl, rfl, 0, by kernel_rfl⟩⟩
instance : FldV Tryd.prog 126 0 0 1 true := ⟨⟨_, _, _, Tryd.underlying126, rfl, rfl, by kernel_rfl, Tryd.underlying3, rfl⟩⟩
instance : FldC Tryd.prog 126 1 1 := ⟨⟨_, _, Tryd.underlying126, rfl, rfl, 63, by kernel_rfl⟩⟩
instance : FldV Tryd.prog 126 1 1 64 false := ⟨⟨_, _, _, Tryd.underlying126, rfl, rfl, by kernel_rfl, Tryd.underlying125, rfl⟩⟩
-- 127 disk.write
instance : RowC Tryd.prog 127 65 := ⟨⟨_, Tryd.underlying127, rfl⟩, by kernel_rfl⟩
instance : ZeroC Tryd.prog 127 ([.int .i64 0, .int .u8 0, .int .u8 0, .int .u8 0, .int .u8 0, .int .u8 0, .int .u8 0, .int .u8 0, .int .u8 0, .int .u8 0, .int .u8 0, .int .u8 0, .int .u8 0, .int .u8 0, .int .u8 0, .int .u8 0, .int .u8 0, .int .u8 0, .int .u8 0, .int .u8 0, .int .u8 0, .int .u8 0, .int .u8 0, .int .u8 0, .int .u8 0, .int .u8 0, .int .u8 0, .int .u8 0, .int .u8 0, .int .u8 0, .int .u8 0, .int .u8 0, .int .u8 0, .int .u8 0, .int .u8 0, .int .u8 0, .int .u8 0, .int .u8 0, .int .u8 0, .int .u8 0, .int .u8 0, .int .u8 0, .int .u8 0, .int .u8 0, .int .u8 0, .int .u8 0, .int .u8 0, .int .u8 0, .int .u8 0, .int .u8 0, .int .u8 0, .int .u8 0, .int .u8 0, .int .u8 0, .int .u8 0, .int .u8 0, .int .u8 0, .int .u8 0, .int .u8 0, .int .u8 0, .int .u8 0, .int .u8 0, .int .u8 0, .int .u8 0, .int .u8 0]) := ⟨⟨.agg ([.int .i64 0, .int .u8 0, .int .u8 0, .int .u8 0, .int .u8 0, .int .u8 0, .int .u8 0, .int .u8 0, .int .u8 0, .int .u8 0, .int .u8 0, .int .u8 0, .int .u8 0, .int .u8 0, .int .u8 0, .int .u8 0, .int .u8 0, .int .u8 0, .int .u8 0, .int .u8 0, .int .u8 0, .int .u8 0, .int .u8 0, .int .u8 0, .int .u8 0, .int .u8 0, .int .u8 0, .int .u8 0, .int .u8 0, .int .u8 0, .int .u8 0, .int .u8 0, .int .u8 0, .int .u8 0, .int .u8 0, .int .u8 0, .int .u8 0, .int .u8 0, .int .u8 0, .int .u8 0, .int .u8 0, .int .u8 0, .int .u8 0, .int .u8 0, .int .u8 0, .int .u8 0, .int .u8 0, .int .u8 0, .int .u8 0, .int .u8 0, .int .u8 0, .int .u8 0, .int .u8 0, .int .u8 0, .int .u8 0, .int .u8 0, .int .u8 0, .int .u8 0, .int .u8 0, .int .u8 0, .int .u8 0, .int .u8 0, .int .u8 0, .int .u8 0, .int .u8 0]).toArray, by kernel_rfl, by kernel_rfl⟩⟩
instance : FldC Tryd.prog 127 0 0 := ⟨⟨_, _, Tryd.underlying127, rfl, rfl, 0, by kernel_rfl⟩⟩
instance : FldV Tryd.prog 127 0 0 1 true := ⟨⟨_, _, _, Tryd.underlying127, rfl, rfl, by kernel_rfl, Tryd.underlying3, rfl⟩⟩
instance : FldC Tryd.prog 127 1 1 := ⟨⟨_, _, Tryd.underlying127, rfl, rfl, 63, by kernel_rfl⟩⟩
instance : FldV Tryd.prog 127 1 1 64 false := ⟨⟨_, _, _, Tryd.underlying127, rfl, rfl, by kernel_rfl, Tryd.underlying125, rfl⟩⟩
-- 128 func([]bool)%20[]bool
instance : OneC Tryd.prog 128 := ⟨⟨_, Tryd.underlying128, rfl⟩, by kernel_rfl⟩
instance : ZeroC Tryd.prog 128 ([.nilFunc]) := ⟨⟨.nilFunc, by kernel_rfl, by kernel_rfl⟩⟩
-- 130 func(int)%20(string,%20int)
instance : OneC Tryd.prog 130 := ⟨⟨_, Tryd.underlying130, rfl⟩, by kernel_rfl⟩
instance : ZeroC Tryd.prog 130 ([.nilFunc]) := ⟨⟨.nilFunc, by kernel_rfl, by kernel_rfl⟩⟩
-- 131 func(int,%20string)%20(api.Entry,%20bool)
instance : OneC Tryd.prog 131 := ⟨⟨_, Tryd.underlying131, rfl⟩, by kernel_rfl⟩
instance : ZeroC Tryd.prog 131 ([.nilFunc]) := ⟨⟨.nilFunc, by kernel_rfl, by kernel_rfl⟩⟩
-- 132 func(int,%20api.Entry)%20string
instance : OneC Tryd.prog 132 := ⟨⟨_, Tryd.underlying132, rfl⟩, by kernel_rfl⟩
instance : ZeroC Tryd.prog 132 ([.nilFunc]) := ⟨⟨.nilFunc, by kernel_rfl, by kernel_rfl⟩⟩
-- 133 func()%20(nacelleref05.Disk,%20int)
instance : OneC Tryd.prog 133 := ⟨⟨_, Tryd.underlying133, rfl⟩, by kernel_rfl⟩
instance : ZeroC Tryd.prog 133 ([.nilFunc]) := ⟨⟨.nilFunc, by kernel_rfl, by kernel_rfl⟩⟩
-- 134 func(bool,%20[]bool)%20nacelleref05.Disk
instance : OneC Tryd.prog 134 := ⟨⟨_, Tryd.underlying134, rfl⟩, by kernel_rfl⟩
instance : ZeroC Tryd.prog 134 ([.nilFunc]) := ⟨⟨.nilFunc, by kernel_rfl, by kernel_rfl⟩⟩
-- 135 func(*extent.Part)%20api.Errno
instance : OneC Tryd.prog 135 := ⟨⟨_, Tryd.underlying135, rfl⟩, by kernel_rfl⟩
instance : ZeroC Tryd.prog 135 ([.nilFunc]) := ⟨⟨.nilFunc, by kernel_rfl, by kernel_rfl⟩⟩
-- 136 func(nacelleref05.Disk,%20int)%20(nacelleref05.Disk,%20int)
instance : OneC Tryd.prog 136 := ⟨⟨_, Tryd.underlying136, rfl⟩, by kernel_rfl⟩
instance : ZeroC Tryd.prog 136 ([.nilFunc]) := ⟨⟨.nilFunc, by kernel_rfl, by kernel_rfl⟩⟩
-- 137 [40]uint8
instance : RowC Tryd.prog 137 40 := ⟨⟨_, Tryd.underlying137, rfl⟩, by kernel_rfl⟩
instance : ZeroC Tryd.prog 137 (List.replicate 40 (.int .u8 0)) := ⟨⟨.agg (List.replicate 40 (.int .u8 0)).toArray, by kernel_rfl, by kernel_rfl⟩⟩
instance : ArrC Tryd.prog 137 40 1 true := ⟨⟨_, _, Tryd.underlying137, by kernel_rfl, Tryd.underlying5, rfl⟩⟩
-- 138 [16][40]uint8
instance : RowC Tryd.prog 138 640 := ⟨⟨_, Tryd.underlying138, rfl⟩, by kernel_rfl⟩
instance : ZeroC Tryd.prog 138 (List.replicate 640 (.int .u8 0)) := ⟨⟨.agg (List.replicate 640 (.int .u8 0)).toArray, by kernel_rfl, by kernel_rfl⟩⟩
instance : ArrC Tryd.prog 138 16 40 false := ⟨⟨_, _, Tryd.underlying138, by kernel_rfl, Tryd.underlying137, rfl⟩⟩
-- 139 struct%20{%20part%20*extent.Part;%20epoch%20uint32;%20home%20int;%20used%20int;%20pages%20[16][40]uint8;%20dead%20bool%20}
instance : RowC Tryd.prog 139 645 := ⟨⟨_, Tryd.underlying139, rfl⟩, by kernel_rfl⟩
instance : ZeroC Tryd.prog 139 ([.pointer none, .int .u32 0, .int .i64 0, .int .i64 0, .int .u8 0, .int .u8 0, .int .u8 0, .int .u8 0, .int .u8 0, .int .u8 0, .int .u8 0, .int .u8 0, .int .u8 0, .int .u8 0, .int .u8 0, .int .u8 0, .int .u8 0, .int .u8 0, .int .u8 0, .int .u8 0, .int .u8 0, .int .u8 0, .int .u8 0, .int .u8 0, .int .u8 0, .int .u8 0, .int .u8 0, .int .u8 0, .int .u8 0, .int .u8 0, .int .u8 0, .int .u8 0, .int .u8 0, .int .u8 0, .int .u8 0, .int .u8 0, .int .u8 0, .int .u8 0, .int .u8 0, .int .u8 0, .int .u8 0, .int .u8 0, .int .u8 0, .int .u8 0, .int .u8 0, .int .u8 0, .int .u8 0, .int .u8 0, .int .u8 0, .int .u8 0, .int .u8 0, .int .u8 0, .int .u8 0, .int .u8 0, .int .u8 0, .int .u8 0, .int .u8 0, .int .u8 0, .int .u8 0, .int .u8 0, .int .u8 0, .int .u8 0, .int .u8 0, .int .u8 0, .int .u8 0, .int .u8 0, .int .u8 0, .int .u8 0, .int .u8 0, .int .u8 0, .int .u8 0, .int .u8 0, .int .u8 0, .int .u8 0, .int .u8 0, .int .u8 0, .int .u8 0, .int .u8 0, .int .u8 0, .int .u8 0, .int .u8 0, .int .u8 0, .int .u8 0, .int .u8 0, .int .u8 0, .int .u8 0, .int .u8 0, .int .u8 0, .int .u8 0, .int .u8 0, .int .u8 0, .int .u8 0, .int .u8 0, .int .u8 0, .int .u8 0, .int .u8 0, .int .u8 0, .int .u8 0, .int .u8 0, .int .u8 0, .int .u8 0, .int .u8 0, .int .u8 0, .int .u8 0, .int .u8 0, .int .u8 0, .int .u8 0, .int .u8 0, .int .u8 0, .int .u8 0, .int .u8 0, .int .u8 0, .int .u8 0, .int .u8 0, .int .u8 0, .int .u8 0, .int .u8 0, .int .u8 0, .int .u8 0, .int .u8 0, .int .u8 0, .int .u8 0, .int .u8 0, .int .u8 0, .int .u8 0, .int .u8 0, .int .u8 0, .int .u8 0, .int .u8 0, .int .u8 0, .int .u8 0, .int .u8 0, .int .u8 0, .int .u8 0, .int .u8 0, .int .u8 0, .int .u8 0, .int .u8 0, .int .u8 0, .int .u8 0, .int .u8 0, .int .u8 0, .int .u8 0, .int .u8 0, .int .u8 0, .int .u8 0, .int .u8 0, .int .u8 0, .int .u8 0, .int .u8 0, .int .u8 0, .int .u8 0, .int .u8 0, .int .u8 0, .int .u8 0, .int .u8 0, .int .u8 0, .int .u8 0, .int .u8 0, .int .u8 0, .int .u8 0, .int .u8 0, .int .u8 0, .int .u8 0, .int .u8 0, .int .u8 0, .int .u8 0, .int .u8 0, .int .u8 0, .int .u8 0, .int .u8 0, .int .u8 0, .int .u8 0, .int .u8 0, .int .u8 0, .int .u8 0, .int .u8 0, .int .u8 0, .int .u8 0, .int .u8 0, .int .u8 0, .int .u8 0, .int .u8 0, .int .u8 0, .int .u8 0, .int .u8 0, .int .u8 0, .int .u8 0, .int .u8 0, .int .u8 0, .int .u8 0, .int .u8 0, .int .u8 0, .int .u8 0, .int .u8 0, .int .u8 0, .int .u8 0, .int .u8 0, .int .u8 0, .int .u8 0, .int .u8 0, .int .u8 0, .int .u8 0, .int .u8 0, .int .u8 0, .int .u8 0, .int .u8 0, .int .u8 0, .int .u8 0, .int .u8 0, .int .u8 0, .int .u8 0, .int .u8 0, .int .u8 0, .int .u8 0, .int .u8 0, .int .u8 0, .int .u8 0, .int .u8 0, .int .u8 0, .int .u8 0, .int .u8 0, .int .u8 0, .int .u8 0, .int .u8 0, .int .u8 0, .int .u8 0, .int .u8 0, .int .u8 0, .int .u8 0, .int .u8 0, .int .u8 0, .int .u8 0, .int .u8 0, .int .u8 0, .int .u8 0, .int .u8 0, .int .u8 0, .int .u8 0, .int .u8 0, .int .u8 0, .int .u8 0, .int .u8 0, .int .u8 0, .int .u8 0, .int .u8 0, .int .u8 0, .int .u8 0, .int .u8 0, .int .u8 0, .int .u8 0, .int .u8 0, .int .u8 0, .int .u8 0, .int .u8 0, .int .u8 0, .int .u8 0, .int .u8 0, .int .u8 0, .int .u8 0, .int .u8 0, .int .u8 0, .int .u8 0, .int .u8 0, .int .u8 0, .int .u8 0, .int .u8 0, .int .u8 0, .int .u8 0, .int .u8 0, .int .u8 0, .int .u8 0, .int .u8 0, .int .u8 0, .int .u8 0, .int .u8 0, .int .u8 0, .int .u8 0, .int .u8 0, .int .u8 0, .int .u8 0, .int .u8 0, .int .u8 0, .int .u8 0, .int .u8 0, .int .u8 0, .int .u8 0, .int .u8 0, .int .u8 0, .int .u8 0, .int .u8 0, .int .u8 0, .int .u8 0, .int .u8 0, .int .u8 0, .int .u8 0, .int .u8 0, .int .u8 0, .int .u8 0, .int .u8 0, .int .u8 0, .int .u8 0, .int .u8 0, .int .u8 0, .int .u8 0, .int .u8 0, .int .u8 0, .int .u8 0, .int .u8 0, .int .u8 0, .int .u8 0, .int .u8 0, .int .u8 0, .int .u8 0, .int .u8 0, .int .u8 0, .int .u8 0, .int .u8 0, .int .u8 0, .int .u8 0, .int .u8 0, .int .u8 0, .int .u8 0, .int .u8 0, .int .u8 0, .int .u8 0, .int .u8 0, .int .u8 0, .int .u8 0, .int .u8 0, .int .u8 0, .int .u8 0, .int .u8 0, .int .u8 0, .int .u8 0, .int .u8 0, .int .u8 0, .int .u8 0, .int .u8 0, .int .u8 0, .int .u8 0, .int .u8 0, .int .u8 0, .int .u8 0, .int .u8 0, .int .u8 0, .int .u8 0, .int .u8 0, .int .u8 0, .int .u8 0, .int .u8 0, .int .u8 0, .int .u8 0, .int .u8 0, .int .u8 0, .int .u8 0, .int .u8 0, .int .u8 0, .int .u8 0, .int .u8 0, .int .u8 0, .int .u8 0, .int .u8 0, .int .u8 0, .int .u8 0, .int .u8 0, .int .u8 0, .int .u8 0, .int .u8 0, .int .u8 0, .int .u8 0, .int .u8 0, .int .u8 0, .int .u8 0, .int .u8 0, .int .u8 0, .int .u8 0, .int .u8 0, .int .u8 0, .int .u8 0, .int .u8 0, .int .u8 0, .int .u8 0, .int .u8 0, .int .u8 0, .int .u8 0, .int .u8 0, .int .u8 0, .int .u8 0, .int .u8 0, .int .u8 0, .int .u8 0, .int .u8 0, .int .u8 0, .int .u8 0, .int .u8 0, .int .u8 0, .int .u8 0, .int .u8 0, .int .u8 0, .int .u8 0, .int .u8 0, .int .u8 0, .int .u8 0, .int .u8 0, .int .u8 0, .int .u8 0, .int .u8 0, .int .u8 0, .int .u8 0, .int .u8 0, .int .u8 0, .int .u8 0, .int .u8 0, .int .u8 0, .int .u8 0, .int .u8 0, .int .u8 0, .int .u8 0, .int .u8 0, .int .u8 0, .int .u8 0, .int .u8 0, .int .u8 0, .int .u8 0, .int .u8 0, .int .u8 0, .int .u8 0, .int .u8 0, .int .u8 0, .int .u8 0, .int .u8 0, .int .u8 0, .int .u8 0, .int .u8 0, .int .u8 0, .int .u8 0, .int .u8 0, .int .u8 0, .int .u8 0, .int .u8 0, .int .u8 0, .int .u8 0, .int .u8 0, .int .u8 0, .int .u8 0, .int .u8 0, .int .u8 0, .int .u8 0, .int .u8 0, .int .u8 0, .int .u8 0, .int .u8 0, .int .u8 0, .int .u8 0, .int .u8 0, .int .u8 0, .int .u8 0, .int .u8 0, .int .u8 0, .int .u8 0, .int .u8 0, .int .u8 0, .int .u8 0, .int .u8 0, .int .u8 0, .int .u8 0, .int .u8 0, .int .u8 0, .int .u8 0, .int .u8 0, .int .u8 0, .int .u8 0, .int .u8 0, .int .u8 0, .int .u8 0, .int .u8 0, .int .u8 0, .int .u8 0, .int .u8 0, .int .u8 0, .int .u8 0, .int .u8 0, .int .u8 0, .int .u8 0, .int .u8 0, .int .u8 0, .int .u8 0, .int .u8 0, .int .u8 0, .int .u8 0, .int .u8 0, .int .u8 0, .int .u8 0, .int .u8 0, .int .u8 0, .int .u8 0, .int .u8 0, .int .u8 0, .int .u8 0, .int .u8 0, .int .u8 0, .int .u8 0, .int .u8 0, .int .u8 0, .int .u8 0, .int .u8 0, .int .u8 0, .int .u8 0, .int .u8 0, .int .u8 0, .int .u8 0, .int .u8 0, .int .u8 0, .int .u8 0, .int .u8 0, .int .u8 0, .int .u8 0, .int .u8 0, .int .u8 0, .int .u8 0, .int .u8 0, .int .u8 0, .int .u8 0, .int .u8 0, .int .u8 0, .int .u8 0, .int .u8 0, .int .u8 0, .int .u8 0, .int .u8 0, .int .u8 0, .int .u8 0, .int .u8 0, .int .u8 0, .int .u8 0, .int .u8 0, .int .u8 0, .int .u8 0, .int .u8 0, .int .u8 0, .int .u8 0, .int .u8 0, .int .u8 0, .int .u8 0, .int .u8 0, .int .u8 0, .int .u8 0, .int .u8 0, .int .u8 0, .int .u8 0, .int .u8 0, .int .u8 0, .int .u8 0, .int .u8 0, .int .u8 0, .int .u8 0, .int .u8 0, .int .u8 0, .int .u8 0, .int .u8 0, .int .u8 0, .int .u8 0, .int .u8 0, .int .u8 0, .int .u8 0, .int .u8 0, .int .u8 0, .int .u8 0, .int .u8 0, .int .u8 0, .int .u8 0, .int .u8 0, .int .u8 0, .int .u8 0, .int .u8 0, .int .u8 0, .int .u8 0, .int .u8 0, .int .u8 0, .int .u8 0, .int .u8 0, .int .u8 0, .int .u8 0, .int .u8 0, .int .u8 0, .int .u8 0, .int .u8 0, .int .u8 0, .int .u8 0, .int .u8 0, .int .u8 0, .int .u8 0, .int .u8 0, .int .u8 0, .int .u8 0, .int .u8 0, .int .u8 0, .int .u8 0, .int .u8 0, .int .u8 0, .int .u8 0, .int .u8 0, .int .u8 0, .int .u8 0, .int .u8 0, .int .u8 0, .int .u8 0, .int .u8 0, .int .u8 0, .int .u8 0, .int .u8 0, .int .u8 0, .int .u8 0, .int .u8 0, .int .u8 0, .int .u8 0, .int .u8 0, .int .u8 0, .int .u8 0, .int .u8 0, .int .u8 0, .int .u8 0, .int .u8 0, .int .u8 0, .int .u8 0, .int .u8 0, .int .u8 0, .int .u8 0, .int .u8 0, .int .u8 0, .int .u8 0, .int .u8 0, .int .u8 0, .int .u8 0, .int .u8 0, .int .u8 0, .int .u8 0, .int .u8 0, .int .u8 0, .int .u8 0, .int .u8 0, .int .u8 0, .int .u8 0, .bool false]) := ⟨⟨.agg ([.pointer none, .int .u32 0, .int .i64 0, .int .i64 0, .int .u8 0, .int .u8 0, .int .u8 0, .int .u8 0, .int .u8 0, .int .u8 0, .int .u8 0, .int .u8 0, .int .u8 0, .int .u8 0, .int .u8 0, .int .u8 0, .int .u8 0, .int .u8 0, .int .u8 0, .int .u8 0, .int .u8 0, .int .u8 0, .int .u8 0, .int .u8 0, .int .u8 0, .int .u8 0, .int .u8 0, .int .u8 0, .int .u8 0, .int .u8 0, .int .u8 0, .int .u8 0, .int .u8 0, .int .u8 0, .int .u8 0, .int .u8 0, .int .u8 0, .int .u8 0, .int .u8 0, .int .u8 0, .int .u8 0, .int .u8 0, .int .u8 0, .int .u8 0, .int .u8 0, .int .u8 0, .int .u8 0, .int .u8 0, .int .u8 0, .int .u8 0, .int .u8 0, .int .u8 0, .int .u8 0, .int .u8 0, .int .u8 0, .int .u8 0, .int .u8 0, .int .u8 0, .int .u8 0, .int .u8 0, .int .u8 0, .int .u8 0, .int .u8 0, .int .u8 0, .int .u8 0, .int .u8 0, .int .u8 0, .int .u8 0, .int .u8 0, .int .u8 0, .int .u8 0, .int .u8 0, .int .u8 0, .int .u8 0, .int .u8 0, .int .u8 0, .int .u8 0, .int .u8 0, .int .u8 0, .int .u8 0, .int .u8 0, .int .u8 0, .int .u8 0, .int .u8 0, .int .u8 0, .int .u8 0, .int .u8 0, .int .u8 0, .int .u8 0, .int .u8 0, .int .u8 0, .int .u8 0, .int .u8 0, .int .u8 0, .int .u8 0, .int .u8 0, .int .u8 0, .int .u8 0, .int .u8 0, .int .u8 0, .int .u8 0, .int .u8 0, .int .u8 0, .int .u8 0, .int .u8 0, .int .u8 0, .int .u8 0, .int .u8 0, .int .u8 0, .int .u8 0, .int .u8 0, .int .u8 0, .int .u8 0, .int .u8 0, .int .u8 0, .int .u8 0, .int .u8 0, .int .u8 0, .int .u8 0, .int .u8 0, .int .u8 0, .int .u8 0, .int .u8 0, .int .u8 0, .int .u8 0, .int .u8 0, .int .u8 0, .int .u8 0, .int .u8 0, .int .u8 0, .int .u8 0, .int .u8 0, .int .u8 0, .int .u8 0, .int .u8 0, .int .u8 0, .int .u8 0, .int .u8 0, .int .u8 0, .int .u8 0, .int .u8 0, .int .u8 0, .int .u8 0, .int .u8 0, .int .u8 0, .int .u8 0, .int .u8 0, .int .u8 0, .int .u8 0, .int .u8 0, .int .u8 0, .int .u8 0, .int .u8 0, .int .u8 0, .int .u8 0, .int .u8 0, .int .u8 0, .int .u8 0, .int .u8 0, .int .u8 0, .int .u8 0, .int .u8 0, .int .u8 0, .int .u8 0, .int .u8 0, .int .u8 0, .int .u8 0, .int .u8 0, .int .u8 0, .int .u8 0, .int .u8 0, .int .u8 0, .int .u8 0, .int .u8 0, .int .u8 0, .int .u8 0, .int .u8 0, .int .u8 0, .int .u8 0, .int .u8 0, .int .u8 0, .int .u8 0, .int .u8 0, .int .u8 0, .int .u8 0, .int .u8 0, .int .u8 0, .int .u8 0, .int .u8 0, .int .u8 0, .int .u8 0, .int .u8 0, .int .u8 0, .int .u8 0, .int .u8 0, .int .u8 0, .int .u8 0, .int .u8 0, .int .u8 0, .int .u8 0, .int .u8 0, .int .u8 0, .int .u8 0, .int .u8 0, .int .u8 0, .int .u8 0, .int .u8 0, .int .u8 0, .int .u8 0, .int .u8 0, .int .u8 0, .int .u8 0, .int .u8 0, .int .u8 0, .int .u8 0, .int .u8 0, .int .u8 0, .int .u8 0, .int .u8 0, .int .u8 0, .int .u8 0, .int .u8 0, .int .u8 0, .int .u8 0, .int .u8 0, .int .u8 0, .int .u8 0, .int .u8 0, .int .u8 0, .int .u8 0, .int .u8 0, .int .u8 0, .int .u8 0, .int .u8 0, .int .u8 0, .int .u8 0, .int .u8 0, .int .u8 0, .int .u8 0, .int .u8 0, .int .u8 0, .int .u8 0, .int .u8 0, .int .u8 0, .int .u8 0, .int .u8 0, .int .u8 0, .int .u8 0, .int .u8 0, .int .u8 0, .int .u8 0, .int .u8 0, .int .u8 0, .int .u8 0, .int .u8 0, .int .u8 0, .int .u8 0, .int .u8 0, .int .u8 0, .int .u8 0, .int .u8 0, .int .u8 0, .int .u8 0, .int .u8 0, .int .u8 0, .int .u8 0, .int .u8 0, .int .u8 0, .int .u8 0, .int .u8 0, .int .u8 0, .int .u8 0, .int .u8 0, .int .u8 0, .int .u8 0, .int .u8 0, .int .u8 0, .int .u8 0, .int .u8 0, .int .u8 0, .int .u8 0, .int .u8 0, .int .u8 0, .int .u8 0, .int .u8 0, .int .u8 0, .int .u8 0, .int .u8 0, .int .u8 0, .int .u8 0, .int .u8 0, .int .u8 0, .int .u8 0, .int .u8 0, .int .u8 0, .int .u8 0, .int .u8 0, .int .u8 0, .int .u8 0, .int .u8 0, .int .u8 0, .int .u8 0, .int .u8 0, .int .u8 0, .int .u8 0, .int .u8 0, .int .u8 0, .int .u8 0, .int .u8 0, .int .u8 0, .int .u8 0, .int .u8 0, .int .u8 0, .int .u8 0, .int .u8 0, .int .u8 0, .int .u8 0, .int .u8 0, .int .u8 0, .int .u8 0, .int .u8 0, .int .u8 0, .int .u8 0, .int .u8 0, .int .u8 0, .int .u8 0, .int .u8 0, .int .u8 0, .int .u8 0, .int .u8 0, .int .u8 0, .int .u8 0, .int .u8 0, .int .u8 0, .int .u8 0, .int .u8 0, .int .u8 0, .int .u8 0, .int .u8 0, .int .u8 0, .int .u8 0, .int .u8 0, .int .u8 0, .int .u8 0, .int .u8 0, .int .u8 0, .int .u8 0, .int .u8 0, .int .u8 0, .int .u8 0, .int .u8 0, .int .u8 0, .int .u8 0, .int .u8 0, .int .u8 0, .int .u8 0, .int .u8 0, .int .u8 0, .int .u8 0, .int .u8 0, .int .u8 0, .int .u8 0, .int .u8 0, .int .u8 0, .int .u8 0, .int .u8 0, .int .u8 0, .int .u8 0, .int .u8 0, .int .u8 0, .int .u8 0, .int .u8 0, .int .u8 0, .int .u8 0, .int .u8 0, .int .u8 0, .int .u8 0, .int .u8 0, .int .u8 0, .int .u8 0, .int .u8 0, .int .u8 0, .int .u8 0, .int .u8 0, .int .u8 0, .int .u8 0, .int .u8 0, .int .u8 0, .int .u8 0, .int .u8 0, .int .u8 0, .int .u8 0, .int .u8 0, .int .u8 0, .int .u8 0, .int .u8 0, .int .u8 0, .int .u8 0, .int .u8 0, .int .u8 0, .int .u8 0, .int .u8 0, .int .u8 0, .int .u8 0, .int .u8 0, .int .u8 0, .int .u8 0, .int .u8 0, .int .u8 0, .int .u8 0, .int .u8 0, .int .u8 0, .int .u8 0, .int .u8 0, .int .u8 0, .int .u8 0, .int .u8 0, .int .u8 0, .int .u8 0, .int .u8 0, .int .u8 0, .int .u8 0, .int .u8 0, .int .u8 0, .int .u8 0, .int .u8 0, .int .u8 0, .int .u8 0, .int .u8 0, .int .u8 0, .int .u8 0, .int .u8 0, .int .u8 0, .int .u8 0, .int .u8 0, .int .u8 0, .int .u8 0, .int .u8 0, .int .u8 0, .int .u8 0, .int .u8 0, .int .u8 0, .int .u8 0, .int .u8 0, .int .u8 0, .int .u8 0, .int .u8 0, .int .u8 0, .int .u8 0, .int .u8 0, .int .u8 0, .int .u8 0, .int .u8 0, .int .u8 0, .int .u8 0, .int .u8 0, .int .u8 0, .int .u8 0, .int .u8 0, .int .u8 0, .int .u8 0, .int .u8 0, .int .u8 0, .int .u8 0, .int .u8 0, .int .u8 0, .int .u8 0, .int .u8 0, .int .u8 0, .int .u8 0, .int .u8 0, .int .u8 0, .int .u8 0, .int .u8 0, .int .u8 0, .int .u8 0, .int .u8 0, .int .u8 0, .int .u8 0, .int .u8 0, .int .u8 0, .int .u8 0, .int .u8 0, .int .u8 0, .int .u8 0, .int .u8 0, .int .u8 0, .int .u8 0, .int .u8 0, .int .u8 0, .int .u8 0, .int .u8 0, .int .u8 0, .int .u8 0, .int .u8 0, .int .u8 0, .int .u8 0, .int .u8 0, .int .u8 0, .int .u8 0, .int .u8 0, .int .u8 0, .int .u8 0, .int .u8 0, .int .u8 0, .int .u8 0, .int .u8 0, .int .u8 0, .int .u8 0, .int .u8 0, .int .u8 0, .int .u8 0, .int .u8 0, .int .u8 0, .int .u8 0, .int .u8 0, .int .u8 0, .int .u8 0, .int .u8 0, .int .u8 0, .int .u8 0, .int .u8 0, .int .u8 0, .int .u8 0, .int .u8 0, .int .u8 0, .int .u8 0, .int .u8 0, .int .u8 0, .int .u8 0, .int .u8 0, .int .u8 0, .int .u8 0, .int .u8 0, .int .u8 0, .int .u8 0, .int .u8 0, .int .u8 0, .int .u8 0, .int .u8 0, .int .u8 0, .int .u8 0, .int .u8 0, .int .u8 0, .int .u8 0, .int .u8 0, .int .u8 0, .int .u8 0, .int .u8 0, .int .u8 0, .int .u8 0, .int .u8 0, .int .u8 0, .int .u8 0, .int .u8 0, .int .u8 0, .int .u8 0, .int .u8 0, .int .u8 0, .int .u8 0, .int .u8 0, .int .u8 0, .int .u8 0, .int .u8 0, .int .u8 0, .int .u8 0, .int .u8 0, .int .u8 0, .int .u8 0, .int .u8 0, .int .u8 0, .int .u8 0, .int .u8 0, .int .u8 0, .int .u8 0, .int .u8 0, .int .u8 0, .int .u8 0, .int .u8 0, .int .u8 0, .int .u8 0, .int .u8 0, .int .u8 0, .int .u8 0, .int .u8 0, .int .u8 0, .int .u8 0, .int .u8 0, .int .u8 0, .int .u8 0, .int .u8 0, .int .u8 0, .int .u8 0, .int .u8 0, .int .u8 0, .int .u8 0, .int .u8 0, .int .u8 0, .int .u8 0, .int .u8 0, .int .u8 0, .int .u8 0, .int .u8 0, .int .u8 0, .int .u8 0, .int .u8 0, .int .u8 0, .int .u8 0, .int .u8 0, .int .u8 0, .int .u8 0, .int .u8 0, .int .u8 0, .int .u8 0, .int .u8 0, .int .u8 0, .int .u8 0, .int .u8 0, .int .u8 0, .int .u8 0, .int .u8 0, .int .u8 0, .int .u8 0, .int .u8 0, .int .u8 0, .int .u8 0, .int .u8 0, .int .u8 0, .int .u8 0, .int .u8 0, .int .u8 0, .int .u8 0, .int .u8 0, .int .u8 0, .int .u8 0, .int .u8 0, .int .u8 0, .int .u8 0, .int .u8 0, .int .u8 0, .int .u8 0, .int .u8 0, .int .u8 0, .int .u8 0, .bool false]).toArray, by kernel_rfl, by kernel_rfl⟩⟩
instance : FldC Tryd.prog 139 0 0 := ⟨⟨_, _, Tryd.underlying139, rfl, rfl, 0, by kernel_rfl⟩⟩
instance : FldV Tryd.prog 139 0 0 1 true := ⟨⟨_, _, _, Tryd.underlying139, rfl, rfl, by kernel_rfl, Tryd.underlying24, rfl⟩⟩
instance : FldC Tryd.prog 139 1 1 := ⟨⟨_, _, Tryd.underlying139, rfl, rfl, 0, by kernel_rfl⟩⟩
instance : FldV Tryd.prog 139 1 1 1 true := ⟨⟨_, _, _, Tryd.underlying139, rfl, rfl, by kernel_rfl, Tryd.underlying32, rfl⟩⟩
instance : FldC Tryd.prog 139 2 2 := ⟨⟨_, _, Tryd.underlying139, rfl, rfl, 0, by kernel_rfl⟩⟩
instance : FldV Tryd.prog 139 2 2 1 true := ⟨⟨_, _, _, Tryd.underlying139, rfl, rfl, by kernel_rfl, Tryd.underlying3, rfl⟩⟩
instance : FldC Tryd.prog 139 3 3 := ⟨⟨_, _, Tryd.underlying139, rfl, rfl, 0, by kernel_rfl⟩⟩
instance : FldV Tryd.prog 139 3 3 1 true := ⟨⟨_, _, _, Tryd.underlying139, rfl, rfl, by kernel_rfl, Tryd.underlying3, rfl⟩⟩
instance : FldC Tryd.prog 139 4 4 := ⟨⟨_, _, Tryd.underlying139, rfl, rfl, 639, by kernel_rfl⟩⟩
instance : FldV Tryd.prog 139 4 4 640 false := ⟨⟨_, _, _, Tryd.underlying139, rfl, rfl, by kernel_rfl, Tryd.underlying138, rfl⟩⟩
instance : FldC Tryd.prog 139 5 644 := ⟨⟨_, _, Tryd.underlying139, rfl, rfl, 0, by kernel_rfl⟩⟩
instance : FldV Tryd.prog 139 5 644 1 true := ⟨⟨_, _, _, Tryd.underlying139, rfl, rfl, by kernel_rfl, Tryd.underlying4, rfl⟩⟩
-- 141 func(int,%20int)%20int
instance : OneC Tryd.prog 141 := ⟨⟨_, Tryd.underlying141, rfl⟩, by kernel_rfl⟩
instance : ZeroC Tryd.prog 141 ([.nilFunc]) := ⟨⟨.nilFunc, by kernel_rfl, by kernel_rfl⟩⟩
-- 143 func([]uint8)%20(uint32,%20int,%20[]uint8,%20bool)
instance : OneC Tryd.prog 143 := ⟨⟨_, Tryd.underlying143, rfl⟩, by kernel_rfl⟩
instance : ZeroC Tryd.prog 143 ([.nilFunc]) := ⟨⟨.nilFunc, by kernel_rfl, by kernel_rfl⟩⟩
-- 144 func(uint64,%20int)%20[]uint8
instance : OneC Tryd.prog 144 := ⟨⟨_, Tryd.underlying144, rfl⟩, by kernel_rfl⟩
instance : ZeroC Tryd.prog 144 ([.nilFunc]) := ⟨⟨.nilFunc, by kernel_rfl, by kernel_rfl⟩⟩
-- 145 uint64
instance : OneC Tryd.prog 145 := ⟨⟨_, Tryd.underlying145, rfl⟩, by kernel_rfl⟩
instance : ZeroC Tryd.prog 145 ([.int .u64 0]) := ⟨⟨.int .u64 0, by kernel_rfl, by kernel_rfl⟩⟩
instance : IntC Tryd.prog 145 .u64 := ⟨Tryd.underlying145⟩
-- 146 func([]uint8)%20[]uint8
instance : OneC Tryd.prog 146 := ⟨⟨_, Tryd.underlying146, rfl⟩, by kernel_rfl⟩
instance : ZeroC Tryd.prog 146 ([.nilFunc]) := ⟨⟨.nilFunc, by kernel_rfl, by kernel_rfl⟩⟩
-- 148 func(extent.Extent,%20int)%20(int,%20api.Errno)
instance : OneC Tryd.prog 148 := ⟨⟨_, Tryd.underlying148, rfl⟩, by kernel_rfl⟩
instance : ZeroC Tryd.prog 148 ([.nilFunc]) := ⟨⟨.nilFunc, by kernel_rfl, by kernel_rfl⟩⟩
-- 149 struct%20{%20extent.Extent;%20d%20*disk.Disk%20}
instance : RowC Tryd.prog 149 3 := ⟨⟨_, Tryd.underlying149, rfl⟩, by kernel_rfl⟩
instance : ZeroC Tryd.prog 149 ([.int .i64 0, .int .i64 0, .pointer none]) := ⟨⟨.agg ([.int .i64 0, .int .i64 0, .pointer none]).toArray, by kernel_rfl, by kernel_rfl⟩⟩
instance : FldC Tryd.prog 149 0 0 := ⟨⟨_, _, Tryd.underlying149, rfl, rfl, 1, by kernel_rfl⟩⟩
instance : FldV Tryd.prog 149 0 0 2 false := ⟨⟨_, _, _, Tryd.underlying149, rfl, rfl, by kernel_rfl, Tryd.underlying110, rfl⟩⟩
instance : FldC Tryd.prog 149 1 2 := ⟨⟨_, _, Tryd.underlying149, rfl, rfl, 0, by kernel_rfl⟩⟩
instance : FldV Tryd.prog 149 1 2 1 true := ⟨⟨_, _, _, Tryd.underlying149, rfl, rfl, by kernel_rfl, Tryd.underlying23, rfl⟩⟩
-- 150 extent.Part
instance : RowC Tryd.prog 150 3 := ⟨⟨_, Tryd.underlying150, rfl⟩, by kernel_rfl⟩
instance : ZeroC Tryd.prog 150 ([.int .i64 0, .int .i64 0, .pointer none]) := ⟨⟨.agg ([.int .i64 0, .int .i64 0, .pointer none]).toArray, by kernel_rfl, by kernel_rfl⟩⟩
instance : FldC Tryd.prog 150 0 0 := ⟨⟨_, _, Tryd.underlying150, rfl, rfl, 1, by kernel_rfl⟩⟩
instance : FldV Tryd.prog 150 0 0 2 false := ⟨⟨_, _, _, Tryd.underlying150, rfl, rfl, by kernel_rfl, Tryd.underlying110, rfl⟩⟩
instance : FldC Tryd.prog 150 1 2 := ⟨⟨_, _, Tryd.underlying150, rfl, rfl, 0, by kernel_rfl⟩⟩
instance : FldV Tryd.prog 150 1 2 1 true := ⟨⟨_, _, _, Tryd.underlying150, rfl, rfl, by kernel_rfl, Tryd.underlying23, rfl⟩⟩
-- 151 func()%20(nacelleref05.Disk,%20bool)
instance : OneC Tryd.prog 151 := ⟨⟨_, Tryd.underlying151, rfl⟩, by kernel_rfl⟩
instance : ZeroC Tryd.prog 151 ([.nilFunc]) := ⟨⟨.nilFunc, by kernel_rfl, by kernel_rfl⟩⟩
-- 152 struct%20{%20At%20int;%20B%20string%20}
instance : RowC Tryd.prog 152 2 := ⟨⟨_, Tryd.underlying152, rfl⟩, by kernel_rfl⟩
instance : ZeroC Tryd.prog 152 ([.int .i64 0, .string ⟨#[]⟩]) := ⟨⟨.agg ([.int .i64 0, .string ⟨#[]⟩]).toArray, by kernel_rfl, by kernel_rfl⟩⟩
instance : FldC Tryd.prog 152 0 0 := ⟨⟨_, _, Tryd.underlying152, rfl, rfl, 0, by kernel_rfl⟩⟩
instance : FldV Tryd.prog 152 0 0 1 true := ⟨⟨_, _, _, Tryd.underlying152, rfl, rfl, by kernel_rfl, Tryd.underlying3, rfl⟩⟩
instance : FldC Tryd.prog 152 1 1 := ⟨⟨_, _, Tryd.underlying152, rfl, rfl, 0, by kernel_rfl⟩⟩
instance : FldV Tryd.prog 152 1 1 1 true := ⟨⟨_, _, _, Tryd.underlying152, rfl, rfl, by kernel_rfl, Tryd.underlying9, rfl⟩⟩
-- 153 nacelleref05.Write
instance : RowC Tryd.prog 153 2 := ⟨⟨_, Tryd.underlying153, rfl⟩, by kernel_rfl⟩
instance : ZeroC Tryd.prog 153 ([.int .i64 0, .string ⟨#[]⟩]) := ⟨⟨.agg ([.int .i64 0, .string ⟨#[]⟩]).toArray, by kernel_rfl, by kernel_rfl⟩⟩
instance : FldC Tryd.prog 153 0 0 := ⟨⟨_, _, Tryd.underlying153, rfl, rfl, 0, by kernel_rfl⟩⟩
instance : FldV Tryd.prog 153 0 0 1 true := ⟨⟨_, _, _, Tryd.underlying153, rfl, rfl, by kernel_rfl, Tryd.underlying3, rfl⟩⟩
instance : FldC Tryd.prog 153 1 1 := ⟨⟨_, _, Tryd.underlying153, rfl, rfl, 0, by kernel_rfl⟩⟩
instance : FldV Tryd.prog 153 1 1 1 true := ⟨⟨_, _, _, Tryd.underlying153, rfl, rfl, by kernel_rfl, Tryd.underlying9, rfl⟩⟩
-- 154 func([]string)%20(nacelleref16.Log,%20int)
instance : OneC Tryd.prog 154 := ⟨⟨_, Tryd.underlying154, rfl⟩, by kernel_rfl⟩
instance : ZeroC Tryd.prog 154 ([.nilFunc]) := ⟨⟨.nilFunc, by kernel_rfl, by kernel_rfl⟩⟩
-- 155 func(uint32,%20int,%20[]int,%20[]string)%20(nacelleref16.Log,%20int)
instance : OneC Tryd.prog 155 := ⟨⟨_, Tryd.underlying155, rfl⟩, by kernel_rfl⟩
instance : ZeroC Tryd.prog 155 ([.nilFunc]) := ⟨⟨.nilFunc, by kernel_rfl, by kernel_rfl⟩⟩
-- 156 func([]int,%20[]string)%20(nacelleref16.Log,%20int)
instance : OneC Tryd.prog 156 := ⟨⟨_, Tryd.underlying156, rfl⟩, by kernel_rfl⟩
instance : ZeroC Tryd.prog 156 ([.nilFunc]) := ⟨⟨.nilFunc, by kernel_rfl, by kernel_rfl⟩⟩
-- 157 func(extent.Extent,%20int)%20bool
instance : OneC Tryd.prog 157 := ⟨⟨_, Tryd.underlying157, rfl⟩, by kernel_rfl⟩
instance : ZeroC Tryd.prog 157 ([.nilFunc]) := ⟨⟨.nilFunc, by kernel_rfl, by kernel_rfl⟩⟩
-- 158 func([]uint8)%20([]uint8,%20api.Errno)
instance : OneC Tryd.prog 158 := ⟨⟨_, Tryd.underlying158, rfl⟩, by kernel_rfl⟩
instance : ZeroC Tryd.prog 158 ([.nilFunc]) := ⟨⟨.nilFunc, by kernel_rfl, by kernel_rfl⟩⟩
-- 159 *octet.Reader
instance : OneC Tryd.prog 159 := ⟨⟨_, Tryd.underlying159, rfl⟩, by kernel_rfl⟩
instance : ZeroC Tryd.prog 159 ([.pointer none]) := ⟨⟨.pointer none, by kernel_rfl, by kernel_rfl⟩⟩
instance : PtrC Tryd.prog 159 184 := ⟨Tryd.underlying159⟩
-- 160 func([]uint8)%20*octet.Reader
instance : OneC Tryd.prog 160 := ⟨⟨_, Tryd.underlying160, rfl⟩, by kernel_rfl⟩
instance : ZeroC Tryd.prog 160 ([.nilFunc]) := ⟨⟨.nilFunc, by kernel_rfl, by kernel_rfl⟩⟩
-- 161 func(int)%20uint64
instance : OneC Tryd.prog 161 := ⟨⟨_, Tryd.underlying161, rfl⟩, by kernel_rfl⟩
instance : ZeroC Tryd.prog 161 ([.nilFunc]) := ⟨⟨.nilFunc, by kernel_rfl, by kernel_rfl⟩⟩
-- 162 func([]uint8,%20[]uint8)%20bool
instance : OneC Tryd.prog 162 := ⟨⟨_, Tryd.underlying162, rfl⟩, by kernel_rfl⟩
instance : ZeroC Tryd.prog 162 ([.nilFunc]) := ⟨⟨.nilFunc, by kernel_rfl, by kernel_rfl⟩⟩
-- 163 func(uint64,%20int)
instance : OneC Tryd.prog 163 := ⟨⟨_, Tryd.underlying163, rfl⟩, by kernel_rfl⟩
instance : ZeroC Tryd.prog 163 ([.nilFunc]) := ⟨⟨.nilFunc, by kernel_rfl, by kernel_rfl⟩⟩
-- 164 func([]uint8)%20uint64
instance : OneC Tryd.prog 164 := ⟨⟨_, Tryd.underlying164, rfl⟩, by kernel_rfl⟩
instance : ZeroC Tryd.prog 164 ([.nilFunc]) := ⟨⟨.nilFunc, by kernel_rfl, by kernel_rfl⟩⟩
-- 165 func([]string,%20int,%20string)%20[]string
instance : OneC Tryd.prog 165 := ⟨⟨_, Tryd.underlying165, rfl⟩, by kernel_rfl⟩
instance : ZeroC Tryd.prog 165 ([.nilFunc]) := ⟨⟨.nilFunc, by kernel_rfl, by kernel_rfl⟩⟩
-- 166 func(*extent.Part,%20uint32,%20int,%20*[16][40]uint8)%20api.Errno
instance : OneC Tryd.prog 166 := ⟨⟨_, Tryd.underlying166, rfl⟩, by kernel_rfl⟩
instance : ZeroC Tryd.prog 166 ([.nilFunc]) := ⟨⟨.nilFunc, by kernel_rfl, by kernel_rfl⟩⟩
-- 167 *[16][40]uint8
instance : OneC Tryd.prog 167 := ⟨⟨_, Tryd.underlying167, rfl⟩, by kernel_rfl⟩
instance : ZeroC Tryd.prog 167 ([.pointer none]) := ⟨⟨.pointer none, by kernel_rfl, by kernel_rfl⟩⟩
instance : PtrC Tryd.prog 167 138 := ⟨Tryd.underlying167⟩
-- 169 func([]uint8)%20(uint32,%20int,%20bool)
instance : OneC Tryd.prog 169 := ⟨⟨_, Tryd.underlying169, rfl⟩, by kernel_rfl⟩
instance : ZeroC Tryd.prog 169 ([.nilFunc]) := ⟨⟨.nilFunc, by kernel_rfl, by kernel_rfl⟩⟩
-- 170 func(uint32)%20int
instance : OneC Tryd.prog 170 := ⟨⟨_, Tryd.underlying170, rfl⟩, by kernel_rfl⟩
instance : ZeroC Tryd.prog 170 ([.nilFunc]) := ⟨⟨.nilFunc, by kernel_rfl, by kernel_rfl⟩⟩
-- 172 func([]uint8,%20uint8,%20int)%20(uint32,%20[]uint8,%20bool)
instance : OneC Tryd.prog 172 := ⟨⟨_, Tryd.underlying172, rfl⟩, by kernel_rfl⟩
instance : ZeroC Tryd.prog 172 ([.nilFunc]) := ⟨⟨.nilFunc, by kernel_rfl, by kernel_rfl⟩⟩
-- 174 func([]uint8)%20(uint32,%20int,%20int,%20[]uint8,%20bool)
instance : OneC Tryd.prog 174 := ⟨⟨_, Tryd.underlying174, rfl⟩, by kernel_rfl⟩
instance : ZeroC Tryd.prog 174 ([.nilFunc]) := ⟨⟨.nilFunc, by kernel_rfl, by kernel_rfl⟩⟩
-- 175 func([]api.Change)
instance : OneC Tryd.prog 175 := ⟨⟨_, Tryd.underlying175, rfl⟩, by kernel_rfl⟩
instance : ZeroC Tryd.prog 175 ([.nilFunc]) := ⟨⟨.nilFunc, by kernel_rfl, by kernel_rfl⟩⟩
-- 176 func(uint32,%20int,%20api.Change)%20[]uint8
instance : OneC Tryd.prog 176 := ⟨⟨_, Tryd.underlying176, rfl⟩, by kernel_rfl⟩
instance : ZeroC Tryd.prog 176 ([.nilFunc]) := ⟨⟨.nilFunc, by kernel_rfl, by kernel_rfl⟩⟩
-- 177 func(uint32,%20int)%20[]uint8
instance : OneC Tryd.prog 177 := ⟨⟨_, Tryd.underlying177, rfl⟩, by kernel_rfl⟩
instance : ZeroC Tryd.prog 177 ([.nilFunc]) := ⟨⟨.nilFunc, by kernel_rfl, by kernel_rfl⟩⟩
-- 178 func([]uint8)%20uint32
instance : OneC Tryd.prog 178 := ⟨⟨_, Tryd.underlying178, rfl⟩, by kernel_rfl⟩
instance : ZeroC Tryd.prog 178 ([.nilFunc]) := ⟨⟨.nilFunc, by kernel_rfl, by kernel_rfl⟩⟩
-- 179 func(int,%20string)%20(nacelleref16.Log,%20int)
instance : OneC Tryd.prog 179 := ⟨⟨_, Tryd.underlying179, rfl⟩, by kernel_rfl⟩
instance : ZeroC Tryd.prog 179 ([.nilFunc]) := ⟨⟨.nilFunc, by kernel_rfl, by kernel_rfl⟩⟩
-- 180 func()%20(nacelleref16.Log,%20int)
instance : OneC Tryd.prog 180 := ⟨⟨_, Tryd.underlying180, rfl⟩, by kernel_rfl⟩
instance : ZeroC Tryd.prog 180 ([.nilFunc]) := ⟨⟨.nilFunc, by kernel_rfl, by kernel_rfl⟩⟩
-- 182 func([]uint8)%20(uint64,%20api.Errno)
instance : OneC Tryd.prog 182 := ⟨⟨_, Tryd.underlying182, rfl⟩, by kernel_rfl⟩
instance : ZeroC Tryd.prog 182 ([.nilFunc]) := ⟨⟨.nilFunc, by kernel_rfl, by kernel_rfl⟩⟩
-- 183 struct%20{%20b%20[]uint8;%20at%20int;%20code%20api.Errno%20}
instance : RowC Tryd.prog 183 3 := ⟨⟨_, Tryd.underlying183, rfl⟩, by kernel_rfl⟩
instance : ZeroC Tryd.prog 183 ([.slice none 0 0, .int .i64 0, .int .i64 0]) := ⟨⟨.agg ([.slice none 0 0, .int .i64 0, .int .i64 0]).toArray, by kernel_rfl, by kernel_rfl⟩⟩
instance : FldC Tryd.prog 183 0 0 := ⟨⟨_, _, Tryd.underlying183, rfl, rfl, 0, by kernel_rfl⟩⟩
instance : FldV Tryd.prog 183 0 0 1 true := ⟨⟨_, _, _, Tryd.underlying183, rfl, rfl, by kernel_rfl, Tryd.underlying37, rfl⟩⟩
instance : FldC Tryd.prog 183 1 1 := ⟨⟨_, _, Tryd.underlying183, rfl, rfl, 0, by kernel_rfl⟩⟩
instance : FldV Tryd.prog 183 1 1 1 true := ⟨⟨_, _, _, Tryd.underlying183, rfl, rfl, by kernel_rfl, Tryd.underlying3, rfl⟩⟩
instance : FldC Tryd.prog 183 2 2 := ⟨⟨_, _, Tryd.underlying183, rfl, rfl, 0, by kernel_rfl⟩⟩
instance : FldV Tryd.prog 183 2 2 1 true := ⟨⟨_, _, _, Tryd.underlying183, rfl, rfl, by kernel_rfl, Tryd.underlying28, rfl⟩⟩
-- 185 func(api.Errno)
instance : OneC Tryd.prog 185 := ⟨⟨_, Tryd.underlying185, rfl⟩, by kernel_rfl⟩
instance : ZeroC Tryd.prog 185 ([.nilFunc]) := ⟨⟨.nilFunc, by kernel_rfl, by kernel_rfl⟩⟩
-- 187 func(int)%20([]uint8,%20bool)
instance : OneC Tryd.prog 187 := ⟨⟨_, Tryd.underlying187, rfl⟩, by kernel_rfl⟩
instance : ZeroC Tryd.prog 187 ([.nilFunc]) := ⟨⟨.nilFunc, by kernel_rfl, by kernel_rfl⟩⟩
-- 188 func(uint32,%20int,%20[]uint8)%20[]uint8
instance : OneC Tryd.prog 188 := ⟨⟨_, Tryd.underlying188, rfl⟩, by kernel_rfl⟩
instance : ZeroC Tryd.prog 188 ([.nilFunc]) := ⟨⟨.nilFunc, by kernel_rfl, by kernel_rfl⟩⟩
-- 189 func([]uint8,%20func(uint8)%20bool)%20bool
instance : OneC Tryd.prog 189 := ⟨⟨_, Tryd.underlying189, rfl⟩, by kernel_rfl⟩
instance : ZeroC Tryd.prog 189 ([.nilFunc]) := ⟨⟨.nilFunc, by kernel_rfl, by kernel_rfl⟩⟩
-- 190 func(uint8)%20bool
instance : OneC Tryd.prog 190 := ⟨⟨_, Tryd.underlying190, rfl⟩, by kernel_rfl⟩
instance : ZeroC Tryd.prog 190 ([.nilFunc]) := ⟨⟨.nilFunc, by kernel_rfl, by kernel_rfl⟩⟩
-- 191 func(uint8,%20uint32,%20...uint8)%20[]uint8
instance : OneC Tryd.prog 191 := ⟨⟨_, Tryd.underlying191, rfl⟩, by kernel_rfl⟩
instance : ZeroC Tryd.prog 191 ([.nilFunc]) := ⟨⟨.nilFunc, by kernel_rfl, by kernel_rfl⟩⟩
-- 192 func(...[]uint8)%20[]uint8
instance : OneC Tryd.prog 192 := ⟨⟨_, Tryd.underlying192, rfl⟩, by kernel_rfl⟩
instance : ZeroC Tryd.prog 192 ([.nilFunc]) := ⟨⟨.nilFunc, by kernel_rfl, by kernel_rfl⟩⟩
-- 193 func(uint32,%20[]uint8)%20uint32
instance : OneC Tryd.prog 193 := ⟨⟨_, Tryd.underlying193, rfl⟩, by kernel_rfl⟩
instance : ZeroC Tryd.prog 193 ([.nilFunc]) := ⟨⟨.nilFunc, by kernel_rfl, by kernel_rfl⟩⟩
-- 194 func([]uint8,%20func(uint8)%20bool)%20int
instance : OneC Tryd.prog 194 := ⟨⟨_, Tryd.underlying194, rfl⟩, by kernel_rfl⟩
instance : ZeroC Tryd.prog 194 ([.nilFunc]) := ⟨⟨.nilFunc, by kernel_rfl, by kernel_rfl⟩⟩
-- 195 [][]uint8
instance : OneC Tryd.prog 195 := ⟨⟨_, Tryd.underlying195, rfl⟩, by kernel_rfl⟩
instance : ZeroC Tryd.prog 195 ([.slice none 0 0]) := ⟨⟨.slice none 0 0, by kernel_rfl, by kernel_rfl⟩⟩
instance : ElC Tryd.prog 195 37 1 24 ([.slice none 0 0]) := ⟨⟨.slice none 0 0, elT Tryd.underlying195 (by kernel_rfl) (by kernel_rfl) (by decide), by kernel_rfl⟩⟩
-- 196 func([]uint8,%20int)%20[]uint8
instance : OneC Tryd.prog 196 := ⟨⟨_, Tryd.underlying196, rfl⟩, by kernel_rfl⟩
instance : ZeroC Tryd.prog 196 ([.nilFunc]) := ⟨⟨.nilFunc, by kernel_rfl, by kernel_rfl⟩⟩
-- 197 uint
instance : OneC Tryd.prog 197 := ⟨⟨_, Tryd.underlying197, rfl⟩, by kernel_rfl⟩
instance : ZeroC Tryd.prog 197 ([.int .u64 0]) := ⟨⟨.int .u64 0, by kernel_rfl, by kernel_rfl⟩⟩
instance : IntC Tryd.prog 197 .u64 := ⟨Tryd.underlying197⟩
-- 198 [16]uint32
instance : RowC Tryd.prog 198 16 := ⟨⟨_, Tryd.underlying198, rfl⟩, by kernel_rfl⟩
instance : ZeroC Tryd.prog 198 (List.replicate 16 (.int .u32 0)) := ⟨⟨.agg (List.replicate 16 (.int .u32 0)).toArray, by kernel_rfl, by kernel_rfl⟩⟩
instance : ArrC Tryd.prog 198 16 1 true := ⟨⟨_, _, Tryd.underlying198, by kernel_rfl, Tryd.underlying32, rfl⟩⟩
-- 199 struct%20{%20_interface%20*abi.Type;%20concrete%20*abi.Type;%20asserted%20*abi.Type;%20missingMethod%20string%20}
instance : RowC Tryd.prog 199 4 := ⟨⟨_, Tryd.underlying199, rfl⟩, by kernel_rfl⟩
instance : ZeroC Tryd.prog 199 ([.pointer none, .pointer none, .pointer none, .string ⟨#[]⟩]) := ⟨⟨.agg ([.pointer none, .pointer none, .pointer none, .string ⟨#[]⟩]).toArray, by kernel_rfl, by kernel_rfl⟩⟩
instance : FldC Tryd.prog 199 0 0 := ⟨⟨_, _, Tryd.underlying199, rfl, rfl, 0, by kernel_rfl⟩⟩
instance : FldV Tryd.prog 199 0 0 1 true := ⟨⟨_, _, _, Tryd.underlying199, rfl, rfl, by kernel_rfl, Tryd.underlying17, rfl⟩⟩
instance : FldC Tryd.prog 199 1 1 := ⟨⟨_, _, Tryd.underlying199, rfl, rfl, 0, by kernel_rfl⟩⟩
instance : FldV Tryd.prog 199 1 1 1 true := ⟨⟨_, _, _, Tryd.underlying199, rfl, rfl, by kernel_rfl, Tryd.underlying17, rfl⟩⟩
instance : FldC Tryd.prog 199 2 2 := ⟨⟨_, _, Tryd.underlying199, rfl, rfl, 0, by kernel_rfl⟩⟩
instance : FldV Tryd.prog 199 2 2 1 true := ⟨⟨_, _, _, Tryd.underlying199, rfl, rfl, by kernel_rfl, Tryd.underlying17, rfl⟩⟩
instance : FldC Tryd.prog 199 3 3 := ⟨⟨_, _, Tryd.underlying199, rfl, rfl, 0, by kernel_rfl⟩⟩
instance : FldV Tryd.prog 199 3 3 1 true := ⟨⟨_, _, _, Tryd.underlying199, rfl, rfl, by kernel_rfl, Tryd.underlying9, rfl⟩⟩
-- 201 [0]*runtime.PanicNilError
instance : RowC Tryd.prog 201 0 := ⟨⟨_, Tryd.underlying201, rfl⟩, by kernel_rfl⟩
instance : ZeroC Tryd.prog 201 ([]) := ⟨⟨.agg ([]).toArray, by kernel_rfl, by kernel_rfl⟩⟩
instance : ArrC Tryd.prog 201 0 1 true := ⟨⟨_, _, Tryd.underlying201, by kernel_rfl, Tryd.underlying16, rfl⟩⟩
-- 202 struct%20{%20_%20[0]*runtime.PanicNilError%20}
instance : RowC Tryd.prog 202 0 := ⟨⟨_, Tryd.underlying202, rfl⟩, by kernel_rfl⟩
instance : ZeroC Tryd.prog 202 ([]) := ⟨⟨.agg ([]).toArray, by kernel_rfl, by kernel_rfl⟩⟩
-- 204 abi.TFlag
instance : OneC Tryd.prog 204 := ⟨⟨_, Tryd.underlying204, rfl⟩, by kernel_rfl⟩
instance : ZeroC Tryd.prog 204 ([.int .u8 0]) := ⟨⟨.int .u8 0, by kernel_rfl, by kernel_rfl⟩⟩
instance : IntC Tryd.prog 204 .u8 := ⟨Tryd.underlying204⟩
-- 205 abi.Kind
instance : OneC Tryd.prog 205 := ⟨⟨_, Tryd.underlying205, rfl⟩, by kernel_rfl⟩
instance : ZeroC Tryd.prog 205 ([.int .u8 0]) := ⟨⟨.int .u8 0, by kernel_rfl, by kernel_rfl⟩⟩
instance : IntC Tryd.prog 205 .u8 := ⟨Tryd.underlying205⟩
-- 206 func(unsafe.Pointer,%20unsafe.Pointer)%20bool
instance : OneC Tryd.prog 206 := ⟨⟨_, Tryd.underlying206, rfl⟩, by kernel_rfl⟩
instance : ZeroC Tryd.prog 206 ([.nilFunc]) := ⟨⟨.nilFunc, by kernel_rfl, by kernel_rfl⟩⟩
-- 207 *uint8
instance : OneC Tryd.prog 207 := ⟨⟨_, Tryd.underlying207, rfl⟩, by kernel_rfl⟩
instance : ZeroC Tryd.prog 207 ([.pointer none]) := ⟨⟨.pointer none, by kernel_rfl, by kernel_rfl⟩⟩
instance : PtrC Tryd.prog 207 5 := ⟨Tryd.underlying207⟩
-- 208 abi.NameOff
instance : OneC Tryd.prog 208 := ⟨⟨_, Tryd.underlying208, rfl⟩, by kernel_rfl⟩
instance : ZeroC Tryd.prog 208 ([.int .i32 0]) := ⟨⟨.int .i32 0, by kernel_rfl, by kernel_rfl⟩⟩
instance : IntC Tryd.prog 208 .i32 := ⟨Tryd.underlying208⟩
-- 209 abi.TypeOff
instance : OneC Tryd.prog 209 := ⟨⟨_, Tryd.underlying209, rfl⟩, by kernel_rfl⟩
instance : ZeroC Tryd.prog 209 ([.int .i32 0]) := ⟨⟨.int .i32 0, by kernel_rfl, by kernel_rfl⟩⟩
instance : IntC Tryd.prog 209 .i32 := ⟨Tryd.underlying209⟩
-- 210 struct%20{%20Size_%20uintptr;%20PtrBytes%20uintptr;%20Hash%20uint32;%20TFlag%20abi.TFlag;%20Align_%20uint8;%20FieldAlign_%20uint8;%20Kind_%20abi.Kind;%20Equal%20func(unsafe.Pointer,%20unsafe.Pointer)%20bool;%20GCData%20*uint8;%20Str%20abi.NameOff;%20PtrToThis%20abi.TypeOff%20}
instance : RowC Tryd.prog 210 11 := ⟨⟨_, Tryd.underlying210, rfl⟩, by kernel_rfl⟩
instance : ZeroC Tryd.prog 210 ([.int .u64 0, .int .u64 0, .int .u32 0, .int .u8 0, .int .u8 0, .int .u8 0, .int .u8 0, .nilFunc, .pointer none, .int .i32 0, .int .i32 0]) := ⟨⟨.agg ([.int .u64 0, .int .u64 0, .int .u32 0, .int .u8 0, .int .u8 0, .int .u8 0, .int .u8 0, .nilFunc, .pointer none, .int .i32 0, .int .i32 0]).toArray, by kernel_rfl, by kernel_rfl⟩⟩
instance : FldC Tryd.prog 210 0 0 := ⟨⟨_, _, Tryd.underlying210, rfl, rfl, 0, by kernel_rfl⟩⟩
instance : FldV Tryd.prog 210 0 0 1 true := ⟨⟨_, _, _, Tryd.underlying210, rfl, rfl, by kernel_rfl, Tryd.underlying12, rfl⟩⟩
instance : FldC Tryd.prog 210 1 1 := ⟨⟨_, _, Tryd.underlying210, rfl, rfl, 0, by kernel_rfl⟩⟩
instance : FldV Tryd.prog 210 1 1 1 true := ⟨⟨_, _, _, Tryd.underlying210, rfl, rfl, by kernel_rfl, Tryd.underlying12, rfl⟩⟩
instance : FldC Tryd.prog 210 2 2 := ⟨⟨_, _, Tryd.underlying210, rfl, rfl, 0, by kernel_rfl⟩⟩
instance : FldV Tryd.prog 210 2 2 1 true := ⟨⟨_, _, _, Tryd.underlying210, rfl, rfl, by kernel_rfl, Tryd.underlying32, rfl⟩⟩
instance : FldC Tryd.prog 210 3 3 := ⟨⟨_, _, Tryd.underlying210, rfl, rfl, 0, by kernel_rfl⟩⟩
instance : FldV Tryd.prog 210 3 3 1 true := ⟨⟨_, _, _, Tryd.underlying210, rfl, rfl, by kernel_rfl, Tryd.underlying204, rfl⟩⟩
instance : FldC Tryd.prog 210 4 4 := ⟨⟨_, _, Tryd.underlying210, rfl, rfl, 0, by kernel_rfl⟩⟩
instance : FldV Tryd.prog 210 4 4 1 true := ⟨⟨_, _, _, Tryd.underlying210, rfl, rfl, by kernel_rfl, Tryd.underlying5, rfl⟩⟩
instance : FldC Tryd.prog 210 5 5 := ⟨⟨_, _, Tryd.underlying210, rfl, rfl, 0, by kernel_rfl⟩⟩
instance : FldV Tryd.prog 210 5 5 1 true := ⟨⟨_, _, _, Tryd.underlying210, rfl, rfl, by kernel_rfl, Tryd.underlying5, rfl⟩⟩
instance : FldC Tryd.prog 210 6 6 := ⟨⟨_, _, Tryd.underlying210, rfl, rfl, 0, by kernel_rfl⟩⟩
instance : FldV Tryd.prog 210 6 6 1 true := ⟨⟨_, _, _, Tryd.underlying210, rfl, rfl, by kernel_rfl, Tryd.underlying205, rfl⟩⟩
instance : FldC Tryd.prog 210 7 7 := ⟨⟨_, _, Tryd.underlying210, rfl, rfl, 0, by kernel_rfl⟩⟩
instance : FldV Tryd.prog 210 7 7 1 true := ⟨⟨_, _, _, Tryd.underlying210, rfl, rfl, by kernel_rfl, Tryd.underlying206, rfl⟩⟩
instance : FldC Tryd.prog 210 8 8 := ⟨⟨_, _, Tryd.underlying210, rfl, rfl, 0, by kernel_rfl⟩⟩
instance : FldV Tryd.prog 210 8 8 1 true := ⟨⟨_, _, _, Tryd.underlying210, rfl, rfl, by kernel_rfl, Tryd.underlying207, rfl⟩⟩
instance : FldC Tryd.prog 210 9 9 := ⟨⟨_, _, Tryd.underlying210, rfl, rfl, 0, by kernel_rfl⟩⟩
instance : FldV Tryd.prog 210 9 9 1 true := ⟨⟨_, _, _, Tryd.underlying210, rfl, rfl, by kernel_rfl, Tryd.underlying208, rfl⟩⟩
instance : FldC Tryd.prog 210 10 10 := ⟨⟨_, _, Tryd.underlying210, rfl, rfl, 0, by kernel_rfl⟩⟩
instance : FldV Tryd.prog 210 10 10 1 true := ⟨⟨_, _, _, Tryd.underlying210, rfl, rfl, by kernel_rfl, Tryd.underlying209, rfl⟩⟩
instance : FunC Tryd.prog 3 := ⟨⟨_, _, Tryd.func3, by kernel_rfl, rfl⟩⟩  -- nacelle/nacellelaw20.AuditConfined
instance : FunC Tryd.prog 4 := ⟨⟨_, _, Tryd.func4, by kernel_rfl, rfl⟩⟩  -- nacelle/nacellelaw20.AuditKeeps
instance : FunC Tryd.prog 5 := ⟨⟨_, _, Tryd.func5, by kernel_rfl, rfl⟩⟩  -- nacelle/nacellelaw20.AuditPlays
instance : FunC Tryd.prog 6 := ⟨⟨_, _, Tryd.func6, by kernel_rfl, rfl⟩⟩  -- nacelle/nacellelaw16.WalNumbers
instance : FunC Tryd.prog 7 := ⟨⟨_, _, Tryd.func7, by kernel_rfl, rfl⟩⟩  -- nacelle/nacellelaw16.WalConfined
instance : FunC Tryd.prog 8 := ⟨⟨_, _, Tryd.func8, by kernel_rfl, rfl⟩⟩  -- nacelle/nacellelaw16.WalFull
instance : FunC Tryd.prog 9 := ⟨⟨_, _, Tryd.func9, by kernel_rfl, rfl⟩⟩  -- nacelle/nacellelaw16.WalOpens
instance : FunC Tryd.prog 10 := ⟨⟨_, _, Tryd.func10, by kernel_rfl, rfl⟩⟩  -- nacelle/nacellelaw16.WalCrashes
instance : FunC Tryd.prog 11 := ⟨⟨_, _, Tryd.func11, by kernel_rfl, rfl⟩⟩  -- nacelle/nacellelaw16.WalTwice
instance : FunC Tryd.prog 12 := ⟨⟨_, _, Tryd.func12, by kernel_rfl, rfl⟩⟩  -- nacelle/nacellelaw20.part
instance : FunC Tryd.prog 13 := ⟨⟨_, _, Tryd.func13, by kernel_rfl, rfl⟩⟩  -- nacelle/audit.Open
instance : FunC Tryd.prog 14 := ⟨⟨_, _, Tryd.func14, by kernel_rfl, rfl⟩⟩  -- (*nacelle/audit.Log).Add
instance : FunC Tryd.prog 15 := ⟨⟨_, _, Tryd.func15, by kernel_rfl, rfl⟩⟩  -- nacelle/nacelleref20.May
instance : FunC Tryd.prog 16 := ⟨⟨_, _, Tryd.func16, by kernel_rfl, rfl⟩⟩  -- (*nacelle/audit.Log).Entries
instance : FunC Tryd.prog 17 := ⟨⟨_, _, Tryd.func17, by kernel_rfl, rfl⟩⟩  -- (*nacelle/disk.Disk).Read
instance : FunC Tryd.prog 18 := ⟨⟨_, _, Tryd.func18, by kernel_rfl, rfl⟩⟩  -- nacelle/nacelleref05.Noughts
instance : FunC Tryd.prog 19 := ⟨⟨_, _, Tryd.func19, by kernel_rfl, rfl⟩⟩  -- nacelle/nacellelaw20.awake
instance : FunC Tryd.prog 20 := ⟨⟨_, _, Tryd.func20, by kernel_rfl, rfl⟩⟩  -- (*nacelle/disk.Disk).Arm
instance : FunC Tryd.prog 21 := ⟨⟨_, _, Tryd.func21, by kernel_rfl, rfl⟩⟩  -- (*nacelle/disk.Disk).Power
instance : FunC Tryd.prog 22 := ⟨⟨_, _, Tryd.func22, by kernel_rfl, rfl⟩⟩  -- nacelle/nacellelaw20.same
instance : FunC Tryd.prog 23 := ⟨⟨_, _, Tryd.func23, by kernel_rfl, rfl⟩⟩  -- nacelle/nacellelaw20.count
instance : FunC Tryd.prog 24 := ⟨⟨_, _, Tryd.func24, by kernel_rfl, rfl⟩⟩  -- nacelle/nacelleref05.New
instance : FunC Tryd.prog 25 := ⟨⟨_, _, Tryd.func25, by kernel_rfl, rfl⟩⟩  -- nacelle/nacelleref20.Open
instance : FunC Tryd.prog 26 := ⟨⟨_, _, Tryd.func26, by kernel_rfl, rfl⟩⟩  -- (nacelle/nacelleref20.Log).Add
instance : FunC Tryd.prog 27 := ⟨⟨_, _, Tryd.func27, by kernel_rfl, rfl⟩⟩  -- (nacelle/nacelleref05.Disk).Arm
instance : FunC Tryd.prog 28 := ⟨⟨_, _, Tryd.func28, by kernel_rfl, rfl⟩⟩  -- (*nacelle/disk.Disk).Crash
instance : FunC Tryd.prog 29 := ⟨⟨_, _, Tryd.func29, by kernel_rfl, rfl⟩⟩  -- (nacelle/nacelleref05.Disk).Crash
instance : FunC Tryd.prog 30 := ⟨⟨_, _, Tryd.func30, by kernel_rfl, rfl⟩⟩  -- (nacelle/nacelleref05.Disk).Power
instance : FunC Tryd.prog 31 := ⟨⟨_, _, Tryd.func31, by kernel_rfl, rfl⟩⟩  -- (*nacelle/audit.Log).Dead
instance : FunC Tryd.prog 32 := ⟨⟨_, _, Tryd.func32, by kernel_rfl, rfl⟩⟩  -- (*nacelle/disk.Disk).Image
instance : FunC Tryd.prog 33 := ⟨⟨_, _, Tryd.func33, by kernel_rfl, rfl⟩⟩  -- (nacelle/nacelleref05.Disk).Image
instance : FunC Tryd.prog 34 := ⟨⟨_, _, Tryd.func34, by kernel_rfl, rfl⟩⟩  -- nacelle/nacellelaw16.awake
instance : FunC Tryd.prog 35 := ⟨⟨_, _, Tryd.func35, by kernel_rfl, rfl⟩⟩  -- nacelle/nacellelaw16.part
instance : FunC Tryd.prog 36 := ⟨⟨_, _, Tryd.func36, by kernel_rfl, rfl⟩⟩  -- nacelle/wal.Open
instance : FunC Tryd.prog 37 := ⟨⟨_, _, Tryd.func37, by kernel_rfl, rfl⟩⟩  -- (*nacelle/wal.Log).Commit
instance : FunC Tryd.prog 38 := ⟨⟨_, _, Tryd.func38, by kernel_rfl, rfl⟩⟩  -- nacelle/nacellelaw16.Changes
instance : FunC Tryd.prog 39 := ⟨⟨_, _, Tryd.func39, by kernel_rfl, rfl⟩⟩  -- nacelle/nacelleref16.Sector
instance : FunC Tryd.prog 40 := ⟨⟨_, _, Tryd.func40, by kernel_rfl, rfl⟩⟩  -- nacelle/nacelleref16.Noughts
instance : FunC Tryd.prog 41 := ⟨⟨_, _, Tryd.func41, by kernel_rfl, rfl⟩⟩  -- (*nacelle/extent.Part).Write
instance : FunC Tryd.prog 42 := ⟨⟨_, _, Tryd.func42, by kernel_rfl, rfl⟩⟩  -- (nacelle/nacelleref05.Disk).Write
instance : FunC Tryd.prog 43 := ⟨⟨_, _, Tryd.func43, by kernel_rfl, rfl⟩⟩  -- nacelle/nacelleref16.Open
instance : FunC Tryd.prog 44 := ⟨⟨_, _, Tryd.func44, by kernel_rfl, rfl⟩⟩  -- nacelle/nacellelaw16.is
instance : FunC Tryd.prog 45 := ⟨⟨_, _, Tryd.func45, by kernel_rfl, rfl⟩⟩  -- (nacelle/nacelleref16.Log).Commit
instance : FunC Tryd.prog 46 := ⟨⟨_, _, Tryd.func46, by kernel_rfl, rfl⟩⟩  -- (*nacelle/disk.Disk).On
instance : FunC Tryd.prog 47 := ⟨⟨_, _, Tryd.func47, by kernel_rfl, rfl⟩⟩  -- nacelle/nacellelaw16.from
instance : FunC Tryd.prog 48 := ⟨⟨_, _, Tryd.func48, by kernel_rfl, rfl⟩⟩  -- nacelle/nacellelaw16.pages
instance : FunC Tryd.prog 49 := ⟨⟨_, _, Tryd.func49, by kernel_rfl, rfl⟩⟩  -- nacelle/nacelleref16.May
instance : FunC Tryd.prog 50 := ⟨⟨_, _, Tryd.func50, by kernel_rfl, rfl⟩⟩  -- (*nacelle/disk.Disk).Waiting
instance : FunC Tryd.prog 51 := ⟨⟨_, _, Tryd.func51, by kernel_rfl, rfl⟩⟩  -- (*nacelle/wal.Log).Epoch
instance : FunC Tryd.prog 52 := ⟨⟨_, _, Tryd.func52, by kernel_rfl, rfl⟩⟩  -- (*nacelle/wal.Log).Used
instance : FunC Tryd.prog 53 := ⟨⟨_, _, Tryd.func53, by kernel_rfl, rfl⟩⟩  -- nacelle/disk.New
instance : FunC Tryd.prog 54 := ⟨⟨_, _, Tryd.func54, by kernel_rfl, rfl⟩⟩  -- nacelle/extent.New
instance : FunC Tryd.prog 55 := ⟨⟨_, _, Tryd.func55, by kernel_rfl, rfl⟩⟩  -- (*nacelle/extent.Part).Size
instance : FunC Tryd.prog 56 := ⟨⟨_, _, Tryd.func56, by kernel_rfl, rfl⟩⟩  -- (*nacelle/extent.Part).Read
instance : FunC Tryd.prog 57 := ⟨⟨_, _, Tryd.func57, by kernel_rfl, rfl⟩⟩  -- (nacelle/audit.place).entry
instance : FunC Tryd.prog 58 := ⟨⟨_, _, Tryd.func58, by kernel_rfl, rfl⟩⟩  -- nacelle/audit.valid
instance : FunC Tryd.prog 59 := ⟨⟨_, _, Tryd.func59, by kernel_rfl, rfl⟩⟩  -- (nacelle/audit.place).sector
instance : FunC Tryd.prog 60 := ⟨⟨_, _, Tryd.func60, by kernel_rfl, rfl⟩⟩  -- (*nacelle/extent.Part).Flush
instance : FunC Tryd.prog 61 := ⟨⟨_, _, Tryd.func61, by kernel_rfl, rfl⟩⟩  -- slices.Clone[[]nacelle/api.Entry,nacelle/api.Entry]
instance : FunC Tryd.prog 62 := ⟨⟨_, _, Tryd.func62, by kernel_rfl, rfl⟩⟩  -- (*nacelle/disk.Disk).has
instance : FunC Tryd.prog 63 := ⟨⟨_, _, Tryd.func63, by kernel_rfl, rfl⟩⟩  -- (*nacelle/disk.Disk).disarm
instance : FunC Tryd.prog 64 := ⟨⟨_, _, Tryd.func64, by kernel_rfl, rfl⟩⟩  -- slices.Clone[[]bool,bool]
instance : FunC Tryd.prog 65 := ⟨⟨_, _, Tryd.func65, by kernel_rfl, rfl⟩⟩  -- (nacelle/nacelleref05.Disk).Read
instance : FunC Tryd.prog 66 := ⟨⟨_, _, Tryd.func66, by kernel_rfl, rfl⟩⟩  -- nacelle/nacelleref20.Said
instance : FunC Tryd.prog 67 := ⟨⟨_, _, Tryd.func67, by kernel_rfl, rfl⟩⟩  -- nacelle/nacelleref20.Sector
instance : FunC Tryd.prog 68 := ⟨⟨_, _, Tryd.func68, by kernel_rfl, rfl⟩⟩  -- (nacelle/nacelleref05.Disk).Flush
instance : FunC Tryd.prog 69 := ⟨⟨_, _, Tryd.func69, by kernel_rfl, rfl⟩⟩  -- (nacelle/nacelleref05.Disk).laid
instance : FunC Tryd.prog 70 := ⟨⟨_, _, Tryd.func70, by kernel_rfl, rfl⟩⟩  -- (*nacelle/wal.Log).Page
instance : FunC Tryd.prog 71 := ⟨⟨_, _, Tryd.func71, by kernel_rfl, rfl⟩⟩  -- nacelle/wal.Format
instance : FunC Tryd.prog 72 := ⟨⟨_, _, Tryd.func72, by kernel_rfl, rfl⟩⟩  -- nacelle/nacelleref16.Format
instance : FunC Tryd.prog 73 := ⟨⟨_, _, Tryd.func73, by kernel_rfl, rfl⟩⟩  -- (*nacelle/wal.Log).readHead
instance : FunC Tryd.prog 74 := ⟨⟨_, _, Tryd.func74, by kernel_rfl, rfl⟩⟩  -- nacelle/wal.homeAt
instance : FunC Tryd.prog 75 := ⟨⟨_, _, Tryd.func75, by kernel_rfl, rfl⟩⟩  -- nacelle/wal.readPage
instance : FunC Tryd.prog 76 := ⟨⟨_, _, Tryd.func76, by kernel_rfl, rfl⟩⟩  -- (*nacelle/wal.Log).readRecords
instance : FunC Tryd.prog 77 := ⟨⟨_, _, Tryd.func77, by kernel_rfl, rfl⟩⟩  -- nacelle/wal.valid
instance : FunC Tryd.prog 78 := ⟨⟨_, _, Tryd.func78, by kernel_rfl, rfl⟩⟩  -- (*nacelle/wal.Log).Commit$1
instance : FunC Tryd.prog 79 := ⟨⟨_, _, Tryd.func79, by kernel_rfl, rfl⟩⟩  -- (*nacelle/wal.Log).checkpoint
instance : FunC Tryd.prog 80 := ⟨⟨_, _, Tryd.func80, by kernel_rfl, rfl⟩⟩  -- (*nacelle/wal.Log).record
instance : FunC Tryd.prog 81 := ⟨⟨_, _, Tryd.func81, by kernel_rfl, rfl⟩⟩  -- nacelle/nacelleref02.Put
instance : FunC Tryd.prog 82 := ⟨⟨_, _, Tryd.func82, by kernel_rfl, rfl⟩⟩  -- nacelle/nacelleref03.Seal
instance : FunC Tryd.prog 83 := ⟨⟨_, _, Tryd.func83, by kernel_rfl, rfl⟩⟩  -- nacelle/extent.Place
instance : FunC Tryd.prog 84 := ⟨⟨_, _, Tryd.func84, by kernel_rfl, rfl⟩⟩  -- (*nacelle/disk.Disk).Write
instance : FunC Tryd.prog 85 := ⟨⟨_, _, Tryd.func85, by kernel_rfl, rfl⟩⟩  -- (nacelle/nacelleref05.Disk).step
instance : FunC Tryd.prog 86 := ⟨⟨_, _, Tryd.func86, by kernel_rfl, rfl⟩⟩  -- nacelle/nacelleref16.State
instance : FunC Tryd.prog 87 := ⟨⟨_, _, Tryd.func87, by kernel_rfl, rfl⟩⟩  -- (*nacelle/wal.Log).Dead
instance : FunC Tryd.prog 88 := ⟨⟨_, _, Tryd.func88, by kernel_rfl, rfl⟩⟩  -- (nacelle/nacelleref16.Log).settle
instance : FunC Tryd.prog 89 := ⟨⟨_, _, Tryd.func89, by kernel_rfl, rfl⟩⟩  -- nacelle/nacelleref16.one
instance : FunC Tryd.prog 90 := ⟨⟨_, _, Tryd.func90, by kernel_rfl, rfl⟩⟩  -- (nacelle/nacelleref16.Log).all
instance : FunC Tryd.prog 91 := ⟨⟨_, _, Tryd.func91, by kernel_rfl, rfl⟩⟩  -- nacelle/extent.Lies
instance : FunC Tryd.prog 92 := ⟨⟨_, _, Tryd.func92, by kernel_rfl, rfl⟩⟩  -- (*nacelle/disk.Disk).Size
instance : FunC Tryd.prog 93 := ⟨⟨_, _, Tryd.func93, by kernel_rfl, rfl⟩⟩  -- nacelle/crc.Open
instance : FunC Tryd.prog 94 := ⟨⟨_, _, Tryd.func94, by kernel_rfl, rfl⟩⟩  -- nacelle/octet.Read
instance : FunC Tryd.prog 95 := ⟨⟨_, _, Tryd.func95, by kernel_rfl, rfl⟩⟩  -- (*nacelle/octet.Reader).Num
instance : FunC Tryd.prog 96 := ⟨⟨_, _, Tryd.func96, by kernel_rfl, rfl⟩⟩  -- bytes.Equal
instance : FunC Tryd.prog 97 := ⟨⟨_, _, Tryd.func97, by kernel_rfl, rfl⟩⟩  -- (nacelle/audit.place).sector$1
instance : FunC Tryd.prog 98 := ⟨⟨_, _, Tryd.func98, by kernel_rfl, rfl⟩⟩  -- nacelle/octet.Put
instance : FunC Tryd.prog 99 := ⟨⟨_, _, Tryd.func99, by kernel_rfl, rfl⟩⟩  -- nacelle/crc.Seal
instance : FunC Tryd.prog 100 := ⟨⟨_, _, Tryd.func100, by kernel_rfl, rfl⟩⟩  -- (*nacelle/disk.Disk).Flush
instance : FunC Tryd.prog 101 := ⟨⟨_, _, Tryd.func101, by kernel_rfl, rfl⟩⟩  -- nacelle/nacelleref02.Number
instance : FunC Tryd.prog 102 := ⟨⟨_, _, Tryd.func102, by kernel_rfl, rfl⟩⟩  -- nacelle/nacelleref05.with
instance : FunC Tryd.prog 103 := ⟨⟨_, _, Tryd.func103, by kernel_rfl, rfl⟩⟩  -- nacelle/wal.writeHome
instance : FunC Tryd.prog 104 := ⟨⟨_, _, Tryd.func104, by kernel_rfl, rfl⟩⟩  -- nacelle/wal.readHead
instance : FunC Tryd.prog 105 := ⟨⟨_, _, Tryd.func105, by kernel_rfl, rfl⟩⟩  -- nacelle/wal.headAt
instance : FunC Tryd.prog 106 := ⟨⟨_, _, Tryd.func106, by kernel_rfl, rfl⟩⟩  -- nacelle/wal.content
instance : FunC Tryd.prog 107 := ⟨⟨_, _, Tryd.func107, by kernel_rfl, rfl⟩⟩  -- nacelle/wal.readRecord
instance : FunC Tryd.prog 108 := ⟨⟨_, _, Tryd.func108, by kernel_rfl, rfl⟩⟩  -- nacelle/wal.readMark
instance : FunC Tryd.prog 109 := ⟨⟨_, _, Tryd.func109, by kernel_rfl, rfl⟩⟩  -- (*nacelle/wal.Log).apply
instance : FunC Tryd.prog 110 := ⟨⟨_, _, Tryd.func110, by kernel_rfl, rfl⟩⟩  -- nacelle/wal.recordSector
instance : FunC Tryd.prog 111 := ⟨⟨_, _, Tryd.func111, by kernel_rfl, rfl⟩⟩  -- nacelle/wal.markSector
instance : FunC Tryd.prog 112 := ⟨⟨_, _, Tryd.func112, by kernel_rfl, rfl⟩⟩  -- nacelle/nacelleref03.Of
instance : FunC Tryd.prog 113 := ⟨⟨_, _, Tryd.func113, by kernel_rfl, rfl⟩⟩  -- (*nacelle/disk.Disk).powered
instance : FunC Tryd.prog 114 := ⟨⟨_, _, Tryd.func114, by kernel_rfl, rfl⟩⟩  -- (nacelle/nacelleref16.Log).write
instance : FunC Tryd.prog 115 := ⟨⟨_, _, Tryd.func115, by kernel_rfl, rfl⟩⟩  -- (nacelle/nacelleref16.Log).flush
instance : FunC Tryd.prog 116 := ⟨⟨_, _, Tryd.func116, by kernel_rfl, rfl⟩⟩  -- nacelle/octet.Get
instance : FunC Tryd.prog 117 := ⟨⟨_, _, Tryd.func117, by kernel_rfl, rfl⟩⟩  -- nacelle/crc.Of
instance : FunC Tryd.prog 118 := ⟨⟨_, _, Tryd.func118, by kernel_rfl, rfl⟩⟩  -- (*nacelle/octet.Reader).fail
instance : FunC Tryd.prog 119 := ⟨⟨_, _, Tryd.func119, by kernel_rfl, rfl⟩⟩  -- (*nacelle/octet.Reader).take
instance : FunC Tryd.prog 120 := ⟨⟨_, _, Tryd.func120, by kernel_rfl, rfl⟩⟩  -- nacelle/octet.number
instance : FunC Tryd.prog 121 := ⟨⟨_, _, Tryd.func121, by kernel_rfl, rfl⟩⟩  -- nacelle/wal.pageSector
instance : FunC Tryd.prog 122 := ⟨⟨_, _, Tryd.func122, by kernel_rfl, rfl⟩⟩  -- nacelle/wal.headSector
instance : FunC Tryd.prog 123 := ⟨⟨_, _, Tryd.func123, by kernel_rfl, rfl⟩⟩  -- slices.ContainsFunc[[]byte,byte]
instance : FunC Tryd.prog 124 := ⟨⟨_, _, Tryd.func124, by kernel_rfl, rfl⟩⟩  -- nacelle/wal.content$1
instance : FunC Tryd.prog 125 := ⟨⟨_, _, Tryd.func125, by kernel_rfl, rfl⟩⟩  -- nacelle/wal.sector
instance : FunC Tryd.prog 126 := ⟨⟨_, _, Tryd.func126, by kernel_rfl, rfl⟩⟩  -- slices.Concat[[]byte,byte]
instance : FunC Tryd.prog 127 := ⟨⟨_, _, Tryd.func127, by kernel_rfl, rfl⟩⟩  -- nacelle/nacelleref03.On
instance : FunC Tryd.prog 128 := ⟨⟨_, _, Tryd.func128, by kernel_rfl, rfl⟩⟩  -- nacelle/crc.On
instance : FunC Tryd.prog 129 := ⟨⟨_, _, Tryd.func129, by kernel_rfl, rfl⟩⟩  -- (*nacelle/octet.Reader).Left
instance : FunC Tryd.prog 130 := ⟨⟨_, _, Tryd.func130, by kernel_rfl, rfl⟩⟩  -- slices.IndexFunc[[]byte,byte]
instance : FunC Tryd.prog 131 := ⟨⟨_, _, Tryd.func131, by kernel_rfl, rfl⟩⟩  -- slices.Grow[[]byte,byte]
end Go.Proofs.YtbknpbihgfphaaaDoor

/- Squeezed copy of the texts Ty Ty2 Tb. -/
import Derived.Test.YtgilmcpdpggikaaGreatDoorRows
import Derived.Test.YtgilmcpdpggikaaGreatDoorCK3
import Derived.Test.YtgilmcpdpggikaaGreatDoorCK4
import Derived.Laws.StructEq
import Derived.ChangeKeysEq
set_option maxRecDepth 100000
set_option maxHeartbeats 1000000
set_option linter.unusedSimpArgs false
namespace Go.Proofs.YtgilmcpdpggikaaGreatDoor
open Go Go.RowKit Go.Own
-- 1 func()
-- 2 int64
-- 3 int
instance : OneC Tryz.prog 3 := ⟨⟨_, Tryz.underlying3, rfl⟩, by kernel_rfl⟩
instance : ZeroC Tryz.prog 3 ([.int .i64 0]) := ⟨⟨.int .i64 0, by kernel_rfl, by kernel_rfl⟩⟩
instance : IntC Tryz.prog 3 .i64 := ⟨Tryz.underlying3⟩
-- 4 bool
instance : OneC Tryz.prog 4 := ⟨⟨_, Tryz.underlying4, rfl⟩, by kernel_rfl⟩
instance : ZeroC Tryz.prog 4 ([.bool false]) := ⟨⟨.bool false, by kernel_rfl, by kernel_rfl⟩⟩
-- 5 uint8
instance : OneC Tryz.prog 5 := ⟨⟨_, Tryz.underlying5, rfl⟩, by kernel_rfl⟩
instance : IntC Tryz.prog 5 .u8 := ⟨Tryz.underlying5⟩
-- 6 abi.BoundsErrorCode
-- 7 struct%20{%20x%20int64;%20y%20int;%20signed%20bool;%20code%20abi.BoundsErrorCode%20}
-- 9 string
instance : OneC Tryz.prog 9 := ⟨⟨_, Tryz.underlying9, rfl⟩, by kernel_rfl⟩
instance : StrC Tryz.prog 9 := ⟨Tryz.underlying9⟩
-- 10 runtime.errorString
-- 11 runtime.plainError
-- 12 uintptr
-- 13 struct%20{%20msg%20string;%20addr%20uintptr%20}
-- 15 *runtime.TypeAssertionError
-- 16 *runtime.PanicNilError
-- 17 *abi.Type
-- 18 struct%20{%20typ%20*abi.Type%20}
-- 20 interface%20{}
-- 21 int32
-- 22 []nacellelaw18.Act
instance : ElC Tryz.prog 22 51 7 104 ([.int .i64 0, .string ⟨#[]⟩, .string ⟨#[]⟩, .int .i64 0, .int .i64 0, .slice none 0 0, .slice none 0 0]) := ⟨⟨.agg ([.int .i64 0, .string ⟨#[]⟩, .string ⟨#[]⟩, .int .i64 0, .int .i64 0, .slice none 0 0, .slice none 0 0]).toArray, elT Tryz.underlying22 (by kernel_rfl) (by kernel_rfl) (by decide), by kernel_rfl⟩⟩
-- 23 struct%20{%20Acts%20[]nacellelaw18.Act;%20Path%20string;%20At%20int;%20N%20int%20}
-- 24 nacellelaw18.Files
-- 25 *disk.Disk
instance : OneC Tryz.prog 25 := ⟨⟨_, Tryz.underlying25, rfl⟩, by kernel_rfl⟩
-- 26 *extent.Part
instance : OneC Tryz.prog 26 := ⟨⟨_, Tryz.underlying26, rfl⟩, by kernel_rfl⟩
-- 27 *pfs.FS
-- 29 func(int,%20[]nacellelaw18.Act)%20(*disk.Disk,%20*extent.Part,%20*pfs.FS)
-- 30 []uint8
instance : OneC Tryz.prog 30 := ⟨⟨_, Tryz.underlying30, rfl⟩, by kernel_rfl⟩
instance : ZeroC Tryz.prog 30 ([.slice none 0 0]) := ⟨⟨.slice none 0 0, by kernel_rfl, by kernel_rfl⟩⟩
instance : ElC Tryz.prog 30 5 1 1 ([.int .u8 0]) := ⟨⟨.int .u8 0, elT Tryz.underlying30 (by kernel_rfl) (by kernel_rfl) (by decide), by kernel_rfl⟩⟩
instance : BytesC Tryz.prog 30 := ⟨⟨_, Tryz.underlying30, Tryz.underlying5, by kernel_rfl⟩⟩
-- 31 api.Errno
instance : OneC Tryz.prog 31 := ⟨⟨_, Tryz.underlying31, rfl⟩, by kernel_rfl⟩
instance : ZeroC Tryz.prog 31 ([.int .i64 0]) := ⟨⟨.int .i64 0, by kernel_rfl, by kernel_rfl⟩⟩
-- 33 func(api.Tree,%20string,%20int,%20int)%20([]uint8,%20api.Errno)
-- 34 [2]int
instance : RowC Tryz.prog 34 2 := ⟨⟨_, Tryz.underlying34, rfl⟩, by kernel_rfl⟩
instance : ArrC Tryz.prog 34 2 1 true := ⟨⟨_, _, Tryz.underlying34, by kernel_rfl, Tryz.underlying3, rfl⟩⟩
-- 35 struct%20{%20Kind%20int;%20Parent%20int;%20Name%20string;%20Size%20int;%20Blocks%20[2]int%20}
-- 37 [8]api.Node
instance : RowC Tryz.prog 37 48 := ⟨⟨_, Tryz.underlying37, rfl⟩, by kernel_rfl⟩
instance : ArrC Tryz.prog 37 8 6 false := ⟨⟨_, _, Tryz.underlying37, by kernel_rfl, Tryz.underlying36, rfl⟩⟩
-- 38 [40]uint8
instance : RowC Tryz.prog 38 40 := ⟨⟨_, Tryz.underlying38, rfl⟩, by kernel_rfl⟩
instance : ZeroC Tryz.prog 38 (List.replicate 40 (.int .u8 0)) := ⟨⟨.agg (List.replicate 40 (.int .u8 0)).toArray, by kernel_rfl, by kernel_rfl⟩⟩
instance : ArrC Tryz.prog 38 40 1 true := ⟨⟨_, _, Tryz.underlying38, by kernel_rfl, Tryz.underlying5, rfl⟩⟩
-- 39 [8][40]uint8
instance : RowC Tryz.prog 39 320 := ⟨⟨_, Tryz.underlying39, rfl⟩, by kernel_rfl⟩
instance : ArrC Tryz.prog 39 8 40 false := ⟨⟨_, _, Tryz.underlying39, by kernel_rfl, Tryz.underlying38, rfl⟩⟩
-- 40 struct%20{%20Nodes%20[8]api.Node;%20Blocks%20[8][40]uint8%20}
-- 42 func()%20api.Tree
-- 44 func(string)%20(int,%20api.Errno)
-- 45 func()%20bool
-- 46 func(int,%20int)%20api.Errno
-- 47 func(int,%20int)%20([]uint8,%20api.Errno)
-- 48 func(nacellelaw18.Files)%20bool
-- 49 []bool
instance : OneC Tryz.prog 49 := ⟨⟨_, Tryz.underlying49, rfl⟩, by kernel_rfl⟩
instance : ElC Tryz.prog 49 4 1 1 ([.bool false]) := ⟨⟨.bool false, elT Tryz.underlying49 (by kernel_rfl) (by kernel_rfl) (by decide), by kernel_rfl⟩⟩
-- 50 struct%20{%20Do%20int;%20Path%20string;%20To%20string;%20N%20int;%20H%20int;%20Data%20[]uint8;%20Keep%20[]bool%20}
-- 51 nacellelaw18.Act
instance : RowC Tryz.prog 51 7 := ⟨⟨_, Tryz.underlying51, rfl⟩, by kernel_rfl⟩
instance : ZeroC Tryz.prog 51 ([.int .i64 0, .string ⟨#[]⟩, .string ⟨#[]⟩, .int .i64 0, .int .i64 0, .slice none 0 0, .slice none 0 0]) := ⟨⟨.agg ([.int .i64 0, .string ⟨#[]⟩, .string ⟨#[]⟩, .int .i64 0, .int .i64 0, .slice none 0 0, .slice none 0 0]).toArray, by kernel_rfl, by kernel_rfl⟩⟩
instance : FldC Tryz.prog 51 0 0 := ⟨⟨_, _, Tryz.underlying51, rfl, rfl, 0, by kernel_rfl⟩⟩
instance : FldC Tryz.prog 51 1 1 := ⟨⟨_, _, Tryz.underlying51, rfl, rfl, 0, by kernel_rfl⟩⟩
instance : FldC Tryz.prog 51 2 2 := ⟨⟨_, _, Tryz.underlying51, rfl, rfl, 0, by kernel_rfl⟩⟩
instance : FldC Tryz.prog 51 3 3 := ⟨⟨_, _, Tryz.underlying51, rfl, rfl, 0, by kernel_rfl⟩⟩
instance : FldC Tryz.prog 51 4 4 := ⟨⟨_, _, Tryz.underlying51, rfl, rfl, 0, by kernel_rfl⟩⟩
instance : FldC Tryz.prog 51 5 5 := ⟨⟨_, _, Tryz.underlying51, rfl, rfl, 0, by kernel_rfl⟩⟩
instance : FldC Tryz.prog 51 6 6 := ⟨⟨_, _, Tryz.underlying51, rfl, rfl, 0, by kernel_rfl⟩⟩
-- 52 func(string,%20int)%20api.Errno
-- 53 func(string)%20api.Errno
-- 54 func(string,%20string)%20api.Errno
-- 55 func(int)%20api.Errno
-- 56 func(int,%20[]uint8)%20api.Errno
-- 57 func(api.Tree)%20bool
-- 58 func([]nacellelaw18.Act,%20nacellelaw18.Act)%20bool
-- 59 func()%20api.Errno
-- 61 func(*extent.Part,%20int)%20(*pfs.FS,%20api.Errno)
-- 62 func(int)%20int
-- 63 func(api.Tree)%20int
-- 64 func(*pfs.FS,%20nacellelaw18.Act)
-- 65 func([]nacellelaw18.Act,%20int,%20[]nacellelaw18.Act)%20bool
-- 66 func()%20int
-- 67 func()%20[]uint8
-- 68 []int
instance : ElC Tryz.prog 68 3 1 8 ([.int .i64 0]) := ⟨⟨.int .i64 0, elT Tryz.underlying68 (by kernel_rfl) (by kernel_rfl) (by decide), by kernel_rfl⟩⟩
-- 69 func()%20[]int
-- 70 func([]nacellelaw18.Act,%20int)%20bool
-- 71 []string
instance : OneC Tryz.prog 71 := ⟨⟨_, Tryz.underlying71, rfl⟩, by kernel_rfl⟩
instance : ElC Tryz.prog 71 9 1 16 ([.string ⟨#[]⟩]) := ⟨⟨.string ⟨#[]⟩, elT Tryz.underlying71 (by kernel_rfl) (by kernel_rfl) (by decide), by kernel_rfl⟩⟩
-- 72 []nacelleref05.Write
instance : OneC Tryz.prog 72 := ⟨⟨_, Tryz.underlying72, rfl⟩, by kernel_rfl⟩
instance : ElC Tryz.prog 72 233 2 24 ([.int .i64 0, .string ⟨#[]⟩]) := ⟨⟨.agg ([.int .i64 0, .string ⟨#[]⟩]).toArray, elT Tryz.underlying72 (by kernel_rfl) (by kernel_rfl) (by decide), by kernel_rfl⟩⟩
-- 73 struct%20{%20Has%20[]string;%20Waits%20[]nacelleref05.Write;%20Off%20bool;%20Left%20int;%20Survivors%20[]bool%20}
-- 74 nacelleref05.Disk
instance : RowC Tryz.prog 74 5 := ⟨⟨_, Tryz.underlying74, rfl⟩, by kernel_rfl⟩
instance : ZeroC Tryz.prog 74 ([.slice none 0 0, .slice none 0 0, .bool false, .int .i64 0, .slice none 0 0]) := ⟨⟨.agg ([.slice none 0 0, .slice none 0 0, .bool false, .int .i64 0, .slice none 0 0]).toArray, by kernel_rfl, by kernel_rfl⟩⟩
instance : FldC Tryz.prog 74 0 0 := ⟨⟨_, _, Tryz.underlying74, rfl, rfl, 0, by kernel_rfl⟩⟩
instance : FldC Tryz.prog 74 1 1 := ⟨⟨_, _, Tryz.underlying74, rfl, rfl, 0, by kernel_rfl⟩⟩
instance : FldC Tryz.prog 74 2 2 := ⟨⟨_, _, Tryz.underlying74, rfl, rfl, 0, by kernel_rfl⟩⟩
instance : FldC Tryz.prog 74 3 3 := ⟨⟨_, _, Tryz.underlying74, rfl, rfl, 0, by kernel_rfl⟩⟩
instance : FldC Tryz.prog 74 4 4 := ⟨⟨_, _, Tryz.underlying74, rfl, rfl, 0, by kernel_rfl⟩⟩
-- 76 func()%20(*disk.Disk,%20*extent.Part,%20nacelleref05.Disk,%20bool)
-- 77 func(int,%20[]bool)
-- 78 func([]bool)
-- 79 func([]nacellelaw18.Act)%20bool
-- 80 []nacelletop.Doing
-- 82 func(int)%20(*disk.Disk,%20api.Errno)
-- 83 [2]*extent.Part
-- 84 [2]*pfs.FS
-- 85 [2]api.Tree
-- 87 func(*disk.Disk,%20extent.Extent)%20(*extent.Part,%20api.Errno)
-- 88 struct%20{%20From%20int;%20Count%20int%20}
-- 89 extent.Extent
instance : RowC Tryz.prog 89 2 := ⟨⟨_, Tryz.underlying89, rfl⟩, by kernel_rfl⟩
instance : FldC Tryz.prog 89 0 0 := ⟨⟨_, _, Tryz.underlying89, rfl, rfl, 0, by kernel_rfl⟩⟩
instance : FldC Tryz.prog 89 1 1 := ⟨⟨_, _, Tryz.underlying89, rfl, rfl, 0, by kernel_rfl⟩⟩
-- 90 func(*extent.Part)%20api.Errno
-- 91 struct%20{%20Which%20bool;%20Kind%20int;%20File%20int;%20Bytes%20[]uint8;%20Arm%20int;%20Keep%20[]bool%20}
-- 92 nacelletop.Doing
-- 93 uint
instance : IntC Tryz.prog 93 .u64 := ⟨Tryz.underlying93⟩
-- 94 func([]nacelletop.Doing)%20bool
-- 95 func(*api.Tree,%20string,%20int)%20(int,%20api.Errno)
-- 96 *api.Tree
instance : OneC Tryz.prog 96 := ⟨⟨_, Tryz.underlying96, rfl⟩, by kernel_rfl⟩
-- 97 *wal.Log
instance : OneC Tryz.prog 97 := ⟨⟨_, Tryz.underlying97, rfl⟩, by kernel_rfl⟩
-- 98 struct%20{%20open%20bool;%20node%20int;%20at%20int%20}
-- 100 [4]pfs.handle
instance : RowC Tryz.prog 100 12 := ⟨⟨_, Tryz.underlying100, rfl⟩, by kernel_rfl⟩
instance : ArrC Tryz.prog 100 4 3 false := ⟨⟨_, _, Tryz.underlying100, by kernel_rfl, Tryz.underlying99, rfl⟩⟩
-- 101 struct%20{%20log%20*wal.Log;%20tree%20api.Tree;%20quota%20int;%20files%20[4]pfs.handle%20}
-- 103 func(api.Tree,%20string)%20(int,%20api.Errno)
-- 104 *pfs.handle
instance : PtrC Tryz.prog 104 99 := ⟨Tryz.underlying104⟩
-- 105 func(int)%20*pfs.handle
-- 106 func(*pfs.handle)%20string
-- 107 func(api.Tree,%20api.Errno)%20api.Errno
-- 109 func(api.Tree,%20string,%20int)%20(api.Tree,%20api.Errno)
-- 110 func(api.Tree,%20string)%20(api.Tree,%20api.Errno)
-- 111 func(api.Tree,%20string,%20string)%20(api.Tree,%20api.Errno)
-- 112 func(api.Tree,%20string,%20int,%20[]uint8,%20int)%20(api.Tree,%20api.Errno)
-- 114 func(*api.Tree,%20int)%20bool
-- 115 struct%20{%20dir%20int;%20name%20string%20}
-- 117 func(*api.Tree)%20bool
-- 118 []api.Change
instance : ElC Tryz.prog 118 159 2 32 ([.int .i64 0, .slice none 0 0]) := ⟨⟨.agg ([.int .i64 0, .slice none 0 0]).toArray, elT Tryz.underlying118 (by kernel_rfl) (by kernel_rfl) (by decide), by kernel_rfl⟩⟩
-- 119 func()%20[]api.Change
-- 120 func([]api.Change)%20api.Errno
-- 122 func(*extent.Part)%20(*wal.Log,%20api.Errno)
-- 123 [][]uint8
instance : OneC Tryz.prog 123 := ⟨⟨_, Tryz.underlying123, rfl⟩, by kernel_rfl⟩
instance : ZeroC Tryz.prog 123 ([.slice none 0 0]) := ⟨⟨.slice none 0 0, by kernel_rfl, by kernel_rfl⟩⟩
instance : ElC Tryz.prog 123 30 1 24 ([.slice none 0 0]) := ⟨⟨.slice none 0 0, elT Tryz.underlying123 (by kernel_rfl) (by kernel_rfl) (by decide), by kernel_rfl⟩⟩
-- 124 func()%20[][]uint8
-- 125 func([][]uint8)%20bool
-- 126 func([][]uint8)%20(api.Tree,%20api.Errno)
-- 127 func(*api.Tree)%20int
-- 128 []disk.sector
-- 129 []disk.write
-- 130 struct%20{%20sectors%20[]disk.sector;%20pending%20[]disk.write;%20off%20bool;%20armed%20bool;%20left%20int;%20survivors%20[]bool%20}
-- 131 disk.Disk
-- 132 [64]uint8
-- 133 disk.sector
-- 134 struct%20{%20at%20int;%20content%20disk.sector%20}
-- 135 disk.write
-- 137 func(int)%20(nacelleref05.Disk,%20bool)
-- 139 func(nacelleref05.Disk,%20int)%20(nacelleref05.Disk,%20int)
-- 140 func([]bool)%20[]bool
-- 141 func(extent.Extent,%20int)%20bool
-- 142 struct%20{%20extent.Extent;%20d%20*disk.Disk%20}
-- 143 extent.Part
instance : FldC Tryz.prog 143 0 0 := ⟨⟨_, _, Tryz.underlying143, rfl, rfl, 1, by kernel_rfl⟩⟩
instance : FldC Tryz.prog 143 1 2 := ⟨⟨_, _, Tryz.underlying143, rfl, rfl, 0, by kernel_rfl⟩⟩
-- 144 func(*api.Tree,%20string)%20(int,%20api.Errno)
-- 146 func(api.Tree,%20int)%20(string,%20api.Errno)
-- 147 func(string)%20bool
-- 149 func(string)%20(string,%20string)
-- 150 func(*api.Tree,%20int,%20string)%20int
-- 151 func(*api.Tree,%20int)
-- 152 func(*api.Tree,%20int,%20int,%20int)%20bool
-- 153 [8]bool
instance : ZeroC Tryz.prog 153 ([.bool false, .bool false, .bool false, .bool false, .bool false, .bool false, .bool false, .bool false]) := ⟨⟨.agg ([.bool false, .bool false, .bool false, .bool false, .bool false, .bool false, .bool false, .bool false]).toArray, by kernel_rfl, by kernel_rfl⟩⟩
instance : ArrC Tryz.prog 153 8 1 true := ⟨⟨_, _, Tryz.underlying153, by kernel_rfl, Tryz.underlying4, rfl⟩⟩
-- 154 [8]int
instance : ZeroC Tryz.prog 154 ([.int .i64 0, .int .i64 0, .int .i64 0, .int .i64 0, .int .i64 0, .int .i64 0, .int .i64 0, .int .i64 0]) := ⟨⟨.agg ([.int .i64 0, .int .i64 0, .int .i64 0, .int .i64 0, .int .i64 0, .int .i64 0, .int .i64 0, .int .i64 0]).toArray, by kernel_rfl, by kernel_rfl⟩⟩
instance : ArrC Tryz.prog 154 8 1 true := ⟨⟨_, _, Tryz.underlying154, by kernel_rfl, Tryz.underlying3, rfl⟩⟩
-- 155 func(api.Tree)%20[][]uint8
-- 156 func([]uint8,%20[]uint8)%20bool
-- 157 func(int)%20bool
-- 158 struct%20{%20Page%20int;%20Data%20[]uint8%20}
-- 160 uint32
instance : OneC Tryz.prog 160 := ⟨⟨_, Tryz.underlying160, rfl⟩, by kernel_rfl⟩
instance : IntC Tryz.prog 160 .u32 := ⟨Tryz.underlying160⟩
-- 161 [16][40]uint8
instance : ZeroC Tryz.prog 161 (List.replicate 640 (.int .u8 0)) := ⟨⟨.agg (List.replicate 640 (.int .u8 0)).toArray, by kernel_rfl, by kernel_rfl⟩⟩
instance : ArrC Tryz.prog 161 16 40 false := ⟨⟨_, _, Tryz.underlying161, by kernel_rfl, Tryz.underlying38, rfl⟩⟩
-- 162 struct%20{%20part%20*extent.Part;%20epoch%20uint32;%20home%20int;%20used%20int;%20pages%20[16][40]uint8;%20dead%20bool%20}
-- 164 func([]api.Change)%20bool
-- 165 func(int)%20([]uint8,%20api.Errno)
-- 166 func(int,%20int)%20int
-- 168 func([]uint8)%20(uint32,%20int,%20[]uint8,%20bool)
-- 170 func([]uint8)%20(api.Node,%20bool)
-- 171 func()%20string
-- 172 struct%20{%20D%20nacelleref05.Disk;%20From%20int;%20Pages%20[]string;%20Epoch%20uint32;%20Home%20int;%20Used%20int;%20Dead%20bool%20}
-- 173 nacelleref16.Log
instance : RowC Tryz.prog 173 11 := ⟨⟨_, Tryz.underlying173, rfl⟩, by kernel_rfl⟩
instance : ZeroC Tryz.prog 173 ([.slice none 0 0, .slice none 0 0, .bool false, .int .i64 0, .slice none 0 0, .int .i64 0, .slice none 0 0, .int .u32 0, .int .i64 0, .int .i64 0, .bool false]) := ⟨⟨.agg ([.slice none 0 0, .slice none 0 0, .bool false, .int .i64 0, .slice none 0 0, .int .i64 0, .slice none 0 0, .int .u32 0, .int .i64 0, .int .i64 0, .bool false]).toArray, by kernel_rfl, by kernel_rfl⟩⟩
instance : FldC Tryz.prog 173 0 0 := ⟨⟨_, _, Tryz.underlying173, rfl, rfl, 4, by kernel_rfl⟩⟩
instance : FldC Tryz.prog 173 1 5 := ⟨⟨_, _, Tryz.underlying173, rfl, rfl, 0, by kernel_rfl⟩⟩
instance : FldC Tryz.prog 173 2 6 := ⟨⟨_, _, Tryz.underlying173, rfl, rfl, 0, by kernel_rfl⟩⟩
-- 174 func(int)%20string
-- 176 func(uint32,%20int,%20[]int,%20[]string)%20(nacelleref16.Log,%20int)
-- 177 func(*extent.Part,%20uint32,%20int,%20*[16][40]uint8)%20api.Errno
-- 178 *[16][40]uint8
-- 179 func(func(string)%20bool)
-- 181 func(string)%20iter.Seq[string]
-- 182 func(string,%20uint8)%20int
-- 183 func(api.Node)%20[]uint8
-- 184 func([]uint8)%20[]uint8
-- 185 func(uint32,%20int,%20api.Change)%20[]uint8
-- 186 func(uint32,%20int)%20[]uint8
-- 187 func([]api.Change)
-- 189 func([]uint8)%20(uint32,%20int,%20bool)
-- 190 func(uint32)%20int
-- 191 func(extent.Extent,%20int)%20(int,%20api.Errno)
-- 193 func([]uint8,%20uint8,%20int)%20(uint32,%20[]uint8,%20bool)
-- 195 func([]uint8)%20(uint32,%20int,%20int,%20[]uint8,%20bool)
-- 196 *octet.Reader
instance : OneC Tryz.prog 196 := ⟨⟨_, Tryz.underlying196, rfl⟩, by kernel_rfl⟩
instance : ZeroC Tryz.prog 196 ([.pointer none]) := ⟨⟨.pointer none, by kernel_rfl, by kernel_rfl⟩⟩
-- 197 func([]uint8)%20*octet.Reader
-- 198 uint64
instance : IntC Tryz.prog 198 .u64 := ⟨Tryz.underlying198⟩
-- 199 func(int)%20uint64
-- 200 func(int)%20[]uint8
-- 201 func(string,%20uint32,%20string)%20string
-- 202 func([]int,%20[]string)%20(nacelleref16.Log,%20int)
-- 203 func(uint32,%20int,%20[]uint8)%20[]uint8
-- 205 func(string,%20string)%20(string,%20string,%20bool)
-- 206 func(uint64,%20int)%20[]uint8
-- 207 func(int)
-- 208 [8]uint8
instance : ZeroC Tryz.prog 208 ([.int .u8 0, .int .u8 0, .int .u8 0, .int .u8 0, .int .u8 0, .int .u8 0, .int .u8 0, .int .u8 0]) := ⟨⟨.agg ([.int .u8 0, .int .u8 0, .int .u8 0, .int .u8 0, .int .u8 0, .int .u8 0, .int .u8 0, .int .u8 0]).toArray, by kernel_rfl, by kernel_rfl⟩⟩
instance : ArrC Tryz.prog 208 8 1 true := ⟨⟨_, _, Tryz.underlying208, by kernel_rfl, Tryz.underlying5, rfl⟩⟩
-- 209 func(uint8,%20uint32,%20...uint8)%20[]uint8
-- 210 func(...[]uint8)%20[]uint8
-- 211 func([]uint8)%20([]uint8,%20api.Errno)
-- 212 func([]uint8,%20func(uint8)%20bool)%20bool
-- 213 func(uint8)%20bool
-- 215 func([]uint8)%20(uint64,%20api.Errno)
-- 216 struct%20{%20b%20[]uint8;%20at%20int;%20code%20api.Errno%20}
-- 218 func(api.Errno)
-- 220 func(int)%20([]uint8,%20bool)
-- 221 func([]uint8)%20uint64
-- 222 func(int,%20string)%20(nacelleref16.Log,%20int)
-- 223 func()%20(nacelleref16.Log,%20int)
-- 224 func([]uint8,%20int)%20[]uint8
-- 225 func([]uint8)%20uint32
-- 226 func([]uint8,%20func(uint8)%20bool)%20int
-- 227 func(int,%20string)%20(nacelleref05.Disk,%20int)
-- 228 func()%20(nacelleref05.Disk,%20int)
-- 229 func(string,%20string)%20int
-- 230 func(uint32,%20[]uint8)%20uint32
-- 231 func()%20(nacelleref05.Disk,%20bool)
-- 232 struct%20{%20At%20int;%20B%20string%20}
-- 233 nacelleref05.Write
instance : FldC Tryz.prog 233 0 0 := ⟨⟨_, _, Tryz.underlying233, rfl, rfl, 0, by kernel_rfl⟩⟩
instance : FldC Tryz.prog 233 1 1 := ⟨⟨_, _, Tryz.underlying233, rfl, rfl, 0, by kernel_rfl⟩⟩
-- 234 func(bool,%20[]bool)%20nacelleref05.Disk
-- 235 [16]uint32
instance : ArrC Tryz.prog 235 16 1 true := ⟨⟨_, _, Tryz.underlying235, by kernel_rfl, Tryz.underlying160, rfl⟩⟩
-- 236 func([]bool)%20nacelleref05.Disk
-- 237 func([]string,%20int,%20string)%20[]string
-- 239 func(string)%20(uint32,%20uint32)
-- 240 struct%20{%20_interface%20*abi.Type;%20concrete%20*abi.Type;%20asserted%20*abi.Type;%20missingMethod%20string%20}
-- 242 [0]*runtime.PanicNilError
-- 243 struct%20{%20_%20[0]*runtime.PanicNilError%20}
-- 245 abi.TFlag
-- 246 abi.Kind
-- 247 func(unsafe.Pointer,%20unsafe.Pointer)%20bool
-- 248 *uint8
-- 249 abi.NameOff
-- 250 abi.TypeOff
-- 251 struct%20{%20Size_%20uintptr;%20PtrBytes%20uintptr;%20Hash%20uint32;%20TFlag%20abi.TFlag;%20Align_%20uint8;%20FieldAlign_%20uint8;%20Kind_%20abi.Kind;%20Equal%20func(unsafe.Pointer,%20unsafe.Pointer)%20bool;%20GCData%20*uint8;%20Str%20abi.NameOff;%20PtrToThis%20abi.TypeOff%20}
instance : FunC Tryz.prog 10 := ⟨⟨_, _, Tryz.func10, by kernel_rfl, rfl⟩⟩  -- nacelle/tree.Read
instance : FunC Tryz.prog 11 := ⟨⟨_, _, Tryz.func11, by kernel_rfl, rfl⟩⟩  -- (*nacelle/pfs.FS).Tree
instance : FunC Tryz.prog 12 := ⟨⟨_, _, Tryz.func12, by kernel_rfl, rfl⟩⟩  -- (*nacelle/pfs.FS).Open
instance : FunC Tryz.prog 13 := ⟨⟨_, _, Tryz.func13, by kernel_rfl, rfl⟩⟩  -- nacelle/nacellelaw18.awake
instance : FunC Tryz.prog 14 := ⟨⟨_, _, Tryz.func14, by kernel_rfl, rfl⟩⟩  -- (*nacelle/pfs.FS).Seek
instance : FunC Tryz.prog 15 := ⟨⟨_, _, Tryz.func15, by kernel_rfl, rfl⟩⟩  -- (*nacelle/pfs.FS).Read
instance : FunC Tryz.prog 16 := ⟨⟨_, _, Tryz.func16, by kernel_rfl, rfl⟩⟩  -- (*nacelle/pfs.FS).Make
instance : FunC Tryz.prog 17 := ⟨⟨_, _, Tryz.func17, by kernel_rfl, rfl⟩⟩  -- (*nacelle/pfs.FS).Remove
instance : FunC Tryz.prog 18 := ⟨⟨_, _, Tryz.func18, by kernel_rfl, rfl⟩⟩  -- (*nacelle/pfs.FS).Move
instance : FunC Tryz.prog 19 := ⟨⟨_, _, Tryz.func19, by kernel_rfl, rfl⟩⟩  -- (*nacelle/pfs.FS).Cut
instance : FunC Tryz.prog 20 := ⟨⟨_, _, Tryz.func20, by kernel_rfl, rfl⟩⟩  -- (*nacelle/pfs.FS).Write
instance : FunC Tryz.prog 21 := ⟨⟨_, _, Tryz.func21, by kernel_rfl, rfl⟩⟩  -- nacelle/tree.Check
instance : FunC Tryz.prog 22 := ⟨⟨_, _, Tryz.func22, by kernel_rfl, rfl⟩⟩  -- (*nacelle/pfs.FS).Sync
instance : FunC Tryz.prog 23 := ⟨⟨_, _, Tryz.func23, by kernel_rfl, rfl⟩⟩  -- nacelle/pfs.Mount
instance : FunC Tryz.prog 26 := ⟨⟨_, _, Tryz.func26, by kernel_rfl, rfl⟩⟩  -- nacelle/nacellelaw18.run
instance : FunC Tryz.prog 27 := ⟨⟨_, _, Tryz.func27, by kernel_rfl, rfl⟩⟩  -- (*nacelle/pfs.FS).Changed
instance : FunC Tryz.prog 30 := ⟨⟨_, _, Tryz.func30, by kernel_rfl, rfl⟩⟩  -- nacelle/nacellelaw18.part
instance : FunC Tryz.prog 31 := ⟨⟨_, _, Tryz.func31, by kernel_rfl, rfl⟩⟩  -- (*nacelle/disk.Disk).Arm
instance : FunC Tryz.prog 32 := ⟨⟨_, _, Tryz.func32, by kernel_rfl, rfl⟩⟩  -- (*nacelle/disk.Disk).Power
instance : FunC Tryz.prog 33 := ⟨⟨_, _, Tryz.func33, by kernel_rfl, rfl⟩⟩  -- (*nacelle/disk.Disk).Crash
instance : FunC Tryz.prog 34 := ⟨⟨_, _, Tryz.func34, by kernel_rfl, rfl⟩⟩  -- nacelle/disk.New
instance : FunC Tryz.prog 35 := ⟨⟨_, _, Tryz.func35, by kernel_rfl, rfl⟩⟩  -- nacelle/extent.New
instance : FunC Tryz.prog 36 := ⟨⟨_, _, Tryz.func36, by kernel_rfl, rfl⟩⟩  -- nacelle/pfs.Format
instance : FunC Tryz.prog 37 := ⟨⟨_, _, Tryz.func37, by kernel_rfl, rfl⟩⟩  -- (*nacelle/pfs.FS).Close
instance : FunC Tryz.prog 38 := ⟨⟨_, _, Tryz.func38, by kernel_rfl, rfl⟩⟩  -- nacelle/tree.kindOf
instance : FunC Tryz.prog 39 := ⟨⟨_, _, Tryz.func39, by kernel_rfl, rfl⟩⟩  -- nacelle/tree.Find
instance : FunC Tryz.prog 40 := ⟨⟨_, _, Tryz.func40, by kernel_rfl, rfl⟩⟩  -- (*nacelle/pfs.FS).file
instance : FunC Tryz.prog 41 := ⟨⟨_, _, Tryz.func41, by kernel_rfl, rfl⟩⟩  -- (*nacelle/pfs.FS).path
instance : FunC Tryz.prog 42 := ⟨⟨_, _, Tryz.func42, by kernel_rfl, rfl⟩⟩  -- (*nacelle/pfs.FS).become
instance : FunC Tryz.prog 43 := ⟨⟨_, _, Tryz.func43, by kernel_rfl, rfl⟩⟩  -- nacelle/tree.Make
instance : FunC Tryz.prog 44 := ⟨⟨_, _, Tryz.func44, by kernel_rfl, rfl⟩⟩  -- nacelle/tree.Remove
instance : FunC Tryz.prog 45 := ⟨⟨_, _, Tryz.func45, by kernel_rfl, rfl⟩⟩  -- nacelle/tree.Move
instance : FunC Tryz.prog 46 := ⟨⟨_, _, Tryz.func46, by kernel_rfl, rfl⟩⟩  -- nacelle/tree.Cut
instance : FunC Tryz.prog 47 := ⟨⟨_, _, Tryz.func47, by kernel_rfl, rfl⟩⟩  -- nacelle/tree.Write
instance : FunC Tryz.prog 48 := ⟨⟨_, _, Tryz.func48, by kernel_rfl, rfl⟩⟩  -- nacelle/tree.nodeFits
instance : FunC Tryz.prog 49 := ⟨⟨_, _, Tryz.func49, by kernel_rfl, rfl⟩⟩  -- nacelle/tree.blocksFit
instance : FunC Tryz.prog 50 := ⟨⟨_, _, Tryz.func50, by kernel_rfl, rfl⟩⟩  -- (*nacelle/pfs.FS).changes
instance : FunC Tryz.prog 51 := ⟨⟨_, _, Tryz.func51, by kernel_rfl, rfl⟩⟩  -- (*nacelle/wal.Log).Commit
instance : FunC Tryz.prog 52 := ⟨⟨_, _, Tryz.func52, by kernel_rfl, rfl⟩⟩  -- (*nacelle/wal.Log).Dead
instance : FunC Tryz.prog 53 := ⟨⟨_, _, Tryz.func53, by kernel_rfl, rfl⟩⟩  -- nacelle/wal.Open
instance : FunC Tryz.prog 54 := ⟨⟨_, _, Tryz.func54, by kernel_rfl, rfl⟩⟩  -- (*nacelle/pfs.FS).stored
instance : FunC Tryz.prog 55 := ⟨⟨_, _, Tryz.func55, by kernel_rfl, rfl⟩⟩  -- nacelle/pfs.blank
instance : FunC Tryz.prog 56 := ⟨⟨_, _, Tryz.func56, by kernel_rfl, rfl⟩⟩  -- nacelle/tree.New
instance : FunC Tryz.prog 57 := ⟨⟨_, _, Tryz.func57, by kernel_rfl, rfl⟩⟩  -- nacelle/tree.Parse
instance : FunC Tryz.prog 58 := ⟨⟨_, _, Tryz.func58, by kernel_rfl, rfl⟩⟩  -- nacelle/tree.used
instance : FunC Tryz.prog 59 := ⟨⟨_, _, Tryz.func59, by kernel_rfl, rfl⟩⟩  -- nacelle/nacelleref05.New
instance : FunC Tryz.prog 60 := ⟨⟨_, _, Tryz.func60, by kernel_rfl, rfl⟩⟩  -- nacelle/nacelleref16.Format
instance : FunC Tryz.prog 63 := ⟨⟨_, _, Tryz.func63, by kernel_rfl, rfl⟩⟩  -- nacelle/extent.Lies
instance : FunC Tryz.prog 64 := ⟨⟨_, _, Tryz.func64, by kernel_rfl, rfl⟩⟩  -- (*nacelle/disk.Disk).Size
instance : FunC Tryz.prog 65 := ⟨⟨_, _, Tryz.func65, by kernel_rfl, rfl⟩⟩  -- nacelle/wal.Format
instance : FunC Tryz.prog 66 := ⟨⟨_, _, Tryz.func66, by kernel_rfl, rfl⟩⟩  -- nacelle/tree.find
instance : FunC Tryz.prog 67 := ⟨⟨_, _, Tryz.func67, by kernel_rfl, rfl⟩⟩  -- nacelle/tree.Path
instance : FunC Tryz.prog 68 := ⟨⟨_, _, Tryz.func68, by kernel_rfl, rfl⟩⟩  -- nacelle/tree.isInner
instance : FunC Tryz.prog 69 := ⟨⟨_, _, Tryz.func69, by kernel_rfl, rfl⟩⟩  -- nacelle/tree.split
instance : FunC Tryz.prog 70 := ⟨⟨_, _, Tryz.func70, by kernel_rfl, rfl⟩⟩  -- nacelle/tree.child
instance : FunC Tryz.prog 71 := ⟨⟨_, _, Tryz.func71, by kernel_rfl, rfl⟩⟩  -- nacelle/tree.empty
instance : FunC Tryz.prog 72 := ⟨⟨_, _, Tryz.func72, by kernel_rfl, rfl⟩⟩  -- nacelle/tree.grow
instance : FunC Tryz.prog 73 := ⟨⟨_, _, Tryz.func73, by kernel_rfl, rfl⟩⟩  -- nacelle/tree.isName
instance : FunC Tryz.prog 74 := ⟨⟨_, _, Tryz.func74, by kernel_rfl, rfl⟩⟩  -- nacelle/tree.rooted
instance : FunC Tryz.prog 75 := ⟨⟨_, _, Tryz.func75, by kernel_rfl, rfl⟩⟩  -- nacelle/tree.Pages
instance : FunC Tryz.prog 76 := ⟨⟨_, _, Tryz.func76, by kernel_rfl, rfl⟩⟩  -- (*nacelle/pfs.FS).changes$1
instance : FunC Tryz.prog 77 := ⟨⟨_, _, Tryz.func77, by kernel_rfl, rfl⟩⟩  -- bytes.Equal
instance : FunC Tryz.prog 78 := ⟨⟨_, _, Tryz.func78, by kernel_rfl, rfl⟩⟩  -- nacelle/wal.valid
instance : FunC Tryz.prog 79 := ⟨⟨_, _, Tryz.func79, by kernel_rfl, rfl⟩⟩  -- (*nacelle/wal.Log).Commit$1
instance : FunC Tryz.prog 80 := ⟨⟨_, _, Tryz.func80, by kernel_rfl, rfl⟩⟩  -- (*nacelle/wal.Log).checkpoint
instance : FunC Tryz.prog 81 := ⟨⟨_, _, Tryz.func81, by kernel_rfl, rfl⟩⟩  -- (*nacelle/wal.Log).record
instance : FunC Tryz.prog 82 := ⟨⟨_, _, Tryz.func82, by kernel_rfl, rfl⟩⟩  -- (*nacelle/extent.Part).Size
instance : FunC Tryz.prog 83 := ⟨⟨_, _, Tryz.func83, by kernel_rfl, rfl⟩⟩  -- (*nacelle/wal.Log).readHead
instance : FunC Tryz.prog 84 := ⟨⟨_, _, Tryz.func84, by kernel_rfl, rfl⟩⟩  -- (*nacelle/extent.Part).Read
instance : FunC Tryz.prog 85 := ⟨⟨_, _, Tryz.func85, by kernel_rfl, rfl⟩⟩  -- nacelle/wal.homeAt
instance : FunC Tryz.prog 86 := ⟨⟨_, _, Tryz.func86, by kernel_rfl, rfl⟩⟩  -- nacelle/wal.readPage
instance : FunC Tryz.prog 87 := ⟨⟨_, _, Tryz.func87, by kernel_rfl, rfl⟩⟩  -- (*nacelle/wal.Log).readRecords
instance : FunC Tryz.prog 88 := ⟨⟨_, _, Tryz.func88, by kernel_rfl, rfl⟩⟩  -- (*nacelle/wal.Log).Page
instance : FunC Tryz.prog 89 := ⟨⟨_, _, Tryz.func89, by kernel_rfl, rfl⟩⟩  -- nacelle/tree.node
instance : FunC Tryz.prog 90 := ⟨⟨_, _, Tryz.func90, by kernel_rfl, rfl⟩⟩  -- nacelle/nacelleref05.Noughts
instance : FunC Tryz.prog 91 := ⟨⟨_, _, Tryz.func91, by kernel_rfl, rfl⟩⟩  -- nacelle/nacelleref16.Noughts
instance : FunC Tryz.prog 92 := ⟨⟨_, _, Tryz.func92, by kernel_rfl, rfl⟩⟩  -- (nacelle/nacelleref16.Log).settle
instance : FunC Tryz.prog 93 := ⟨⟨_, _, Tryz.func93, by kernel_rfl, rfl⟩⟩  -- (*nacelle/extent.Part).Write
instance : FunC Tryz.prog 94 := ⟨⟨_, _, Tryz.func94, by kernel_rfl, rfl⟩⟩  -- nacelle/wal.writeHome
instance : FunC Tryz.prog 95 := ⟨⟨_, _, Tryz.func95, by kernel_rfl, rfl⟩⟩  -- nacelle/tree.isPath
instance : FunC Tryz.prog 96 := ⟨⟨_, _, Tryz.func96, by kernel_rfl, rfl⟩⟩  -- nacelle/tree.names
instance : FunC Tryz.prog 97 := ⟨⟨_, _, Tryz.func97, by kernel_rfl, rfl⟩⟩  -- strings.LastIndexByte
instance : FunC Tryz.prog 98 := ⟨⟨_, _, Tryz.func98, by kernel_rfl, rfl⟩⟩  -- nacelle/tree.unused
instance : FunC Tryz.prog 99 := ⟨⟨_, _, Tryz.func99, by kernel_rfl, rfl⟩⟩  -- nacelle/tree.page
instance : FunC Tryz.prog 100 := ⟨⟨_, _, Tryz.func100, by kernel_rfl, rfl⟩⟩  -- bytes.Clone
instance : FunC Tryz.prog 101 := ⟨⟨_, _, Tryz.func101, by kernel_rfl, rfl⟩⟩  -- nacelle/wal.recordSector
instance : FunC Tryz.prog 102 := ⟨⟨_, _, Tryz.func102, by kernel_rfl, rfl⟩⟩  -- (*nacelle/extent.Part).Flush
instance : FunC Tryz.prog 103 := ⟨⟨_, _, Tryz.func103, by kernel_rfl, rfl⟩⟩  -- nacelle/wal.markSector
instance : FunC Tryz.prog 104 := ⟨⟨_, _, Tryz.func104, by kernel_rfl, rfl⟩⟩  -- (*nacelle/wal.Log).apply
instance : FunC Tryz.prog 105 := ⟨⟨_, _, Tryz.func105, by kernel_rfl, rfl⟩⟩  -- nacelle/wal.readHead
instance : FunC Tryz.prog 106 := ⟨⟨_, _, Tryz.func106, by kernel_rfl, rfl⟩⟩  -- nacelle/wal.headAt
instance : FunC Tryz.prog 107 := ⟨⟨_, _, Tryz.func107, by kernel_rfl, rfl⟩⟩  -- nacelle/extent.Place
instance : FunC Tryz.prog 108 := ⟨⟨_, _, Tryz.func108, by kernel_rfl, rfl⟩⟩  -- (*nacelle/disk.Disk).Read
instance : FunC Tryz.prog 109 := ⟨⟨_, _, Tryz.func109, by kernel_rfl, rfl⟩⟩  -- nacelle/wal.content
instance : FunC Tryz.prog 110 := ⟨⟨_, _, Tryz.func110, by kernel_rfl, rfl⟩⟩  -- nacelle/wal.readRecord
instance : FunC Tryz.prog 111 := ⟨⟨_, _, Tryz.func111, by kernel_rfl, rfl⟩⟩  -- nacelle/wal.readMark
instance : FunC Tryz.prog 112 := ⟨⟨_, _, Tryz.func112, by kernel_rfl, rfl⟩⟩  -- nacelle/octet.Read
instance : FunC Tryz.prog 113 := ⟨⟨_, _, Tryz.func113, by kernel_rfl, rfl⟩⟩  -- nacelle/tree.node$1
instance : FunC Tryz.prog 114 := ⟨⟨_, _, Tryz.func114, by kernel_rfl, rfl⟩⟩  -- (*nacelle/octet.Reader).Num
instance : FunC Tryz.prog 115 := ⟨⟨_, _, Tryz.func115, by kernel_rfl, rfl⟩⟩  -- (*nacelle/octet.Reader).Bytes
instance : FunC Tryz.prog 116 := ⟨⟨_, _, Tryz.func116, by kernel_rfl, rfl⟩⟩  -- nacelle/nacelleref16.Sector
instance : FunC Tryz.prog 117 := ⟨⟨_, _, Tryz.func117, by kernel_rfl, rfl⟩⟩  -- nacelle/nacelleref16.one
instance : FunC Tryz.prog 118 := ⟨⟨_, _, Tryz.func118, by kernel_rfl, rfl⟩⟩  -- (nacelle/nacelleref16.Log).all
instance : FunC Tryz.prog 119 := ⟨⟨_, _, Tryz.func119, by kernel_rfl, rfl⟩⟩  -- (*nacelle/disk.Disk).Write
instance : FunC Tryz.prog 120 := ⟨⟨_, _, Tryz.func120, by kernel_rfl, rfl⟩⟩  -- nacelle/wal.pageSector
instance : FunC Tryz.prog 121 := ⟨⟨_, _, Tryz.func121, by kernel_rfl, rfl⟩⟩  -- nacelle/wal.headSector
instance : FunC Tryz.prog 122 := ⟨⟨_, _, Tryz.func122, by kernel_rfl, rfl⟩⟩  -- nacelle/tree.names$1
instance : FunC Tryz.prog 123 := ⟨⟨_, _, Tryz.func123, by kernel_rfl, rfl⟩⟩  -- strings.Cut
instance : FunC Tryz.prog 124 := ⟨⟨_, _, Tryz.func124, by kernel_rfl, rfl⟩⟩  -- internal/bytealg.LastIndexByteString
instance : FunC Tryz.prog 125 := ⟨⟨_, _, Tryz.func125, by kernel_rfl, rfl⟩⟩  -- nacelle/tree.page$1
instance : FunC Tryz.prog 126 := ⟨⟨_, _, Tryz.func126, by kernel_rfl, rfl⟩⟩  -- nacelle/octet.Put
instance : FunC Tryz.prog 127 := ⟨⟨_, _, Tryz.func127, by kernel_rfl, rfl⟩⟩  -- nacelle/wal.sector
instance : FunC Tryz.prog 128 := ⟨⟨_, _, Tryz.func128, by kernel_rfl, rfl⟩⟩  -- slices.Concat[[]byte,byte]
instance : FunC Tryz.prog 129 := ⟨⟨_, _, Tryz.func129, by kernel_rfl, rfl⟩⟩  -- (*nacelle/disk.Disk).Flush
instance : FunC Tryz.prog 131 := ⟨⟨_, _, Tryz.func131, by kernel_rfl, rfl⟩⟩  -- nacelle/crc.Open
instance : FunC Tryz.prog 132 := ⟨⟨_, _, Tryz.func132, by kernel_rfl, rfl⟩⟩  -- slices.ContainsFunc[[]byte,byte]
instance : FunC Tryz.prog 133 := ⟨⟨_, _, Tryz.func133, by kernel_rfl, rfl⟩⟩  -- nacelle/wal.content$1
instance : FunC Tryz.prog 134 := ⟨⟨_, _, Tryz.func134, by kernel_rfl, rfl⟩⟩  -- nacelle/octet.Get
instance : FunC Tryz.prog 136 := ⟨⟨_, _, Tryz.func136, by kernel_rfl, rfl⟩⟩  -- (*nacelle/octet.Reader).take
instance : FunC Tryz.prog 137 := ⟨⟨_, _, Tryz.func137, by kernel_rfl, rfl⟩⟩  -- nacelle/octet.number
instance : FunC Tryz.prog 138 := ⟨⟨_, _, Tryz.func138, by kernel_rfl, rfl⟩⟩  -- nacelle/nacelleref02.Put
instance : FunC Tryz.prog 139 := ⟨⟨_, _, Tryz.func139, by kernel_rfl, rfl⟩⟩  -- nacelle/nacelleref03.Seal
instance : FunC Tryz.prog 140 := ⟨⟨_, _, Tryz.func140, by kernel_rfl, rfl⟩⟩  -- (nacelle/nacelleref16.Log).write
instance : FunC Tryz.prog 141 := ⟨⟨_, _, Tryz.func141, by kernel_rfl, rfl⟩⟩  -- (nacelle/nacelleref16.Log).flush
instance : FunC Tryz.prog 143 := ⟨⟨_, _, Tryz.func143, by kernel_rfl, rfl⟩⟩  -- internal/stringslite.Cut
instance : FunC Tryz.prog 144 := ⟨⟨_, _, Tryz.func144, by kernel_rfl, rfl⟩⟩  -- nacelle/crc.Seal
instance : FunC Tryz.prog 145 := ⟨⟨_, _, Tryz.func145, by kernel_rfl, rfl⟩⟩  -- slices.Grow[[]byte,byte]
instance : FunC Tryz.prog 146 := ⟨⟨_, _, Tryz.func146, by kernel_rfl, rfl⟩⟩  -- nacelle/crc.Of
instance : FunC Tryz.prog 147 := ⟨⟨_, _, Tryz.func147, by kernel_rfl, rfl⟩⟩  -- slices.IndexFunc[[]byte,byte]
instance : FunC Tryz.prog 148 := ⟨⟨_, _, Tryz.func148, by kernel_rfl, rfl⟩⟩  -- (*nacelle/octet.Reader).Left
instance : FunC Tryz.prog 149 := ⟨⟨_, _, Tryz.func149, by kernel_rfl, rfl⟩⟩  -- nacelle/nacelleref03.Of
instance : FunC Tryz.prog 150 := ⟨⟨_, _, Tryz.func150, by kernel_rfl, rfl⟩⟩  -- (nacelle/nacelleref05.Disk).Write
instance : FunC Tryz.prog 151 := ⟨⟨_, _, Tryz.func151, by kernel_rfl, rfl⟩⟩  -- (nacelle/nacelleref05.Disk).Flush
instance : FunC Tryz.prog 152 := ⟨⟨_, _, Tryz.func152, by kernel_rfl, rfl⟩⟩  -- internal/stringslite.Index
instance : FunC Tryz.prog 153 := ⟨⟨_, _, Tryz.func153, by kernel_rfl, rfl⟩⟩  -- nacelle/crc.On
instance : FunC Tryz.prog 154 := ⟨⟨_, _, Tryz.func154, by kernel_rfl, rfl⟩⟩  -- nacelle/nacelleref03.On
instance : FunC Tryz.prog 155 := ⟨⟨_, _, Tryz.func155, by kernel_rfl, rfl⟩⟩  -- (nacelle/nacelleref05.Disk).step
instance : FunC Tryz.prog 156 := ⟨⟨_, _, Tryz.func156, by kernel_rfl, rfl⟩⟩  -- (nacelle/nacelleref05.Disk).laid
instance : FunC Tryz.prog 157 := ⟨⟨_, _, Tryz.func157, by kernel_rfl, rfl⟩⟩  -- internal/stringslite.IndexByte
instance : FunC Tryz.prog 161 := ⟨⟨_, _, Tryz.func161, by kernel_rfl, rfl⟩⟩  -- (nacelle/nacelleref05.Disk).Crash
instance : FunC Tryz.prog 162 := ⟨⟨_, _, Tryz.func162, by kernel_rfl, rfl⟩⟩  -- nacelle/nacelleref05.with
end Go.Proofs.YtgilmcpdpggikaaGreatDoor
namespace Go.Proofs.YtgilmcpdpggikaaGreatDoor
open Go Go.RowKit Go.Own
-- 36 api.Node
instance : RowC Tryz.prog 36 6 := ⟨⟨_, Tryz.underlying36, rfl⟩, by kernel_rfl⟩
instance : ZeroC Tryz.prog 36 ([.int .i64 0, .int .i64 0, .string ⟨#[]⟩, .int .i64 0, .int .i64 0, .int .i64 0]) := ⟨⟨.agg ([.int .i64 0, .int .i64 0, .string ⟨#[]⟩, .int .i64 0, .int .i64 0, .int .i64 0]).toArray, by kernel_rfl, by kernel_rfl⟩⟩
instance : FldC Tryz.prog 36 0 0 := ⟨⟨_, _, Tryz.underlying36, rfl, rfl, 0, by kernel_rfl⟩⟩
instance : FldC Tryz.prog 36 1 1 := ⟨⟨_, _, Tryz.underlying36, rfl, rfl, 0, by kernel_rfl⟩⟩
instance : FldC Tryz.prog 36 2 2 := ⟨⟨_, _, Tryz.underlying36, rfl, rfl, 0, by kernel_rfl⟩⟩
instance : FldC Tryz.prog 36 3 3 := ⟨⟨_, _, Tryz.underlying36, rfl, rfl, 0, by kernel_rfl⟩⟩
instance : FldC Tryz.prog 36 4 4 := ⟨⟨_, _, Tryz.underlying36, rfl, rfl, 1, by kernel_rfl⟩⟩
-- 41 api.Tree
instance : RowC Tryz.prog 41 368 := ⟨⟨_, Tryz.underlying41, rfl⟩, by kernel_rfl⟩
instance : FldC Tryz.prog 41 0 0 := ⟨⟨_, _, Tryz.underlying41, rfl, rfl, 47, by kernel_rfl⟩⟩
instance : FldC Tryz.prog 41 1 48 := ⟨⟨_, _, Tryz.underlying41, rfl, rfl, 319, by kernel_rfl⟩⟩
-- 99 pfs.handle
instance : RowC Tryz.prog 99 3 := ⟨⟨_, Tryz.underlying99, rfl⟩, by kernel_rfl⟩
instance : ZeroC Tryz.prog 99 ([.bool false, .int .i64 0, .int .i64 0]) := ⟨⟨.agg ([.bool false, .int .i64 0, .int .i64 0]).toArray, by kernel_rfl, by kernel_rfl⟩⟩
instance : FldC Tryz.prog 99 0 0 := ⟨⟨_, _, Tryz.underlying99, rfl, rfl, 0, by kernel_rfl⟩⟩
instance : FldC Tryz.prog 99 1 1 := ⟨⟨_, _, Tryz.underlying99, rfl, rfl, 0, by kernel_rfl⟩⟩
instance : FldC Tryz.prog 99 2 2 := ⟨⟨_, _, Tryz.underlying99, rfl, rfl, 0, by kernel_rfl⟩⟩
-- 102 pfs.FS
instance : FldC Tryz.prog 102 0 0 := ⟨⟨_, _, Tryz.underlying102, rfl, rfl, 0, by kernel_rfl⟩⟩
instance : FldC Tryz.prog 102 1 1 := ⟨⟨_, _, Tryz.underlying102, rfl, rfl, 367, by kernel_rfl⟩⟩
instance : FldC Tryz.prog 102 2 369 := ⟨⟨_, _, Tryz.underlying102, rfl, rfl, 0, by kernel_rfl⟩⟩
instance : FldC Tryz.prog 102 3 370 := ⟨⟨_, _, Tryz.underlying102, rfl, rfl, 11, by kernel_rfl⟩⟩
-- 113 map[tree.place]int
-- 116 tree.place
instance : RowC Tryz.prog 116 2 := ⟨⟨_, Tryz.underlying116, rfl⟩, by kernel_rfl⟩
instance : ZeroC Tryz.prog 116 ([.int .i64 0, .string ⟨#[]⟩]) := ⟨⟨.agg ([.int .i64 0, .string ⟨#[]⟩]).toArray, by kernel_rfl, by kernel_rfl⟩⟩
-- 159 api.Change
instance : RowC Tryz.prog 159 2 := ⟨⟨_, Tryz.underlying159, rfl⟩, by kernel_rfl⟩
instance : ZeroC Tryz.prog 159 ([.int .i64 0, .slice none 0 0]) := ⟨⟨.agg ([.int .i64 0, .slice none 0 0]).toArray, by kernel_rfl, by kernel_rfl⟩⟩
instance : FldC Tryz.prog 159 0 0 := ⟨⟨_, _, Tryz.underlying159, rfl, rfl, 0, by kernel_rfl⟩⟩
instance : FldC Tryz.prog 159 1 1 := ⟨⟨_, _, Tryz.underlying159, rfl, rfl, 0, by kernel_rfl⟩⟩
-- 163 wal.Log
instance : FldC Tryz.prog 163 0 0 := ⟨⟨_, _, Tryz.underlying163, rfl, rfl, 0, by kernel_rfl⟩⟩
instance : FldC Tryz.prog 163 1 1 := ⟨⟨_, _, Tryz.underlying163, rfl, rfl, 0, by kernel_rfl⟩⟩
instance : FldC Tryz.prog 163 2 2 := ⟨⟨_, _, Tryz.underlying163, rfl, rfl, 0, by kernel_rfl⟩⟩
instance : FldC Tryz.prog 163 3 3 := ⟨⟨_, _, Tryz.underlying163, rfl, rfl, 0, by kernel_rfl⟩⟩
instance : FldC Tryz.prog 163 4 4 := ⟨⟨_, _, Tryz.underlying163, rfl, rfl, 639, by kernel_rfl⟩⟩
instance : FldC Tryz.prog 163 5 644 := ⟨⟨_, _, Tryz.underlying163, rfl, rfl, 0, by kernel_rfl⟩⟩
-- 217 octet.Reader
instance : FldC Tryz.prog 217 0 0 := ⟨⟨_, _, Tryz.underlying217, rfl, rfl, 0, by kernel_rfl⟩⟩
instance : FldC Tryz.prog 217 1 1 := ⟨⟨_, _, Tryz.underlying217, rfl, rfl, 0, by kernel_rfl⟩⟩
instance : FldC Tryz.prog 217 2 2 := ⟨⟨_, _, Tryz.underlying217, rfl, rfl, 0, by kernel_rfl⟩⟩
end Go.Proofs.YtgilmcpdpggikaaGreatDoor
set_option linter.unusedVariables false
namespace Go.Proofs.YtgilmcpdpggikaaGreatDoor
open Go Go.RowKit Go.Own
section
variable {P : Program}
def EqA (P : Program) (d : Nat) (t : TypeId) (xs ys : List Value) (b : Prop) : Prop := ∀ w, ∃ r : Bool, (Op.equalIn d t (.agg xs.toArray) (.agg ys.toArray)).run P w = .ok r w ∧ (r = true ↔ b)
def EqP (P : Program) (d : Nat) (t : TypeId) (xs ys : List Value) (off : Nat) (b : Prop) : Prop := ∀ w, ∃ (x y : Value) (r : Bool), (part t xs.toArray off).run P w = .ok x w ∧ (part t ys.toArray off).run P w = .ok y w ∧ (Op.equalIn d t x y).run P w = .ok r w ∧ (r = true ↔ b)
theorem EqP.int {d : Nat} {t : TypeId} {k : IntKind} {xs ys : List Value} {off : Nat} {a b : Int} (hu : P.underlying t = some (.int k)) (hx : xs[off]? = some (.int k a)) (hy : ys[off]? = some (.int k b)) : EqP P (d + 1) t xs ys off (a = b) := fun w =>
 ⟨_, _, a == b, run_part_plain w (by simp [Program.plainKey, hu]) (by simpa using hx), run_part_plain w (by simp [Program.plainKey, hu]) (by simpa using hy), run_equalIn_int w d t k k a b hu, by simp⟩
theorem bst_inj' {l m : List UInt8} : ((⟨l.toArray⟩ : ByteArray) = ⟨m.toArray⟩) ↔ l = m := by
 constructor
 ·intro h
  have := congrArg (fun b : ByteArray => b.data.toList) h
  simpa using this
 ·rintro rfl; rfl
theorem EqP.str {d : Nat} {t : TypeId} {xs ys : List Value} {off : Nat} {a b : List UInt8} (hu : P.underlying t = some .string) (hx : xs[off]? = some (.string ⟨a.toArray⟩)) (hy : ys[off]? = some (.string ⟨b.toArray⟩)) : EqP P (d + 1) t xs ys off (a = b) := fun w => by
 refine ⟨_, _, _, run_part_plain w (by simp [Program.plainKey, hu]) (by simpa using hx), run_part_plain w (by simp [Program.plainKey, hu]) (by simpa using hy), run_equalIn_string w d t _ _ hu, ?_⟩
 rw [← beq_toListBytes]
 rw [← bst_inj']
 constructor
 ·intro h
  have h2 : (⟨a.toArray⟩ : ByteArray).data.toList = (⟨b.toArray⟩ : ByteArray).data.toList := by
   have h3 : (⟨a.toArray⟩ : ByteArray) == ⟨b.toArray⟩ := h
   have h4 : ((⟨a.toArray⟩ : ByteArray).toList == (⟨b.toArray⟩ : ByteArray).toList) = true := by rw [← beq_toListBytes]; exact h3
   simpa [ByteArray.toList_eq] using h4
  have h5 : a = b := by simpa using h2
  rw [h5]
 ·intro h
  have h5 : a = b := bst_inj'.1 h
  subst h5
  rw [beq_toListBytes]
  simp
theorem run_part_agg {t : TypeId} {n : Nat} {xs : List Value} {off : Nat} (w : World) [T : RowC P t n] : (part t xs.toArray off).run P w = .ok (.agg ((xs.drop off).take n).toArray) w := by
 obtain ⟨dd, hu, hd⟩ := T.desc
 have hs := T.size
 cases hi : P.info? t with
 | none => simp [hi] at hs
 | some i =>
  have hs' : i.size = n := by simpa [hi] using hs
  have e : xs.toArray.extract off (off + n) = ((xs.drop off).take n).toArray := by
   rw [List.extract_toArray, List.extract_eq_take_drop, Nat.add_sub_cancel_left]
  have ha : (isAgg t).run P w = .ok true w := by
   cases dd <;> simp [TypeDesc.isRow] at hd <;> simp [isAgg, run_underlying hu]
  unfold part
  simp [Sem.run_bind, ha, sizeOf, typeInfo, hi, hs', e]
theorem EqA.at_ {d : Nat} {t : TypeId} {n : Nat} {xs ys : List Value} {off : Nat} {b : Prop} [T : RowC P t n] (h : EqA P d t ((xs.drop off).take n) ((ys.drop off).take n) b) : EqP P d t xs ys off b := fun w => by
 obtain ⟨r, h1, h2⟩ := h w
 exact ⟨_, _, r, run_part_agg w, run_part_agg w, h1, h2⟩
theorem eqItems_of {d : Nat} {e : TypeId} {c : Nat} {xs ys : List Value} {b : Nat → Prop} (w : World) : ∀ (is : List Nat), (∀ i ∈ is, EqP P d e xs ys (i * c) (b i)) → ∃ r : Bool, (Op.eqItems d e c xs.toArray ys.toArray is).run P w = .ok r w ∧ (r = true ↔ ∀ i ∈ is, b i)
 | [], _ => ⟨true, by simp [Op.eqItems], by simp⟩
 | i :: is, h => by
  obtain ⟨x, y, r, h1, h2, h3, h4⟩ := h i (by simp) w
  obtain ⟨r', h5, h6⟩ := eqItems_of w is (fun j hj => h j (by simp [hj]))
  simp only [Op.eqItems, Sem.run_bind, h1, h2, h3, Result.andThen_ok]
  cases r
  ·refine ⟨false, by simp, ?_⟩
   constructor
   ·intro h; cases h
   ·intro h; exact absurd (h4.2 (h i (by simp))) (by simp)
  ·refine ⟨r', by simpa using h5, ?_⟩
   rw [h6]
   constructor
   ·intro h j hj
    rcases List.mem_cons.1 hj with rfl | hj
    ·exact h4.1 rfl
    ·exact h j hj
   ·intro h j hj; exact h j (by simp [hj])
theorem eqFields_of {d : Nat} {xs ys : List Value} {b : Field → Prop} (w : World) : ∀ (fs : List Field), (∀ f ∈ fs, f.name ≠ "_" ∧ EqP P d f.type xs ys f.offset (b f)) → ∃ r : Bool, (Op.eqFields d xs.toArray ys.toArray fs).run P w = .ok r w ∧ (r = true ↔ ∀ f ∈ fs, b f)
 | [], _ => ⟨true, by simp [Op.eqFields], by simp⟩
 | f :: fs, h => by
  obtain ⟨hn, hf⟩ := h f (by simp)
  obtain ⟨x, y, r, h1, h2, h3, h4⟩ := hf w
  obtain ⟨r', h5, h6⟩ := eqFields_of w fs (fun j hj => h j (by simp [hj]))
  simp only [Op.eqFields, hn, ne_eq, not_false_eq_true, if_true, Sem.run_bind, h1, h2, h3, Result.andThen_ok]
  cases r
  ·refine ⟨false, by simp, ?_⟩
   constructor
   ·intro h; cases h
   ·intro h; exact absurd (h4.2 (h f (by simp))) (by simp)
  ·refine ⟨r', by simpa using h5, ?_⟩
   rw [h6]
   constructor
   ·intro h j hj
    rcases List.mem_cons.1 hj with rfl | hj
    ·exact h4.1 rfl
    ·exact h j hj
   ·intro h j hj; exact h j (by simp [hj])
theorem EqA.arr {d : Nat} {t e : TypeId} {n c : Nat} {xs ys : List Value} {b : Nat → Prop} (hu : P.underlying t = some (.array n e)) (hc : (P.info? e).map (·.size) = some c) (h : ∀ i, i < n → EqP P d e xs ys (i * c) (b i)) : EqA P (d + 1) t xs ys (∀ i, i < n → b i) := fun w => by
 cases hi : P.info? e with
 | none => simp [hi] at hc
 | some inf =>
  have hs : P.cellsOf e = c := by simpa [Program.cellsOf, hi] using hc
  rw [run_equalIn_array w d _ _ hu hi, hs]
  obtain ⟨r, h1, h2⟩ := eqItems_of (P := P) (d := d) (e := e) (c := c) (xs := xs) (ys := ys) (b := b) w (List.range n) (fun i hi => h i (List.mem_range.1 hi))
  exact ⟨r, h1, by rw [h2]; simp⟩
theorem EqA.struct {d : Nat} {t : TypeId} {fs : Array Field} {xs ys : List Value} {b : Field → Prop} (hu : P.underlying t = some (.struct fs)) (hp : P.stoodInHeld t = false) (h : ∀ f ∈ fs.toList, f.name ≠ "_" ∧ EqP P d f.type xs ys f.offset (b f)) : EqA P (d + 1) t xs ys (∀ f ∈ fs.toList, b f) := fun w => by
 have hfs : P.fieldsOf t = fs := by simp [Program.fieldsOf, hu]
 rw [run_equalIn_struct w d t _ _ (by rw [hfs]; exact hu) hp, hfs]
 exact eqFields_of w _ h
theorem EqA.iff {d : Nat} {t : TypeId} {xs ys : List Value} {b c : Prop} (h : EqA P d t xs ys b) (hbc : b ↔ c) : EqA P d t xs ys c := fun w => by
 obtain ⟨r, h1, h2⟩ := h w
 exact ⟨r, h1, h2.trans hbc⟩
end
section
variable {P : Program} {n : Nat} {ops : Array Oper} {Q : Post} {rest : List Oper} {e : Env} {w : World} {s : Ro} {rs : List Asn} {tt : Nat} {pp : String} {af : Array Edge} {g : Option (Nat × Bool)} {d : Nat}
theorem X.eqA {x y : Operand} {t u : TypeId} {xs ys : List Value} {b : Prop} [Decidable b] (E : EqA P 10000 t xs ys b) (hg : P.eqGuardType P.depth t = false) (h : L P n ops Q rest (upd e d (.bool (decide b))) w) (hw : wg n ops g e = true := by rfl) (hd : Nat.blt d n = true := by rfl) (hx : ev e x = .agg xs.toArray := by rfl) (hy : ev e y = .agg ys.toArray := by rfl) : L P n ops Q (⟨some d, .binOp .eql t x y u, tt, pp, af, g⟩ :: rest) e w :=
 L.val (o := ⟨some d, .binOp .eql t x y u, tt, pp, af, g⟩) _ w hw hd (by
  obtain ⟨r, h1, h2⟩ := E w
  have hr : r = decide b := by
   cases r
   ·exact (decide_eq_false (fun hb => absurd (h2.2 hb) (by simp))).symm
   ·exact (decide_eq_true (h2.1 rfl)).symm
  subst hr
  unfold execOp
  simp only [hx, hy, Sem.run_bind, run_eqGuard_agg w .eql t x y _ _ hg, Result.andThen_ok, run_eql_struct, h1, Sem.run_pure]) h
theorem X.neA {x y : Operand} {t u : TypeId} {xs ys : List Value} {b : Prop} [Decidable b] (E : EqA P 10000 t xs ys b) (hg : P.eqGuardType P.depth t = false) (h : L P n ops Q rest (upd e d (.bool (!decide b))) w) (hw : wg n ops g e = true := by rfl) (hd : Nat.blt d n = true := by rfl) (hx : ev e x = .agg xs.toArray := by rfl) (hy : ev e y = .agg ys.toArray := by rfl) : L P n ops Q (⟨some d, .binOp .neq t x y u, tt, pp, af, g⟩ :: rest) e w :=
 L.val (o := ⟨some d, .binOp .neq t x y u, tt, pp, af, g⟩) _ w hw hd (by
  obtain ⟨r, h1, h2⟩ := E w
  have hr : r = decide b := by
   cases r
   ·exact (decide_eq_false (fun hb => absurd (h2.2 hb) (by simp))).symm
   ·exact (decide_eq_true (h2.1 rfl)).symm
  subst hr
  unfold execOp
  simp only [hx, hy, Sem.run_bind, run_eqGuard_agg w .neq t x y _ _ hg, Result.andThen_ok, run_neq_struct, h1, Sem.run_pure]) h
theorem X.ix1 {x y : Operand} {t : TypeId} {len : Nat} [A : ArrC P t len 1 true] {cs : List Value} {v : Value} {k : IntKind} {ii : Int} (i : Nat) (h : L P n ops Q rest (upd e d v) w) (hv : cs[i]? = some v) (hlt : i < len) (hw : wg n ops g e = true := by rfl) (hd : Nat.blt d n = true := by rfl) (hx : ev e x = .agg cs.toArray := by rfl) (hy : ev e y = .int k ii := by rfl) (hii : ii = (i : Int) := by first | rfl | omega) : L P n ops Q (⟨some d, .index t x y, tt, pp, af, g⟩ :: rest) e w :=
 L.val (o := ⟨some d, .index t x y, tt, pp, af, g⟩) _ w hw hd (by
  obtain ⟨el, dd, hu, hs, hue, hr⟩ := A.arr
  subst hii
  have h0 : (0 : Int) ≤ (i : Int) ∧ (i : Int) < (len : Int) := by omega
  cases hi : P.info? el with
  | none => simp [hi] at hs
  | some inf =>
   have hs' : inf.size = 1 := by simpa [hi] using hs
   have ha : (isAgg el).run P w = .ok false w := by
    cases dd <;> simp [TypeDesc.isRow] at hr <;> simp [isAgg, run_underlying hue]
   have hv' : cs.toArray[i]? = some v := by simpa using hv
   unfold execOp
   simp [hx, hy, Instr.index, asIntOf, Sem.run_bind, run_underlying hu, h0, part, ha, sizeOf, typeInfo, hi, hs', hv]
   intro hle; omega) h
theorem X.ixP {x y : Operand} {t : TypeId} {len sz : Nat} [A : ArrC P t len sz false] {cs ys : List Value} {k : IntKind} {ii : Int} (i : Nat) (h : L P n ops Q rest (upd e d (.agg ys.toArray)) w) (hv : (cs.drop (i * sz)).take sz = ys) (hlt : i < len) (hw : wg n ops g e = true := by rfl) (hd : Nat.blt d n = true := by rfl) (hx : ev e x = .agg cs.toArray := by rfl) (hy : ev e y = .int k ii := by rfl) (hii : ii = (i : Int) := by first | rfl | omega) : L P n ops Q (⟨some d, .index t x y, tt, pp, af, g⟩ :: rest) e w :=
 L.val (o := ⟨some d, .index t x y, tt, pp, af, g⟩) _ w hw hd (by
  obtain ⟨el, dd, hu, hs, hue, hr⟩ := A.arr
  subst hii
  have h0 : (0 : Int) ≤ (i : Int) ∧ (i : Int) < (len : Int) := by omega
  cases hi : P.info? el with
  | none => simp [hi] at hs
  | some inf =>
   have hs' : inf.size = sz := by simpa [hi] using hs
   haveI T : RowC P el sz := ⟨⟨dd, hue, by simpa using hr⟩, hs⟩
   have hp := run_part_agg (P := P) (t := el) (n := sz) (xs := cs) (off := i * sz) w
   rw [hv] at hp
   unfold execOp
   simp [hx, hy, Instr.index, asIntOf, Sem.run_bind, run_underlying hu, h0, sizeOf, typeInfo, hi, hs', hp]
   intro hle; omega) h
theorem X.min {x y : Operand} {ts : Array TypeId} {k j : IntKind} {a b : Int} (r : Int) (h : L P n ops Q rest (upd e d (.int k r)) w) (hr : (if b < a then b else a) = r) (hw : wg n ops g e = true := by rfl) (hd : Nat.blt d n = true := by rfl) (hx : ev e x = .int k a := by rfl) (hy : ev e y = .int j b := by rfl) : L P n ops Q (⟨some d, .call { callee := .builtin .min, args := #[x, y], argTypes := ts }, tt, pp, af, g⟩ :: rest) e w :=
 L.val (o := ⟨some d, .call { callee := .builtin .min, args := #[x, y], argTypes := ts }, tt, pp, af, g⟩) _ w hw hd (by
  subst hr
  unfold execOp
  simp [resolve, invoke, hx, hy, go_sem, Builtin.min_, Builtin.min2]) h
theorem X.max {x y : Operand} {ts : Array TypeId} {k j : IntKind} {a b : Int} (r : Int) (h : L P n ops Q rest (upd e d (.int k r)) w) (hr : (if b > a then b else a) = r) (hw : wg n ops g e = true := by rfl) (hd : Nat.blt d n = true := by rfl) (hx : ev e x = .int k a := by rfl) (hy : ev e y = .int j b := by rfl) : L P n ops Q (⟨some d, .call { callee := .builtin .max, args := #[x, y], argTypes := ts }, tt, pp, af, g⟩ :: rest) e w :=
 L.val (o := ⟨some d, .call { callee := .builtin .max, args := #[x, y], argTypes := ts }, tt, pp, af, g⟩) _ w hw hd (by
  subst hr
  unfold execOp
  simp [resolve, invoke, hx, hy, go_sem, Builtin.max_, Builtin.max2]) h
end
end Go.Proofs.YtgilmcpdpggikaaGreatDoor

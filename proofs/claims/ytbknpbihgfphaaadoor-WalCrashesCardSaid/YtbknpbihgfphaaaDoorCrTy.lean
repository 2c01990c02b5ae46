/- The types of the program, as instances; by types.py. -/
import Derived.Test.YtbknpbihgfphaaaDoorRows
import Derived.Test.YtbknpbihgfphaaaDoorCrK3
set_option linter.unusedSimpArgs false
namespace Go.Proofs.YtbknpbihgfphaaaDoor
open Go Go.RowKit Go.Own
-- 1 func()
-- 2 int64
-- 3 int
instance : OneC Tryd.prog 3 := ⟨⟨_, Tryd.underlying3, rfl⟩, by kernel_rfl⟩
instance : IntC Tryd.prog 3 .i64 := ⟨Tryd.underlying3⟩
-- 4 bool
instance : OneC Tryd.prog 4 := ⟨⟨_, Tryd.underlying4, rfl⟩, by kernel_rfl⟩
instance : BoolC Tryd.prog 4 := ⟨Tryd.underlying4⟩
-- 5 uint8
instance : OneC Tryd.prog 5 := ⟨⟨_, Tryd.underlying5, rfl⟩, by kernel_rfl⟩
instance : IntC Tryd.prog 5 .u8 := ⟨Tryd.underlying5⟩
-- 6 abi.BoundsErrorCode
-- 7 struct%20{%20x%20int64;%20y%20int;%20signed%20bool;%20code%20abi.BoundsErrorCode%20}
-- 9 string
instance : OneC Tryd.prog 9 := ⟨⟨_, Tryd.underlying9, rfl⟩, by kernel_rfl⟩
instance : StrC Tryd.prog 9 := ⟨Tryd.underlying9⟩
-- 10 runtime.errorString
-- 11 runtime.plainError
-- 12 uintptr
-- 13 struct%20{%20msg%20string;%20addr%20uintptr%20}
-- 15 *runtime.TypeAssertionError
-- 16 *runtime.PanicNilError
-- 17 *abi.Type
-- 18 struct%20{%20typ%20*abi.Type%20}
-- 20 interface%20{}
-- 21 int32
-- 22 []api.Entry
-- 23 *disk.Disk
instance : OneC Tryd.prog 23 := ⟨⟨_, Tryd.underlying23, rfl⟩, by kernel_rfl⟩
-- 24 *extent.Part
instance : OneC Tryd.prog 24 := ⟨⟨_, Tryd.underlying24, rfl⟩, by kernel_rfl⟩
-- 26 func(int)%20(*disk.Disk,%20*extent.Part,%20bool)
-- 27 *audit.Log
-- 28 api.Errno
instance : OneC Tryd.prog 28 := ⟨⟨_, Tryd.underlying28, rfl⟩, by kernel_rfl⟩
instance : ZeroC Tryd.prog 28 ([.int .i64 0]) := ⟨⟨.int .i64 0, by kernel_rfl, by kernel_rfl⟩⟩
-- 30 func(*extent.Part)%20(*audit.Log,%20api.Errno)
-- 31 func(api.Entry)%20api.Errno
-- 32 uint32
instance : OneC Tryd.prog 32 := ⟨⟨_, Tryd.underlying32, rfl⟩, by kernel_rfl⟩
instance : IntC Tryd.prog 32 .u32 := ⟨Tryd.underlying32⟩
-- 33 struct%20{%20Kind%20int;%20Part%20int;%20Version%20uint32;%20Code%20int%20}
-- 35 func(api.Entry)%20bool
-- 36 func()%20[]api.Entry
-- 37 []uint8
instance : OneC Tryd.prog 37 := ⟨⟨_, Tryd.underlying37, rfl⟩, by kernel_rfl⟩
instance : ElC Tryd.prog 37 5 1 1 ([.int .u8 0]) := ⟨⟨.int .u8 0, elT Tryd.underlying37 (by kernel_rfl) (by kernel_rfl) (by decide), by kernel_rfl⟩⟩
instance : BytesC Tryd.prog 37 := ⟨⟨_, Tryd.underlying37, Tryd.underlying5, by kernel_rfl⟩⟩
-- 39 func(int)%20([]uint8,%20api.Errno)
-- 40 func()%20string
-- 41 func()%20bool
-- 42 func([]api.Entry)%20bool
-- 43 []nacellelaw20.Act
-- 44 []bool
instance : OneC Tryd.prog 44 := ⟨⟨_, Tryd.underlying44, rfl⟩, by kernel_rfl⟩
instance : ElC Tryd.prog 44 4 1 1 ([.bool false]) := ⟨⟨.bool false, elT Tryd.underlying44 (by kernel_rfl) (by kernel_rfl) (by decide), by kernel_rfl⟩⟩
-- 45 struct%20{%20Do%20int;%20N%20int;%20Entry%20api.Entry;%20Keep%20[]bool%20}
-- 46 nacellelaw20.Act
-- 47 func(int,%20[]bool)
-- 48 func([]api.Entry,%20[]api.Entry)%20bool
-- 49 func([]nacellelaw20.Act)%20bool
-- 50 func(int)%20int
-- 51 []string
instance : OneC Tryd.prog 51 := ⟨⟨_, Tryd.underlying51, rfl⟩, by kernel_rfl⟩
instance : ElC Tryd.prog 51 9 1 16 ([.string ⟨#[]⟩]) := ⟨⟨.string ⟨#[]⟩, elT Tryd.underlying51 (by kernel_rfl) (by kernel_rfl) (by decide), by kernel_rfl⟩⟩
-- 52 []nacelleref05.Write
instance : OneC Tryd.prog 52 := ⟨⟨_, Tryd.underlying52, rfl⟩, by kernel_rfl⟩
instance : ElC Tryd.prog 52 153 2 24 ([.int .i64 0, .string ⟨#[]⟩]) := ⟨⟨.agg ([.int .i64 0, .string ⟨#[]⟩]).toArray, elT Tryd.underlying52 (by kernel_rfl) (by kernel_rfl) (by decide), by kernel_rfl⟩⟩
-- 53 struct%20{%20Has%20[]string;%20Waits%20[]nacelleref05.Write;%20Off%20bool;%20Left%20int;%20Survivors%20[]bool%20}
-- 54 nacelleref05.Disk
instance : RowC Tryd.prog 54 5 := ⟨⟨_, Tryd.underlying54, rfl⟩, by kernel_rfl⟩
instance : ZeroC Tryd.prog 54 ([.slice none 0 0, .slice none 0 0, .bool false, .int .i64 0, .slice none 0 0]) := ⟨⟨.agg ([.slice none 0 0, .slice none 0 0, .bool false, .int .i64 0, .slice none 0 0]).toArray, by kernel_rfl, by kernel_rfl⟩⟩
instance : FldC Tryd.prog 54 0 0 := ⟨⟨_, _, Tryd.underlying54, rfl, rfl, 0, by kernel_rfl⟩⟩
instance : FldC Tryd.prog 54 1 1 := ⟨⟨_, _, Tryd.underlying54, rfl, rfl, 0, by kernel_rfl⟩⟩
instance : FldC Tryd.prog 54 2 2 := ⟨⟨_, _, Tryd.underlying54, rfl, rfl, 0, by kernel_rfl⟩⟩
instance : FldC Tryd.prog 54 3 3 := ⟨⟨_, _, Tryd.underlying54, rfl, rfl, 0, by kernel_rfl⟩⟩
instance : FldC Tryd.prog 54 4 4 := ⟨⟨_, _, Tryd.underlying54, rfl, rfl, 0, by kernel_rfl⟩⟩
-- 56 func(int)%20(nacelleref05.Disk,%20bool)
-- 57 struct%20{%20D%20nacelleref05.Disk;%20From%20int;%20Count%20int;%20L%20[]api.Entry;%20Dead%20bool%20}
-- 58 nacelleref20.Log
-- 60 func(nacelleref05.Disk,%20int,%20int)%20(nacelleref20.Log,%20int)
-- 61 func(api.Entry)%20(nacelleref20.Log,%20int)
-- 62 func(int,%20[]bool)%20nacelleref05.Disk
-- 63 func([]bool)
-- 64 func([]bool)%20nacelleref05.Disk
-- 65 func()%20nacelleref05.Disk
-- 66 func()%20[]uint8
-- 67 func(int,%20[]nacellelaw20.Act)%20bool
-- 68 []nacellelaw16.Act
instance : ElC Tryd.prog 68 78 6 64 ([.int .i64 0, .int .i64 0, .int .i64 0, .int .i64 0, .int .u8 0, .slice none 0 0]) := ⟨⟨.agg ([.int .i64 0, .int .i64 0, .int .i64 0, .int .i64 0, .int .u8 0, .slice none 0 0]).toArray, elT Tryd.underlying68 (by kernel_rfl) (by kernel_rfl) (by decide), by kernel_rfl⟩⟩
-- 70 func(int)%20(*disk.Disk,%20*extent.Part,%20nacelleref05.Disk,%20bool)
-- 71 *wal.Log
instance : OneC Tryd.prog 71 := ⟨⟨_, Tryd.underlying71, rfl⟩, by kernel_rfl⟩
-- 73 func(*extent.Part)%20(*wal.Log,%20api.Errno)
-- 74 func([]api.Change)%20api.Errno
-- 75 []api.Change
instance : ElC Tryd.prog 75 98 2 32 ([.int .i64 0, .slice none 0 0]) := ⟨⟨.agg ([.int .i64 0, .slice none 0 0]).toArray, elT Tryd.underlying75 (by kernel_rfl) (by kernel_rfl) (by decide), by kernel_rfl⟩⟩
-- 76 func(nacellelaw16.Act)%20[]api.Change
-- 77 struct%20{%20Do%20int;%20N%20int;%20At%20int;%20Off%20int;%20Fill%20uint8;%20Keep%20[]bool%20}
-- 78 nacellelaw16.Act
instance : RowC Tryd.prog 78 6 := ⟨⟨_, Tryd.underlying78, rfl⟩, by kernel_rfl⟩
instance : ZeroC Tryd.prog 78 ([.int .i64 0, .int .i64 0, .int .i64 0, .int .i64 0, .int .u8 0, .slice none 0 0]) := ⟨⟨.agg ([.int .i64 0, .int .i64 0, .int .i64 0, .int .i64 0, .int .u8 0, .slice none 0 0]).toArray, by kernel_rfl, by kernel_rfl⟩⟩
instance : FldC Tryd.prog 78 0 0 := ⟨⟨_, _, Tryd.underlying78, rfl, rfl, 0, by kernel_rfl⟩⟩
instance : FldC Tryd.prog 78 1 1 := ⟨⟨_, _, Tryd.underlying78, rfl, rfl, 0, by kernel_rfl⟩⟩
instance : FldC Tryd.prog 78 2 2 := ⟨⟨_, _, Tryd.underlying78, rfl, rfl, 0, by kernel_rfl⟩⟩
instance : FldC Tryd.prog 78 3 3 := ⟨⟨_, _, Tryd.underlying78, rfl, rfl, 0, by kernel_rfl⟩⟩
instance : FldC Tryd.prog 78 4 4 := ⟨⟨_, _, Tryd.underlying78, rfl, rfl, 0, by kernel_rfl⟩⟩
instance : FldC Tryd.prog 78 5 5 := ⟨⟨_, _, Tryd.underlying78, rfl, rfl, 0, by kernel_rfl⟩⟩
-- 79 func([]nacellelaw16.Act)%20bool
-- 80 func(string,%20uint32,%20string)%20string
-- 81 func(int)%20string
-- 82 func(int,%20[]uint8)%20api.Errno
-- 84 func(int,%20string)%20(nacelleref05.Disk,%20int)
-- 85 struct%20{%20D%20nacelleref05.Disk;%20From%20int;%20Pages%20[]string;%20Epoch%20uint32;%20Home%20int;%20Used%20int;%20Dead%20bool%20}
-- 86 nacelleref16.Log
instance : RowC Tryd.prog 86 11 := ⟨⟨_, Tryd.underlying86, rfl⟩, by kernel_rfl⟩
instance : ZeroC Tryd.prog 86 ([.slice none 0 0, .slice none 0 0, .bool false, .int .i64 0, .slice none 0 0, .int .i64 0, .slice none 0 0, .int .u32 0, .int .i64 0, .int .i64 0, .bool false]) := ⟨⟨.agg ([.slice none 0 0, .slice none 0 0, .bool false, .int .i64 0, .slice none 0 0, .int .i64 0, .slice none 0 0, .int .u32 0, .int .i64 0, .int .i64 0, .bool false]).toArray, by kernel_rfl, by kernel_rfl⟩⟩
instance : FldC Tryd.prog 86 0 0 := ⟨⟨_, _, Tryd.underlying86, rfl, rfl, 4, by kernel_rfl⟩⟩
instance : FldC Tryd.prog 86 1 5 := ⟨⟨_, _, Tryd.underlying86, rfl, rfl, 0, by kernel_rfl⟩⟩
instance : FldC Tryd.prog 86 2 6 := ⟨⟨_, _, Tryd.underlying86, rfl, rfl, 0, by kernel_rfl⟩⟩
-- 88 func(nacelleref05.Disk,%20int)%20(nacelleref16.Log,%20int)
-- 89 func(*wal.Log,%20nacelleref16.Log)%20bool
-- 90 func([]api.Change)%20(nacelleref16.Log,%20int)
-- 91 func([]uint8,%20uint32)%20bool
-- 92 struct%20{%20Acts%20[]nacellelaw16.Act;%20At%20int;%20Sector%20[]uint8;%20More%20[]nacellelaw16.Act%20}
-- 93 nacellelaw16.Forged
-- 94 func(nacellelaw16.Forged)%20bool
-- 95 func(*wal.Log)%20string
-- 96 func([]api.Change)%20bool
-- 97 struct%20{%20Page%20int;%20Data%20[]uint8%20}
-- 99 func(int,%20[]nacellelaw16.Act)%20bool
-- 100 []int
instance : ElC Tryd.prog 100 3 1 8 ([.int .i64 0]) := ⟨⟨.int .i64 0, elT Tryd.underlying100 (by kernel_rfl) (by kernel_rfl) (by decide), by kernel_rfl⟩⟩
-- 101 func()%20[]int
-- 102 func()%20uint32
-- 103 func()%20int
-- 104 func(int,%20[]nacellelaw16.Act,%20[]bool)%20bool
-- 106 func(int)%20(*disk.Disk,%20api.Errno)
-- 108 func(*disk.Disk,%20extent.Extent)%20(*extent.Part,%20api.Errno)
-- 109 struct%20{%20From%20int;%20Count%20int%20}
-- 110 extent.Extent
instance : RowC Tryd.prog 110 2 := ⟨⟨_, Tryd.underlying110, rfl⟩, by kernel_rfl⟩
instance : FldC Tryd.prog 110 0 0 := ⟨⟨_, _, Tryd.underlying110, rfl, rfl, 0, by kernel_rfl⟩⟩
instance : FldC Tryd.prog 110 1 1 := ⟨⟨_, _, Tryd.underlying110, rfl, rfl, 0, by kernel_rfl⟩⟩
-- 111 struct%20{%20part%20*extent.Part;%20entries%20[]api.Entry;%20dead%20bool%20}
-- 113 func([]uint8)%20(api.Entry,%20bool)
-- 114 audit.place
-- 116 func(api.Entry)%20[]uint8
-- 117 func()%20api.Errno
-- 118 func([]api.Entry)%20[]api.Entry
-- 119 func(int)%20bool
-- 120 []disk.sector
-- 121 []disk.write
-- 122 struct%20{%20sectors%20[]disk.sector;%20pending%20[]disk.write;%20off%20bool;%20armed%20bool;%20left%20int;%20survivors%20[]bool%20}
-- 123 disk.Disk
-- 124 [64]uint8
-- 125 disk.sector
-- 126 struct%20{%20at%20int;%20content%20disk.sector%20}
-- 127 disk.write
-- 128 func([]bool)%20[]bool
-- 130 func(int)%20(string,%20int)
-- 131 func(int,%20string)%20(api.Entry,%20bool)
-- 132 func(int,%20api.Entry)%20string
-- 133 func()%20(nacelleref05.Disk,%20int)
-- 134 func(bool,%20[]bool)%20nacelleref05.Disk
-- 135 func(*extent.Part)%20api.Errno
-- 136 func(nacelleref05.Disk,%20int)%20(nacelleref05.Disk,%20int)
-- 137 [40]uint8
instance : ArrC Tryd.prog 137 40 1 true := ⟨⟨_, _, Tryd.underlying137, by kernel_rfl, Tryd.underlying5, rfl⟩⟩
-- 138 [16][40]uint8
instance : ZeroC Tryd.prog 138 (List.replicate 640 (.int .u8 0)) := ⟨⟨.agg (List.replicate 640 (.int .u8 0)).toArray, by kernel_rfl, by kernel_rfl⟩⟩
instance : ArrC Tryd.prog 138 16 40 false := ⟨⟨_, _, Tryd.underlying138, by kernel_rfl, Tryd.underlying137, rfl⟩⟩
-- 139 struct%20{%20part%20*extent.Part;%20epoch%20uint32;%20home%20int;%20used%20int;%20pages%20[16][40]uint8;%20dead%20bool%20}
-- 141 func(int,%20int)%20int
-- 143 func([]uint8)%20(uint32,%20int,%20[]uint8,%20bool)
-- 144 func(uint64,%20int)%20[]uint8
-- 145 uint64
instance : IntC Tryd.prog 145 .u64 := ⟨Tryd.underlying145⟩
-- 146 func([]uint8)%20[]uint8
-- 148 func(extent.Extent,%20int)%20(int,%20api.Errno)
-- 149 struct%20{%20extent.Extent;%20d%20*disk.Disk%20}
-- 150 extent.Part
instance : FldC Tryd.prog 150 0 0 := ⟨⟨_, _, Tryd.underlying150, rfl, rfl, 1, by kernel_rfl⟩⟩
instance : FldC Tryd.prog 150 1 2 := ⟨⟨_, _, Tryd.underlying150, rfl, rfl, 0, by kernel_rfl⟩⟩
-- 151 func()%20(nacelleref05.Disk,%20bool)
-- 152 struct%20{%20At%20int;%20B%20string%20}
-- 153 nacelleref05.Write
instance : FldC Tryd.prog 153 0 0 := ⟨⟨_, _, Tryd.underlying153, rfl, rfl, 0, by kernel_rfl⟩⟩
instance : FldC Tryd.prog 153 1 1 := ⟨⟨_, _, Tryd.underlying153, rfl, rfl, 0, by kernel_rfl⟩⟩
-- 154 func([]string)%20(nacelleref16.Log,%20int)
-- 155 func(uint32,%20int,%20[]int,%20[]string)%20(nacelleref16.Log,%20int)
-- 156 func([]int,%20[]string)%20(nacelleref16.Log,%20int)
-- 157 func(extent.Extent,%20int)%20bool
-- 158 func([]uint8)%20([]uint8,%20api.Errno)
-- 159 *octet.Reader
-- 160 func([]uint8)%20*octet.Reader
-- 161 func(int)%20uint64
-- 162 func([]uint8,%20[]uint8)%20bool
-- 163 func(uint64,%20int)
-- 164 func([]uint8)%20uint64
-- 165 func([]string,%20int,%20string)%20[]string
-- 166 func(*extent.Part,%20uint32,%20int,%20*[16][40]uint8)%20api.Errno
-- 167 *[16][40]uint8
-- 169 func([]uint8)%20(uint32,%20int,%20bool)
-- 170 func(uint32)%20int
-- 172 func([]uint8,%20uint8,%20int)%20(uint32,%20[]uint8,%20bool)
-- 174 func([]uint8)%20(uint32,%20int,%20int,%20[]uint8,%20bool)
-- 175 func([]api.Change)
-- 176 func(uint32,%20int,%20api.Change)%20[]uint8
-- 177 func(uint32,%20int)%20[]uint8
-- 178 func([]uint8)%20uint32
-- 179 func(int,%20string)%20(nacelleref16.Log,%20int)
-- 180 func()%20(nacelleref16.Log,%20int)
-- 182 func([]uint8)%20(uint64,%20api.Errno)
-- 183 struct%20{%20b%20[]uint8;%20at%20int;%20code%20api.Errno%20}
-- 185 func(api.Errno)
-- 187 func(int)%20([]uint8,%20bool)
-- 188 func(uint32,%20int,%20[]uint8)%20[]uint8
-- 189 func([]uint8,%20func(uint8)%20bool)%20bool
-- 190 func(uint8)%20bool
-- 191 func(uint8,%20uint32,%20...uint8)%20[]uint8
-- 192 func(...[]uint8)%20[]uint8
-- 193 func(uint32,%20[]uint8)%20uint32
-- 194 func([]uint8,%20func(uint8)%20bool)%20int
-- 195 [][]uint8
instance : ElC Tryd.prog 195 37 1 24 ([.slice none 0 0]) := ⟨⟨.slice none 0 0, elT Tryd.underlying195 (by kernel_rfl) (by kernel_rfl) (by decide), by kernel_rfl⟩⟩
-- 196 func([]uint8,%20int)%20[]uint8
-- 197 uint
instance : IntC Tryd.prog 197 .u64 := ⟨Tryd.underlying197⟩
-- 198 [16]uint32
instance : ArrC Tryd.prog 198 16 1 true := ⟨⟨_, _, Tryd.underlying198, by kernel_rfl, Tryd.underlying32, rfl⟩⟩
-- 199 struct%20{%20_interface%20*abi.Type;%20concrete%20*abi.Type;%20asserted%20*abi.Type;%20missingMethod%20string%20}
-- 201 [0]*runtime.PanicNilError
-- 202 struct%20{%20_%20[0]*runtime.PanicNilError%20}
-- 204 abi.TFlag
-- 205 abi.Kind
-- 206 func(unsafe.Pointer,%20unsafe.Pointer)%20bool
-- 207 *uint8
-- 208 abi.NameOff
-- 209 abi.TypeOff
-- 210 struct%20{%20Size_%20uintptr;%20PtrBytes%20uintptr;%20Hash%20uint32;%20TFlag%20abi.TFlag;%20Align_%20uint8;%20FieldAlign_%20uint8;%20Kind_%20abi.Kind;%20Equal%20func(unsafe.Pointer,%20unsafe.Pointer)%20bool;%20GCData%20*uint8;%20Str%20abi.NameOff;%20PtrToThis%20abi.TypeOff%20}
instance : FunC Tryd.prog 17 := ⟨⟨_, _, Tryd.func17, by kernel_rfl, rfl⟩⟩  -- (*nacelle/disk.Disk).Read
instance : FunC Tryd.prog 18 := ⟨⟨_, _, Tryd.func18, by kernel_rfl, rfl⟩⟩  -- nacelle/nacelleref05.Noughts
instance : FunC Tryd.prog 20 := ⟨⟨_, _, Tryd.func20, by kernel_rfl, rfl⟩⟩  -- (*nacelle/disk.Disk).Arm
instance : FunC Tryd.prog 21 := ⟨⟨_, _, Tryd.func21, by kernel_rfl, rfl⟩⟩  -- (*nacelle/disk.Disk).Power
instance : FunC Tryd.prog 24 := ⟨⟨_, _, Tryd.func24, by kernel_rfl, rfl⟩⟩  -- nacelle/nacelleref05.New
instance : FunC Tryd.prog 29 := ⟨⟨_, _, Tryd.func29, by kernel_rfl, rfl⟩⟩  -- (nacelle/nacelleref05.Disk).Crash
instance : FunC Tryd.prog 34 := ⟨⟨_, _, Tryd.func34, by kernel_rfl, rfl⟩⟩  -- nacelle/nacellelaw16.awake
instance : FunC Tryd.prog 35 := ⟨⟨_, _, Tryd.func35, by kernel_rfl, rfl⟩⟩  -- nacelle/nacellelaw16.part
instance : FunC Tryd.prog 36 := ⟨⟨_, _, Tryd.func36, by kernel_rfl, rfl⟩⟩  -- nacelle/wal.Open
instance : FunC Tryd.prog 37 := ⟨⟨_, _, Tryd.func37, by kernel_rfl, rfl⟩⟩  -- (*nacelle/wal.Log).Commit
instance : FunC Tryd.prog 38 := ⟨⟨_, _, Tryd.func38, by kernel_rfl, rfl⟩⟩  -- nacelle/nacellelaw16.Changes
instance : FunC Tryd.prog 39 := ⟨⟨_, _, Tryd.func39, by kernel_rfl, rfl⟩⟩  -- nacelle/nacelleref16.Sector
instance : FunC Tryd.prog 40 := ⟨⟨_, _, Tryd.func40, by kernel_rfl, rfl⟩⟩  -- nacelle/nacelleref16.Noughts
instance : FunC Tryd.prog 41 := ⟨⟨_, _, Tryd.func41, by kernel_rfl, rfl⟩⟩  -- (*nacelle/extent.Part).Write
instance : FunC Tryd.prog 42 := ⟨⟨_, _, Tryd.func42, by kernel_rfl, rfl⟩⟩  -- (nacelle/nacelleref05.Disk).Write
instance : FunC Tryd.prog 46 := ⟨⟨_, _, Tryd.func46, by kernel_rfl, rfl⟩⟩  -- (*nacelle/disk.Disk).On
instance : FunC Tryd.prog 47 := ⟨⟨_, _, Tryd.func47, by kernel_rfl, rfl⟩⟩  -- nacelle/nacellelaw16.from
instance : FunC Tryd.prog 48 := ⟨⟨_, _, Tryd.func48, by kernel_rfl, rfl⟩⟩  -- nacelle/nacellelaw16.pages
instance : FunC Tryd.prog 49 := ⟨⟨_, _, Tryd.func49, by kernel_rfl, rfl⟩⟩  -- nacelle/nacelleref16.May
instance : FunC Tryd.prog 51 := ⟨⟨_, _, Tryd.func51, by kernel_rfl, rfl⟩⟩  -- (*nacelle/wal.Log).Epoch
instance : FunC Tryd.prog 52 := ⟨⟨_, _, Tryd.func52, by kernel_rfl, rfl⟩⟩  -- (*nacelle/wal.Log).Used
instance : FunC Tryd.prog 53 := ⟨⟨_, _, Tryd.func53, by kernel_rfl, rfl⟩⟩  -- nacelle/disk.New
instance : FunC Tryd.prog 54 := ⟨⟨_, _, Tryd.func54, by kernel_rfl, rfl⟩⟩  -- nacelle/extent.New
instance : FunC Tryd.prog 55 := ⟨⟨_, _, Tryd.func55, by kernel_rfl, rfl⟩⟩  -- (*nacelle/extent.Part).Size
instance : FunC Tryd.prog 56 := ⟨⟨_, _, Tryd.func56, by kernel_rfl, rfl⟩⟩  -- (*nacelle/extent.Part).Read
instance : FunC Tryd.prog 60 := ⟨⟨_, _, Tryd.func60, by kernel_rfl, rfl⟩⟩  -- (*nacelle/extent.Part).Flush
instance : FunC Tryd.prog 68 := ⟨⟨_, _, Tryd.func68, by kernel_rfl, rfl⟩⟩  -- (nacelle/nacelleref05.Disk).Flush
instance : FunC Tryd.prog 69 := ⟨⟨_, _, Tryd.func69, by kernel_rfl, rfl⟩⟩  -- (nacelle/nacelleref05.Disk).laid
instance : FunC Tryd.prog 70 := ⟨⟨_, _, Tryd.func70, by kernel_rfl, rfl⟩⟩  -- (*nacelle/wal.Log).Page
instance : FunC Tryd.prog 71 := ⟨⟨_, _, Tryd.func71, by kernel_rfl, rfl⟩⟩  -- nacelle/wal.Format
instance : FunC Tryd.prog 72 := ⟨⟨_, _, Tryd.func72, by kernel_rfl, rfl⟩⟩  -- nacelle/nacelleref16.Format
instance : FunC Tryd.prog 73 := ⟨⟨_, _, Tryd.func73, by kernel_rfl, rfl⟩⟩  -- (*nacelle/wal.Log).readHead
instance : FunC Tryd.prog 74 := ⟨⟨_, _, Tryd.func74, by kernel_rfl, rfl⟩⟩  -- nacelle/wal.homeAt
instance : FunC Tryd.prog 75 := ⟨⟨_, _, Tryd.func75, by kernel_rfl, rfl⟩⟩  -- nacelle/wal.readPage
instance : FunC Tryd.prog 76 := ⟨⟨_, _, Tryd.func76, by kernel_rfl, rfl⟩⟩  -- (*nacelle/wal.Log).readRecords
instance : FunC Tryd.prog 77 := ⟨⟨_, _, Tryd.func77, by kernel_rfl, rfl⟩⟩  -- nacelle/wal.valid
instance : FunC Tryd.prog 78 := ⟨⟨_, _, Tryd.func78, by kernel_rfl, rfl⟩⟩  -- (*nacelle/wal.Log).Commit$1
instance : FunC Tryd.prog 79 := ⟨⟨_, _, Tryd.func79, by kernel_rfl, rfl⟩⟩  -- (*nacelle/wal.Log).checkpoint
instance : FunC Tryd.prog 80 := ⟨⟨_, _, Tryd.func80, by kernel_rfl, rfl⟩⟩  -- (*nacelle/wal.Log).record
instance : FunC Tryd.prog 81 := ⟨⟨_, _, Tryd.func81, by kernel_rfl, rfl⟩⟩  -- nacelle/nacelleref02.Put
instance : FunC Tryd.prog 82 := ⟨⟨_, _, Tryd.func82, by kernel_rfl, rfl⟩⟩  -- nacelle/nacelleref03.Seal
instance : FunC Tryd.prog 83 := ⟨⟨_, _, Tryd.func83, by kernel_rfl, rfl⟩⟩  -- nacelle/extent.Place
instance : FunC Tryd.prog 84 := ⟨⟨_, _, Tryd.func84, by kernel_rfl, rfl⟩⟩  -- (*nacelle/disk.Disk).Write
instance : FunC Tryd.prog 85 := ⟨⟨_, _, Tryd.func85, by kernel_rfl, rfl⟩⟩  -- (nacelle/nacelleref05.Disk).step
instance : FunC Tryd.prog 88 := ⟨⟨_, _, Tryd.func88, by kernel_rfl, rfl⟩⟩  -- (nacelle/nacelleref16.Log).settle
instance : FunC Tryd.prog 89 := ⟨⟨_, _, Tryd.func89, by kernel_rfl, rfl⟩⟩  -- nacelle/nacelleref16.one
instance : FunC Tryd.prog 90 := ⟨⟨_, _, Tryd.func90, by kernel_rfl, rfl⟩⟩  -- (nacelle/nacelleref16.Log).all
instance : FunC Tryd.prog 91 := ⟨⟨_, _, Tryd.func91, by kernel_rfl, rfl⟩⟩  -- nacelle/extent.Lies
instance : FunC Tryd.prog 92 := ⟨⟨_, _, Tryd.func92, by kernel_rfl, rfl⟩⟩  -- (*nacelle/disk.Disk).Size
instance : FunC Tryd.prog 93 := ⟨⟨_, _, Tryd.func93, by kernel_rfl, rfl⟩⟩  -- nacelle/crc.Open
instance : FunC Tryd.prog 98 := ⟨⟨_, _, Tryd.func98, by kernel_rfl, rfl⟩⟩  -- nacelle/octet.Put
instance : FunC Tryd.prog 99 := ⟨⟨_, _, Tryd.func99, by kernel_rfl, rfl⟩⟩  -- nacelle/crc.Seal
instance : FunC Tryd.prog 100 := ⟨⟨_, _, Tryd.func100, by kernel_rfl, rfl⟩⟩  -- (*nacelle/disk.Disk).Flush
instance : FunC Tryd.prog 102 := ⟨⟨_, _, Tryd.func102, by kernel_rfl, rfl⟩⟩  -- nacelle/nacelleref05.with
instance : FunC Tryd.prog 103 := ⟨⟨_, _, Tryd.func103, by kernel_rfl, rfl⟩⟩  -- nacelle/wal.writeHome
instance : FunC Tryd.prog 104 := ⟨⟨_, _, Tryd.func104, by kernel_rfl, rfl⟩⟩  -- nacelle/wal.readHead
instance : FunC Tryd.prog 105 := ⟨⟨_, _, Tryd.func105, by kernel_rfl, rfl⟩⟩  -- nacelle/wal.headAt
instance : FunC Tryd.prog 106 := ⟨⟨_, _, Tryd.func106, by kernel_rfl, rfl⟩⟩  -- nacelle/wal.content
instance : FunC Tryd.prog 107 := ⟨⟨_, _, Tryd.func107, by kernel_rfl, rfl⟩⟩  -- nacelle/wal.readRecord
instance : FunC Tryd.prog 108 := ⟨⟨_, _, Tryd.func108, by kernel_rfl, rfl⟩⟩  -- nacelle/wal.readMark
instance : FunC Tryd.prog 109 := ⟨⟨_, _, Tryd.func109, by kernel_rfl, rfl⟩⟩  -- (*nacelle/wal.Log).apply
instance : FunC Tryd.prog 110 := ⟨⟨_, _, Tryd.func110, by kernel_rfl, rfl⟩⟩  -- nacelle/wal.recordSector
instance : FunC Tryd.prog 111 := ⟨⟨_, _, Tryd.func111, by kernel_rfl, rfl⟩⟩  -- nacelle/wal.markSector
instance : FunC Tryd.prog 112 := ⟨⟨_, _, Tryd.func112, by kernel_rfl, rfl⟩⟩  -- nacelle/nacelleref03.Of
instance : FunC Tryd.prog 114 := ⟨⟨_, _, Tryd.func114, by kernel_rfl, rfl⟩⟩  -- (nacelle/nacelleref16.Log).write
instance : FunC Tryd.prog 115 := ⟨⟨_, _, Tryd.func115, by kernel_rfl, rfl⟩⟩  -- (nacelle/nacelleref16.Log).flush
instance : FunC Tryd.prog 116 := ⟨⟨_, _, Tryd.func116, by kernel_rfl, rfl⟩⟩  -- nacelle/octet.Get
instance : FunC Tryd.prog 117 := ⟨⟨_, _, Tryd.func117, by kernel_rfl, rfl⟩⟩  -- nacelle/crc.Of
instance : FunC Tryd.prog 120 := ⟨⟨_, _, Tryd.func120, by kernel_rfl, rfl⟩⟩  -- nacelle/octet.number
instance : FunC Tryd.prog 121 := ⟨⟨_, _, Tryd.func121, by kernel_rfl, rfl⟩⟩  -- nacelle/wal.pageSector
instance : FunC Tryd.prog 122 := ⟨⟨_, _, Tryd.func122, by kernel_rfl, rfl⟩⟩  -- nacelle/wal.headSector
instance : FunC Tryd.prog 123 := ⟨⟨_, _, Tryd.func123, by kernel_rfl, rfl⟩⟩  -- slices.ContainsFunc[[]byte,byte]
instance : FunC Tryd.prog 124 := ⟨⟨_, _, Tryd.func124, by kernel_rfl, rfl⟩⟩  -- nacelle/wal.content$1
instance : FunC Tryd.prog 125 := ⟨⟨_, _, Tryd.func125, by kernel_rfl, rfl⟩⟩  -- nacelle/wal.sector
instance : FunC Tryd.prog 126 := ⟨⟨_, _, Tryd.func126, by kernel_rfl, rfl⟩⟩  -- slices.Concat[[]byte,byte]
instance : FunC Tryd.prog 127 := ⟨⟨_, _, Tryd.func127, by kernel_rfl, rfl⟩⟩  -- nacelle/nacelleref03.On
instance : FunC Tryd.prog 128 := ⟨⟨_, _, Tryd.func128, by kernel_rfl, rfl⟩⟩  -- nacelle/crc.On
instance : FunC Tryd.prog 130 := ⟨⟨_, _, Tryd.func130, by kernel_rfl, rfl⟩⟩  -- slices.IndexFunc[[]byte,byte]
instance : FunC Tryd.prog 131 := ⟨⟨_, _, Tryd.func131, by kernel_rfl, rfl⟩⟩  -- slices.Grow[[]byte,byte]
end Go.Proofs.YtbknpbihgfphaaaDoor

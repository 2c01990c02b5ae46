/- The types of the program, as instances; by types.py. The types of the program, as instances; by types.py. Rules of the walk for trees: arrays by value, min and max, structs compared, part of an array. More rules of the walk: arithmetic without a sign, a string's bytes. Over any program. -/
import Derived.Test.YtlchnabnhimlcaaRows
import Derived.Test.YtlchnabnhimlcaaTlK3
import Derived.Test.YtlchnabnhimlcaaTlK4
import Derived.Laws.StructEq
import Derived.ChangeKeysEq
set_option linter.unusedSimpArgs false
namespace Go.Proofs.Ytlchnabnhimlcaa
open Go Go.RowKit Go.Own
-- 1 func()
-- 2 int64
-- 3 int
instance : OneC Try.prog 3 := ⟨⟨_, Try.underlying3, rfl⟩, by kernel_rfl⟩
instance : ZeroC Try.prog 3 ([.int .i64 0]) := ⟨⟨.int .i64 0, by kernel_rfl, by kernel_rfl⟩⟩
instance : IntC Try.prog 3 .i64 := ⟨Try.underlying3⟩
-- 4 bool
instance : OneC Try.prog 4 := ⟨⟨_, Try.underlying4, rfl⟩, by kernel_rfl⟩
instance : ZeroC Try.prog 4 ([.bool false]) := ⟨⟨.bool false, by kernel_rfl, by kernel_rfl⟩⟩
-- 5 uint8
instance : OneC Try.prog 5 := ⟨⟨_, Try.underlying5, rfl⟩, by kernel_rfl⟩
instance : IntC Try.prog 5 .u8 := ⟨Try.underlying5⟩
-- 6 abi.BoundsErrorCode
-- 7 struct%20{%20x%20int64;%20y%20int;%20signed%20bool;%20code%20abi.BoundsErrorCode%20}
-- 9 string
instance : OneC Try.prog 9 := ⟨⟨_, Try.underlying9, rfl⟩, by kernel_rfl⟩
instance : StrC Try.prog 9 := ⟨Try.underlying9⟩
-- 10 runtime.errorString
-- 11 runtime.plainError
-- 12 uintptr
-- 13 struct%20{%20msg%20string;%20addr%20uintptr%20}
-- 15 *runtime.TypeAssertionError
-- 16 *runtime.PanicNilError
-- 17 *abi.Type
-- 18 struct%20{%20typ%20*abi.Type%20}
-- 20 interface%20{}
-- 21 int32
-- 22 func()%20bool
-- 23 []nacellelaw17.Op
instance : OneC Try.prog 23 := ⟨⟨_, Try.underlying23, rfl⟩, by kernel_rfl⟩
instance : ElC Try.prog 23 26 6 80 ([.int .i64 0, .string ⟨#[]⟩, .string ⟨#[]⟩, .int .i64 0, .int .i64 0, .slice none 0 0]) := ⟨⟨.agg ([.int .i64 0, .string ⟨#[]⟩, .string ⟨#[]⟩, .int .i64 0, .int .i64 0, .slice none 0 0]).toArray, elT Try.underlying23 (by kernel_rfl) (by kernel_rfl) (by decide), by kernel_rfl⟩⟩
-- 24 []uint8
instance : OneC Try.prog 24 := ⟨⟨_, Try.underlying24, rfl⟩, by kernel_rfl⟩
instance : ElC Try.prog 24 5 1 1 ([.int .u8 0]) := ⟨⟨.int .u8 0, elT Try.underlying24 (by kernel_rfl) (by kernel_rfl) (by decide), by kernel_rfl⟩⟩
instance : BytesC Try.prog 24 := ⟨⟨_, Try.underlying24, Try.underlying5, by kernel_rfl⟩⟩
-- 25 struct%20{%20Do%20int;%20Path%20string;%20To%20string;%20N%20int;%20Quota%20int;%20Data%20[]uint8%20}
-- 26 nacellelaw17.Op
instance : RowC Try.prog 26 6 := ⟨⟨_, Try.underlying26, rfl⟩, by kernel_rfl⟩
instance : FldC Try.prog 26 0 0 := ⟨⟨_, _, Try.underlying26, rfl, rfl, 0, by kernel_rfl⟩⟩
instance : FldC Try.prog 26 1 1 := ⟨⟨_, _, Try.underlying26, rfl, rfl, 0, by kernel_rfl⟩⟩
instance : FldC Try.prog 26 2 2 := ⟨⟨_, _, Try.underlying26, rfl, rfl, 0, by kernel_rfl⟩⟩
instance : FldC Try.prog 26 3 3 := ⟨⟨_, _, Try.underlying26, rfl, rfl, 0, by kernel_rfl⟩⟩
instance : FldC Try.prog 26 4 4 := ⟨⟨_, _, Try.underlying26, rfl, rfl, 0, by kernel_rfl⟩⟩
instance : FldC Try.prog 26 5 5 := ⟨⟨_, _, Try.underlying26, rfl, rfl, 0, by kernel_rfl⟩⟩
-- 27 [2]int
instance : RowC Try.prog 27 2 := ⟨⟨_, Try.underlying27, rfl⟩, by kernel_rfl⟩
instance : ArrC Try.prog 27 2 1 true := ⟨⟨_, _, Try.underlying27, by kernel_rfl, Try.underlying3, rfl⟩⟩
-- 28 struct%20{%20Kind%20int;%20Parent%20int;%20Name%20string;%20Size%20int;%20Blocks%20[2]int%20}
-- 30 [8]api.Node
instance : RowC Try.prog 30 48 := ⟨⟨_, Try.underlying30, rfl⟩, by kernel_rfl⟩
instance : ArrC Try.prog 30 8 6 false := ⟨⟨_, _, Try.underlying30, by kernel_rfl, Try.underlying29, rfl⟩⟩
-- 31 [40]uint8
instance : RowC Try.prog 31 40 := ⟨⟨_, Try.underlying31, rfl⟩, by kernel_rfl⟩
instance : ZeroC Try.prog 31 (List.replicate 40 (.int .u8 0)) := ⟨⟨.agg (List.replicate 40 (.int .u8 0)).toArray, by kernel_rfl, by kernel_rfl⟩⟩
instance : ArrC Try.prog 31 40 1 true := ⟨⟨_, _, Try.underlying31, by kernel_rfl, Try.underlying5, rfl⟩⟩
-- 32 [8][40]uint8
instance : RowC Try.prog 32 320 := ⟨⟨_, Try.underlying32, rfl⟩, by kernel_rfl⟩
instance : ArrC Try.prog 32 8 40 false := ⟨⟨_, _, Try.underlying32, by kernel_rfl, Try.underlying31, rfl⟩⟩
-- 33 struct%20{%20Nodes%20[8]api.Node;%20Blocks%20[8][40]uint8%20}
-- 35 []int
instance : OneC Try.prog 35 := ⟨⟨_, Try.underlying35, rfl⟩, by kernel_rfl⟩
instance : ElC Try.prog 35 3 1 8 ([.int .i64 0]) := ⟨⟨.int .i64 0, elT Try.underlying35 (by kernel_rfl) (by kernel_rfl) (by decide), by kernel_rfl⟩⟩
-- 36 struct%20{%20Kind%20int;%20Path%20string;%20Data%20string;%20Blocks%20[]int%20}
-- 37 nacelleref17.Node
instance : RowC Try.prog 37 4 := ⟨⟨_, Try.underlying37, rfl⟩, by kernel_rfl⟩
instance : FldC Try.prog 37 0 0 := ⟨⟨_, _, Try.underlying37, rfl, rfl, 0, by kernel_rfl⟩⟩
instance : FldC Try.prog 37 1 1 := ⟨⟨_, _, Try.underlying37, rfl, rfl, 0, by kernel_rfl⟩⟩
instance : FldC Try.prog 37 2 2 := ⟨⟨_, _, Try.underlying37, rfl, rfl, 0, by kernel_rfl⟩⟩
instance : FldC Try.prog 37 3 3 := ⟨⟨_, _, Try.underlying37, rfl, rfl, 0, by kernel_rfl⟩⟩
-- 38 [8]nacelleref17.Node
-- 39 nacelleref17.Tree
instance : RowC Try.prog 39 32 := ⟨⟨_, Try.underlying39, rfl⟩, by kernel_rfl⟩
instance : ArrC Try.prog 39 8 4 false := ⟨⟨_, _, Try.underlying39, by kernel_rfl, Try.underlying37, rfl⟩⟩
-- 41 func([]nacellelaw17.Op)%20(api.Tree,%20nacelleref17.Tree,%20bool)
-- 42 api.Errno
instance : OneC Try.prog 42 := ⟨⟨_, Try.underlying42, rfl⟩, by kernel_rfl⟩
instance : ZeroC Try.prog 42 ([.int .i64 0]) := ⟨⟨.int .i64 0, by kernel_rfl, by kernel_rfl⟩⟩
-- 44 func(api.Tree,%20string,%20int,%20int)%20([]uint8,%20api.Errno)
-- 45 func(string,%20string)%20bool
-- 46 func(api.Tree,%20nacelleref17.Tree,%20nacellelaw17.Op)%20(api.Tree,%20nacelleref17.Tree,%20bool)
-- 47 func(api.Tree)%20bool
-- 48 func([]nacellelaw17.Op,%20nacellelaw17.Op,%20string)%20bool
-- 50 func(api.Tree,%20string,%20int,%20[]uint8,%20int)%20(api.Tree,%20api.Errno)
-- 51 func(api.Tree)%20int
-- 52 func([]nacellelaw17.Op,%20nacellelaw17.Op)%20bool
-- 53 func([][]uint8)%20(api.Tree,%20api.Errno)
-- 54 [][]uint8
-- 55 func(api.Tree)%20[][]uint8
-- 57 func(api.Tree,%20string)%20(int,%20api.Errno)
-- 58 func(api.Tree,%20string,%20int)%20(api.Tree,%20api.Errno)
-- 59 func([]nacellelaw17.Op,%20api.Tree)%20bool
-- 60 struct%20{%20L%20[]nacellelaw17.Op;%20Path%20string;%20At%20int;%20N%20int%20}
-- 61 nacellelaw17.Look
instance : FldC Try.prog 61 0 0 := ⟨⟨_, _, Try.underlying61, rfl, rfl, 0, by kernel_rfl⟩⟩
instance : FldC Try.prog 61 1 1 := ⟨⟨_, _, Try.underlying61, rfl, rfl, 0, by kernel_rfl⟩⟩
instance : FldC Try.prog 61 2 2 := ⟨⟨_, _, Try.underlying61, rfl, rfl, 0, by kernel_rfl⟩⟩
instance : FldC Try.prog 61 3 3 := ⟨⟨_, _, Try.underlying61, rfl, rfl, 0, by kernel_rfl⟩⟩
-- 63 func(string)%20(int,%20int)
-- 64 []string
instance : ElC Try.prog 64 9 1 16 ([.string ⟨#[]⟩]) := ⟨⟨.string ⟨#[]⟩, elT Try.underlying64 (by kernel_rfl) (by kernel_rfl) (by decide), by kernel_rfl⟩⟩
-- 66 func(api.Tree,%20string)%20([]string,%20api.Errno)
-- 68 func(string)%20([]string,%20int)
-- 70 func(string,%20int,%20int)%20(string,%20int)
-- 72 func(api.Tree,%20int)%20(string,%20api.Errno)
-- 73 func()%20int
-- 74 func(nacellelaw17.Look)%20bool
-- 75 func()%20api.Tree
-- 76 func(api.Tree,%20string,%20string)%20(api.Tree,%20api.Errno)
-- 77 func(api.Tree,%20string)%20(api.Tree,%20api.Errno)
-- 78 func()%20nacelleref17.Tree
-- 79 func(*api.Tree,%20string,%20int)%20(int,%20api.Errno)
-- 80 *api.Tree
instance : OneC Try.prog 80 := ⟨⟨_, Try.underlying80, rfl⟩, by kernel_rfl⟩
-- 82 func(string,%20int)%20(nacelleref17.Tree,%20int)
-- 83 func(string)%20(nacelleref17.Tree,%20int)
-- 84 func(string,%20string)%20(nacelleref17.Tree,%20int)
-- 85 func(string,%20int,%20string,%20int)%20(nacelleref17.Tree,%20int)
-- 87 func(*api.Tree,%20int)%20bool
-- 88 struct%20{%20dir%20int;%20name%20string%20}
-- 90 func(*api.Tree)%20bool
-- 91 func(*api.Tree,%20int,%20int,%20int)%20bool
-- 92 func(*api.Tree)%20int
-- 94 func([]uint8)%20(api.Node,%20bool)
-- 95 func([]uint8,%20[]uint8)%20bool
-- 96 func(api.Node)%20[]uint8
-- 97 func([]uint8)%20[]uint8
-- 98 func(*api.Tree,%20string)%20(int,%20api.Errno)
-- 99 func(string)%20bool
-- 101 func(string)%20(string,%20string)
-- 102 func(*api.Tree,%20int,%20string)%20int
-- 103 func([]string)
-- 104 func(*api.Tree,%20int)
-- 105 func(string)%20(string,%20int)
-- 106 func(string)%20int
-- 107 [8]bool
instance : ZeroC Try.prog 107 ([.bool false, .bool false, .bool false, .bool false, .bool false, .bool false, .bool false, .bool false]) := ⟨⟨.agg ([.bool false, .bool false, .bool false, .bool false, .bool false, .bool false, .bool false, .bool false]).toArray, by kernel_rfl, by kernel_rfl⟩⟩
instance : ArrC Try.prog 107 8 1 true := ⟨⟨_, _, Try.underlying107, by kernel_rfl, Try.underlying4, rfl⟩⟩
-- 108 [8]int
instance : ZeroC Try.prog 108 ([.int .i64 0, .int .i64 0, .int .i64 0, .int .i64 0, .int .i64 0, .int .i64 0, .int .i64 0, .int .i64 0]) := ⟨⟨.agg ([.int .i64 0, .int .i64 0, .int .i64 0, .int .i64 0, .int .i64 0, .int .i64 0, .int .i64 0, .int .i64 0]).toArray, by kernel_rfl, by kernel_rfl⟩⟩
instance : ArrC Try.prog 108 8 1 true := ⟨⟨_, _, Try.underlying108, by kernel_rfl, Try.underlying3, rfl⟩⟩
-- 109 *octet.Reader
-- 110 func([]uint8)%20*octet.Reader
-- 111 uint64
-- 112 func(int)%20uint64
-- 113 func(int)%20[]uint8
-- 114 func(uint64,%20int)%20[]uint8
-- 115 func(int)
-- 116 [8]uint8
-- 117 func(func(string)%20bool)
-- 119 func(string)%20iter.Seq[string]
-- 120 func(string,%20uint8)%20int
-- 121 func([]string,%20int,%20int,%20int)
-- 122 func(uint)%20int
-- 123 uint
instance : IntC Try.prog 123 .u64 := ⟨Try.underlying123⟩
-- 124 struct%20{%20b%20[]uint8;%20at%20int;%20code%20api.Errno%20}
-- 126 func(api.Errno)
-- 128 func(int)%20([]uint8,%20bool)
-- 129 func([]uint8)%20uint64
-- 131 func(string,%20string)%20(string,%20string,%20bool)
-- 132 func([]string,%20int,%20int)
-- 133 slices.sortedHint
-- 135 func([]string,%20int,%20int)%20(int,%20slices.sortedHint)
-- 136 func([]string,%20int,%20int)%20bool
-- 137 func([]string,%20int,%20int,%20int)%20int
-- 139 func([]string,%20int,%20int,%20int)%20(int,%20bool)
-- 140 func(uint32)%20int
-- 141 uint32
-- 142 func(uint64)%20int
-- 143 slices.xorshift
-- 144 func(int)%20uint
-- 145 func()%20uint64
-- 146 func([]string,%20int,%20*int)%20int
-- 147 *int
-- 148 func([]string,%20int,%20int,%20int,%20*int)%20int
-- 149 func(string,%20string)%20int
-- 150 *slices.xorshift
-- 151 func([]string,%20int,%20int,%20*int)%20(int,%20int)
-- 152 func(int)%20int
-- 154 func(string)%20(uint32,%20uint32)
-- 155 func()%20string
-- 156 struct%20{%20_interface%20*abi.Type;%20concrete%20*abi.Type;%20asserted%20*abi.Type;%20missingMethod%20string%20}
-- 158 [0]*runtime.PanicNilError
-- 159 struct%20{%20_%20[0]*runtime.PanicNilError%20}
-- 161 abi.TFlag
-- 162 abi.Kind
-- 163 func(unsafe.Pointer,%20unsafe.Pointer)%20bool
-- 164 *uint8
-- 165 abi.NameOff
-- 166 abi.TypeOff
-- 167 struct%20{%20Size_%20uintptr;%20PtrBytes%20uintptr;%20Hash%20uint32;%20TFlag%20abi.TFlag;%20Align_%20uint8;%20FieldAlign_%20uint8;%20Kind_%20abi.Kind;%20Equal%20func(unsafe.Pointer,%20unsafe.Pointer)%20bool;%20GCData%20*uint8;%20Str%20abi.NameOff;%20PtrToThis%20abi.TypeOff%20}
instance : FunC Try.prog 8 := ⟨⟨_, _, Try.func8, by kernel_rfl, rfl⟩⟩  -- nacelle/nacellelaw17.awake
instance : FunC Try.prog 9 := ⟨⟨_, _, Try.func9, by kernel_rfl, rfl⟩⟩  -- nacelle/nacellelaw17.Played
instance : FunC Try.prog 10 := ⟨⟨_, _, Try.func10, by kernel_rfl, rfl⟩⟩  -- nacelle/tree.Read
instance : FunC Try.prog 11 := ⟨⟨_, _, Try.func11, by kernel_rfl, rfl⟩⟩  -- nacelle/nacelleref17.Under
instance : FunC Try.prog 12 := ⟨⟨_, _, Try.func12, by kernel_rfl, rfl⟩⟩  -- nacelle/nacellelaw17.Do
instance : FunC Try.prog 13 := ⟨⟨_, _, Try.func13, by kernel_rfl, rfl⟩⟩  -- nacelle/tree.Check
instance : FunC Try.prog 14 := ⟨⟨_, _, Try.func14, by kernel_rfl, rfl⟩⟩  -- nacelle/tree.Write
instance : FunC Try.prog 15 := ⟨⟨_, _, Try.func15, by kernel_rfl, rfl⟩⟩  -- nacelle/tree.Used
instance : FunC Try.prog 18 := ⟨⟨_, _, Try.func18, by kernel_rfl, rfl⟩⟩  -- nacelle/tree.Find
instance : FunC Try.prog 19 := ⟨⟨_, _, Try.func19, by kernel_rfl, rfl⟩⟩  -- nacelle/tree.Make
instance : FunC Try.prog 20 := ⟨⟨_, _, Try.func20, by kernel_rfl, rfl⟩⟩  -- (nacelle/nacelleref17.Tree).Find
instance : FunC Try.prog 21 := ⟨⟨_, _, Try.func21, by kernel_rfl, rfl⟩⟩  -- nacelle/tree.Names
instance : FunC Try.prog 22 := ⟨⟨_, _, Try.func22, by kernel_rfl, rfl⟩⟩  -- (nacelle/nacelleref17.Tree).Names
instance : FunC Try.prog 23 := ⟨⟨_, _, Try.func23, by kernel_rfl, rfl⟩⟩  -- (nacelle/nacelleref17.Tree).Read
instance : FunC Try.prog 24 := ⟨⟨_, _, Try.func24, by kernel_rfl, rfl⟩⟩  -- nacelle/tree.Path
instance : FunC Try.prog 25 := ⟨⟨_, _, Try.func25, by kernel_rfl, rfl⟩⟩  -- (nacelle/nacelleref17.Tree).Used
instance : FunC Try.prog 26 := ⟨⟨_, _, Try.func26, by kernel_rfl, rfl⟩⟩  -- nacelle/tree.New
instance : FunC Try.prog 27 := ⟨⟨_, _, Try.func27, by kernel_rfl, rfl⟩⟩  -- nacelle/tree.Move
instance : FunC Try.prog 28 := ⟨⟨_, _, Try.func28, by kernel_rfl, rfl⟩⟩  -- nacelle/tree.Remove
instance : FunC Try.prog 29 := ⟨⟨_, _, Try.func29, by kernel_rfl, rfl⟩⟩  -- nacelle/nacelleref17.New
instance : FunC Try.prog 30 := ⟨⟨_, _, Try.func30, by kernel_rfl, rfl⟩⟩  -- nacelle/tree.kindOf
instance : FunC Try.prog 31 := ⟨⟨_, _, Try.func31, by kernel_rfl, rfl⟩⟩  -- (nacelle/nacelleref17.Tree).Make
instance : FunC Try.prog 32 := ⟨⟨_, _, Try.func32, by kernel_rfl, rfl⟩⟩  -- (nacelle/nacelleref17.Tree).Remove
instance : FunC Try.prog 33 := ⟨⟨_, _, Try.func33, by kernel_rfl, rfl⟩⟩  -- (nacelle/nacelleref17.Tree).Move
instance : FunC Try.prog 34 := ⟨⟨_, _, Try.func34, by kernel_rfl, rfl⟩⟩  -- (nacelle/nacelleref17.Tree).Write
instance : FunC Try.prog 35 := ⟨⟨_, _, Try.func35, by kernel_rfl, rfl⟩⟩  -- nacelle/tree.Cut
instance : FunC Try.prog 36 := ⟨⟨_, _, Try.func36, by kernel_rfl, rfl⟩⟩  -- (nacelle/nacelleref17.Tree).Cut
instance : FunC Try.prog 37 := ⟨⟨_, _, Try.func37, by kernel_rfl, rfl⟩⟩  -- nacelle/tree.nodeFits
instance : FunC Try.prog 38 := ⟨⟨_, _, Try.func38, by kernel_rfl, rfl⟩⟩  -- nacelle/tree.blocksFit
instance : FunC Try.prog 39 := ⟨⟨_, _, Try.func39, by kernel_rfl, rfl⟩⟩  -- nacelle/tree.grow
instance : FunC Try.prog 40 := ⟨⟨_, _, Try.func40, by kernel_rfl, rfl⟩⟩  -- nacelle/tree.used
instance : FunC Try.prog 45 := ⟨⟨_, _, Try.func45, by kernel_rfl, rfl⟩⟩  -- nacelle/tree.find
instance : FunC Try.prog 46 := ⟨⟨_, _, Try.func46, by kernel_rfl, rfl⟩⟩  -- nacelle/tree.isInner
instance : FunC Try.prog 47 := ⟨⟨_, _, Try.func47, by kernel_rfl, rfl⟩⟩  -- nacelle/tree.split
instance : FunC Try.prog 48 := ⟨⟨_, _, Try.func48, by kernel_rfl, rfl⟩⟩  -- nacelle/tree.child
instance : FunC Try.prog 49 := ⟨⟨_, _, Try.func49, by kernel_rfl, rfl⟩⟩  -- nacelle/nacelleref17.IsPath
instance : FunC Try.prog 50 := ⟨⟨_, _, Try.func50, by kernel_rfl, rfl⟩⟩  -- (nacelle/nacelleref17.Tree).find
instance : FunC Try.prog 51 := ⟨⟨_, _, Try.func51, by kernel_rfl, rfl⟩⟩  -- slices.Sort[[]string,string]
instance : FunC Try.prog 52 := ⟨⟨_, _, Try.func52, by kernel_rfl, rfl⟩⟩  -- nacelle/nacelleref17.Above
instance : FunC Try.prog 53 := ⟨⟨_, _, Try.func53, by kernel_rfl, rfl⟩⟩  -- (nacelle/nacelleref17.Tree).File
instance : FunC Try.prog 54 := ⟨⟨_, _, Try.func54, by kernel_rfl, rfl⟩⟩  -- nacelle/tree.empty
instance : FunC Try.prog 55 := ⟨⟨_, _, Try.func55, by kernel_rfl, rfl⟩⟩  -- (nacelle/nacelleref17.Tree).dir
instance : FunC Try.prog 56 := ⟨⟨_, _, Try.func56, by kernel_rfl, rfl⟩⟩  -- (nacelle/nacelleref17.Tree).at
instance : FunC Try.prog 57 := ⟨⟨_, _, Try.func57, by kernel_rfl, rfl⟩⟩  -- (nacelle/nacelleref17.Tree).spare
instance : FunC Try.prog 58 := ⟨⟨_, _, Try.func58, by kernel_rfl, rfl⟩⟩  -- nacelle/tree.isName
instance : FunC Try.prog 59 := ⟨⟨_, _, Try.func59, by kernel_rfl, rfl⟩⟩  -- nacelle/tree.rooted
instance : FunC Try.prog 60 := ⟨⟨_, _, Try.func60, by kernel_rfl, rfl⟩⟩  -- nacelle/tree.unused
instance : FunC Try.prog 67 := ⟨⟨_, _, Try.func67, by kernel_rfl, rfl⟩⟩  -- nacelle/tree.isPath
instance : FunC Try.prog 68 := ⟨⟨_, _, Try.func68, by kernel_rfl, rfl⟩⟩  -- nacelle/tree.names
instance : FunC Try.prog 69 := ⟨⟨_, _, Try.func69, by kernel_rfl, rfl⟩⟩  -- strings.LastIndexByte
instance : FunC Try.prog 70 := ⟨⟨_, _, Try.func70, by kernel_rfl, rfl⟩⟩  -- nacelle/nacelleref17.IsName
instance : FunC Try.prog 71 := ⟨⟨_, _, Try.func71, by kernel_rfl, rfl⟩⟩  -- slices.pdqsortOrdered[string]
instance : FunC Try.prog 76 := ⟨⟨_, _, Try.func76, by kernel_rfl, rfl⟩⟩  -- nacelle/tree.names$1
instance : FunC Try.prog 77 := ⟨⟨_, _, Try.func77, by kernel_rfl, rfl⟩⟩  -- strings.Cut
instance : FunC Try.prog 78 := ⟨⟨_, _, Try.func78, by kernel_rfl, rfl⟩⟩  -- internal/bytealg.LastIndexByteString
instance : FunC Try.prog 79 := ⟨⟨_, _, Try.func79, by kernel_rfl, rfl⟩⟩  -- slices.insertionSortOrdered[string]
instance : FunC Try.prog 85 := ⟨⟨_, _, Try.func85, by kernel_rfl, rfl⟩⟩  -- cmp.Less[string]
instance : FunC Try.prog 91 := ⟨⟨_, _, Try.func91, by kernel_rfl, rfl⟩⟩  -- internal/stringslite.Cut
instance : FunC Try.prog 97 := ⟨⟨_, _, Try.func97, by kernel_rfl, rfl⟩⟩  -- cmp.isNaN[string]
instance : FunC Try.prog 98 := ⟨⟨_, _, Try.func98, by kernel_rfl, rfl⟩⟩  -- internal/stringslite.Index
instance : FunC Try.prog 100 := ⟨⟨_, _, Try.func100, by kernel_rfl, rfl⟩⟩  -- internal/stringslite.IndexByte
end Go.Proofs.Ytlchnabnhimlcaa
set_option linter.unusedSimpArgs false
namespace Go.Proofs.Ytlchnabnhimlcaa
open Go Go.RowKit Go.Own
-- 29 api.Node
instance : RowC Try.prog 29 6 := ⟨⟨_, Try.underlying29, rfl⟩, by kernel_rfl⟩
instance : ZeroC Try.prog 29 ([.int .i64 0, .int .i64 0, .string ⟨#[]⟩, .int .i64 0, .int .i64 0, .int .i64 0]) := ⟨⟨.agg ([.int .i64 0, .int .i64 0, .string ⟨#[]⟩, .int .i64 0, .int .i64 0, .int .i64 0]).toArray, by kernel_rfl, by kernel_rfl⟩⟩
instance : FldC Try.prog 29 0 0 := ⟨⟨_, _, Try.underlying29, rfl, rfl, 0, by kernel_rfl⟩⟩
instance : FldC Try.prog 29 1 1 := ⟨⟨_, _, Try.underlying29, rfl, rfl, 0, by kernel_rfl⟩⟩
instance : FldC Try.prog 29 2 2 := ⟨⟨_, _, Try.underlying29, rfl, rfl, 0, by kernel_rfl⟩⟩
instance : FldC Try.prog 29 3 3 := ⟨⟨_, _, Try.underlying29, rfl, rfl, 0, by kernel_rfl⟩⟩
instance : FldC Try.prog 29 4 4 := ⟨⟨_, _, Try.underlying29, rfl, rfl, 1, by kernel_rfl⟩⟩
-- 34 api.Tree
instance : RowC Try.prog 34 368 := ⟨⟨_, Try.underlying34, rfl⟩, by kernel_rfl⟩
instance : FldC Try.prog 34 0 0 := ⟨⟨_, _, Try.underlying34, rfl, rfl, 47, by kernel_rfl⟩⟩
instance : FldC Try.prog 34 1 48 := ⟨⟨_, _, Try.underlying34, rfl, rfl, 319, by kernel_rfl⟩⟩
-- 86 map[tree.place]int
-- 89 tree.place
instance : RowC Try.prog 89 2 := ⟨⟨_, Try.underlying89, rfl⟩, by kernel_rfl⟩
instance : ZeroC Try.prog 89 ([.int .i64 0, .string ⟨#[]⟩]) := ⟨⟨.agg ([.int .i64 0, .string ⟨#[]⟩]).toArray, by kernel_rfl, by kernel_rfl⟩⟩
-- 125 octet.Reader
end Go.Proofs.Ytlchnabnhimlcaa
set_option linter.unusedSimpArgs false
set_option linter.unusedVariables false
namespace Go.Proofs.Ytlchnabnhimlcaa
open Go Go.RowKit Go.Own
section
variable {P : Program}
def EqA (P : Program) (d : Nat) (t : TypeId) (xs ys : List Value) (b : Prop) : Prop := ∀ w, ∃ r : Bool, (Op.equalIn d t (.agg xs.toArray) (.agg ys.toArray)).run P w = .ok r w ∧ (r = true ↔ b)
def EqP (P : Program) (d : Nat) (t : TypeId) (xs ys : List Value) (off : Nat) (b : Prop) : Prop := ∀ w, ∃ (x y : Value) (r : Bool), (part t xs.toArray off).run P w = .ok x w ∧ (part t ys.toArray off).run P w = .ok y w ∧ (Op.equalIn d t x y).run P w = .ok r w ∧ (r = true ↔ b)
theorem EqP.int {d : Nat} {t : TypeId} {k : IntKind} {xs ys : List Value} {off : Nat} {a b : Int} (hu : P.underlying t = some (.int k)) (hx : xs[off]? = some (.int k a)) (hy : ys[off]? = some (.int k b)) : EqP P (d + 1) t xs ys off (a = b) := fun w =>
  ⟨_, _, a == b, run_part_plain w (by simp [Program.plainKey, hu]) (by simpa using hx), run_part_plain w (by simp [Program.plainKey, hu]) (by simpa using hy), run_equalIn_int w d t k k a b hu, by simp⟩
theorem bst_inj' {l m : List UInt8} : ((⟨l.toArray⟩ : ByteArray) = ⟨m.toArray⟩) ↔ l = m := by
  constructor
  · intro h
    have := congrArg (fun b : ByteArray => b.data.toList) h
    simpa using this
  · rintro rfl; rfl
theorem EqP.str {d : Nat} {t : TypeId} {xs ys : List Value} {off : Nat} {a b : List UInt8} (hu : P.underlying t = some .string) (hx : xs[off]? = some (.string ⟨a.toArray⟩)) (hy : ys[off]? = some (.string ⟨b.toArray⟩)) : EqP P (d + 1) t xs ys off (a = b) := fun w => by
  refine ⟨_, _, _, run_part_plain w (by simp [Program.plainKey, hu]) (by simpa using hx), run_part_plain w (by simp [Program.plainKey, hu]) (by simpa using hy), run_equalIn_string w d t _ _ hu, ?_⟩
  rw [← beq_toListBytes]
  rw [← bst_inj']
  constructor
  · intro h
    have h2 : (⟨a.toArray⟩ : ByteArray).data.toList = (⟨b.toArray⟩ : ByteArray).data.toList := by
      have h3 : (⟨a.toArray⟩ : ByteArray) == ⟨b.toArray⟩ := h
      have h4 : ((⟨a.toArray⟩ : ByteArray).toList == (⟨b.toArray⟩ : ByteArray).toList) = true := by rw [← beq_toListBytes]; exact h3
      simpa [ByteArray.toList_eq] using h4
    have h5 : a = b := by simpa using h2
    rw [h5]
  · intro h
    have h5 : a = b := bst_inj'.1 h
    subst h5
    rw [beq_toListBytes]
    simp
theorem run_part_agg {t : TypeId} {n : Nat} {xs : List Value} {off : Nat} (w : World) [T : RowC P t n] : (part t xs.toArray off).run P w = .ok (.agg ((xs.drop off).take n).toArray) w := by
  obtain ⟨dd, hu, hd⟩ := T.desc
  have hs := T.size
  cases hi : P.info? t with
  | none => simp [hi] at hs
  | some i =>
    have hs' : i.size = n := by simpa [hi] using hs
    have e : xs.toArray.extract off (off + n) = ((xs.drop off).take n).toArray := by
      rw [List.extract_toArray, List.extract_eq_take_drop, Nat.add_sub_cancel_left]
    have ha : (isAgg t).run P w = .ok true w := by
      cases dd <;> simp [TypeDesc.isRow] at hd <;> simp [isAgg, run_underlying hu]
    unfold part
    simp [Sem.run_bind, ha, sizeOf, typeInfo, hi, hs', e]
theorem EqA.at_ {d : Nat} {t : TypeId} {n : Nat} {xs ys : List Value} {off : Nat} {b : Prop} [T : RowC P t n] (h : EqA P d t ((xs.drop off).take n) ((ys.drop off).take n) b) : EqP P d t xs ys off b := fun w => by
  obtain ⟨r, h1, h2⟩ := h w
  exact ⟨_, _, r, run_part_agg w, run_part_agg w, h1, h2⟩
theorem eqItems_of {d : Nat} {e : TypeId} {c : Nat} {xs ys : List Value} {b : Nat → Prop} (w : World) : ∀ (is : List Nat), (∀ i ∈ is, EqP P d e xs ys (i * c) (b i)) → ∃ r : Bool, (Op.eqItems d e c xs.toArray ys.toArray is).run P w = .ok r w ∧ (r = true ↔ ∀ i ∈ is, b i)
  | [], _ => ⟨true, by simp [Op.eqItems], by simp⟩
  | i :: is, h => by
    obtain ⟨x, y, r, h1, h2, h3, h4⟩ := h i (by simp) w
    obtain ⟨r', h5, h6⟩ := eqItems_of w is (fun j hj => h j (by simp [hj]))
    simp only [Op.eqItems, Sem.run_bind, h1, h2, h3, Result.andThen_ok]
    cases r
    · refine ⟨false, by simp, ?_⟩
      constructor
      · intro h; cases h
      · intro h; exact absurd (h4.2 (h i (by simp))) (by simp)
    · refine ⟨r', by simpa using h5, ?_⟩
      rw [h6]
      constructor
      · intro h j hj
        rcases List.mem_cons.1 hj with rfl | hj
        · exact h4.1 rfl
        · exact h j hj
      · intro h j hj; exact h j (by simp [hj])
theorem eqFields_of {d : Nat} {xs ys : List Value} {b : Field → Prop} (w : World) : ∀ (fs : List Field), (∀ f ∈ fs, f.name ≠ "_" ∧ EqP P d f.type xs ys f.offset (b f)) → ∃ r : Bool, (Op.eqFields d xs.toArray ys.toArray fs).run P w = .ok r w ∧ (r = true ↔ ∀ f ∈ fs, b f)
  | [], _ => ⟨true, by simp [Op.eqFields], by simp⟩
  | f :: fs, h => by
    obtain ⟨hn, hf⟩ := h f (by simp)
    obtain ⟨x, y, r, h1, h2, h3, h4⟩ := hf w
    obtain ⟨r', h5, h6⟩ := eqFields_of w fs (fun j hj => h j (by simp [hj]))
    simp only [Op.eqFields, hn, ne_eq, not_false_eq_true, if_true, Sem.run_bind, h1, h2, h3, Result.andThen_ok]
    cases r
    · refine ⟨false, by simp, ?_⟩
      constructor
      · intro h; cases h
      · intro h; exact absurd (h4.2 (h f (by simp))) (by simp)
    · refine ⟨r', by simpa using h5, ?_⟩
      rw [h6]
      constructor
      · intro h j hj
        rcases List.mem_cons.1 hj with rfl | hj
        · exact h4.1 rfl
        · exact h j hj
      · intro h j hj; exact h j (by simp [hj])
theorem EqA.arr {d : Nat} {t e : TypeId} {n c : Nat} {xs ys : List Value} {b : Nat → Prop} (hu : P.underlying t = some (.array n e)) (hc : (P.info? e).map (·.size) = some c) (h : ∀ i, i < n → EqP P d e xs ys (i * c) (b i)) : EqA P (d + 1) t xs ys (∀ i, i < n → b i) := fun w => by
  cases hi : P.info? e with
  | none => simp [hi] at hc
  | some inf =>
    have hs : P.cellsOf e = c := by simpa [Program.cellsOf, hi] using hc
    rw [run_equalIn_array w d _ _ hu hi, hs]
    obtain ⟨r, h1, h2⟩ := eqItems_of (P := P) (d := d) (e := e) (c := c) (xs := xs) (ys := ys) (b := b) w (List.range n) (fun i hi => h i (List.mem_range.1 hi))
    exact ⟨r, h1, by rw [h2]; simp⟩
theorem EqA.struct {d : Nat} {t : TypeId} {fs : Array Field} {xs ys : List Value} {b : Field → Prop} (hu : P.underlying t = some (.struct fs)) (hp : P.stoodInHeld t = false) (h : ∀ f ∈ fs.toList, f.name ≠ "_" ∧ EqP P d f.type xs ys f.offset (b f)) : EqA P (d + 1) t xs ys (∀ f ∈ fs.toList, b f) := fun w => by
  have hfs : P.fieldsOf t = fs := by simp [Program.fieldsOf, hu]
  rw [run_equalIn_struct w d t _ _ (by rw [hfs]; exact hu) hp, hfs]
  exact eqFields_of w _ h
theorem EqA.iff {d : Nat} {t : TypeId} {xs ys : List Value} {b c : Prop} (h : EqA P d t xs ys b) (hbc : b ↔ c) : EqA P d t xs ys c := fun w => by
  obtain ⟨r, h1, h2⟩ := h w
  exact ⟨r, h1, h2.trans hbc⟩
end
section
variable {P : Program} {n : Nat} {ops : Array Oper} {Q : Post} {rest : List Oper} {e : Env} {w : World} {s : Ro} {rs : List Asn} {tt : Nat} {pp : String} {af : Array Edge} {g : Option (Nat × Bool)} {d : Nat}
theorem X.eqA {x y : Operand} {t u : TypeId} {xs ys : List Value} {b : Prop} [Decidable b] (E : EqA P 10000 t xs ys b) (hg : P.eqGuardType P.depth t = false) (h : L P n ops Q rest (upd e d (.bool (decide b))) w) (hw : wg n ops g e = true := by rfl) (hd : Nat.blt d n = true := by rfl) (hx : ev e x = .agg xs.toArray := by rfl) (hy : ev e y = .agg ys.toArray := by rfl) : L P n ops Q (⟨some d, .binOp .eql t x y u, tt, pp, af, g⟩ :: rest) e w :=
  L.val (o := ⟨some d, .binOp .eql t x y u, tt, pp, af, g⟩) _ w hw hd (by
    obtain ⟨r, h1, h2⟩ := E w
    have hr : r = decide b := by
      cases r
      · exact (decide_eq_false (fun hb => absurd (h2.2 hb) (by simp))).symm
      · exact (decide_eq_true (h2.1 rfl)).symm
    subst hr
    unfold execOp
    simp only [hx, hy, Sem.run_bind, run_eqGuard_agg w .eql t x y _ _ hg, Result.andThen_ok, run_eql_struct, h1, Sem.run_pure]) h
theorem X.neA {x y : Operand} {t u : TypeId} {xs ys : List Value} {b : Prop} [Decidable b] (E : EqA P 10000 t xs ys b) (hg : P.eqGuardType P.depth t = false) (h : L P n ops Q rest (upd e d (.bool (!decide b))) w) (hw : wg n ops g e = true := by rfl) (hd : Nat.blt d n = true := by rfl) (hx : ev e x = .agg xs.toArray := by rfl) (hy : ev e y = .agg ys.toArray := by rfl) : L P n ops Q (⟨some d, .binOp .neq t x y u, tt, pp, af, g⟩ :: rest) e w :=
  L.val (o := ⟨some d, .binOp .neq t x y u, tt, pp, af, g⟩) _ w hw hd (by
    obtain ⟨r, h1, h2⟩ := E w
    have hr : r = decide b := by
      cases r
      · exact (decide_eq_false (fun hb => absurd (h2.2 hb) (by simp))).symm
      · exact (decide_eq_true (h2.1 rfl)).symm
    subst hr
    unfold execOp
    simp only [hx, hy, Sem.run_bind, run_eqGuard_agg w .neq t x y _ _ hg, Result.andThen_ok, run_neq_struct, h1, Sem.run_pure]) h
/-- an element of an array by value: one cell -/
theorem X.ix1 {x y : Operand} {t : TypeId} {len : Nat} [A : ArrC P t len 1 true] {cs : List Value} {v : Value} {k : IntKind} {ii : Int} (i : Nat) (h : L P n ops Q rest (upd e d v) w) (hv : cs[i]? = some v) (hlt : i < len) (hw : wg n ops g e = true := by rfl) (hd : Nat.blt d n = true := by rfl) (hx : ev e x = .agg cs.toArray := by rfl) (hy : ev e y = .int k ii := by rfl) (hii : ii = (i : Int) := by first | rfl | omega) : L P n ops Q (⟨some d, .index t x y, tt, pp, af, g⟩ :: rest) e w :=
  L.val (o := ⟨some d, .index t x y, tt, pp, af, g⟩) _ w hw hd (by
    obtain ⟨el, dd, hu, hs, hue, hr⟩ := A.arr
    subst hii
    have h0 : (0 : Int) ≤ (i : Int) ∧ (i : Int) < (len : Int) := by omega
    cases hi : P.info? el with
    | none => simp [hi] at hs
    | some inf =>
      have hs' : inf.size = 1 := by simpa [hi] using hs
      have ha : (isAgg el).run P w = .ok false w := by
        cases dd <;> simp [TypeDesc.isRow] at hr <;> simp [isAgg, run_underlying hue]
      have hv' : cs.toArray[i]? = some v := by simpa using hv
      unfold execOp
      simp [hx, hy, Instr.index, asIntOf, Sem.run_bind, run_underlying hu, h0, part, ha, sizeOf, typeInfo, hi, hs', hv]
      intro hle; omega) h
/-- an element of an array by value: many cells -/
theorem X.ixP {x y : Operand} {t : TypeId} {len sz : Nat} [A : ArrC P t len sz false] {cs ys : List Value} {k : IntKind} {ii : Int} (i : Nat) (h : L P n ops Q rest (upd e d (.agg ys.toArray)) w) (hv : (cs.drop (i * sz)).take sz = ys) (hlt : i < len) (hw : wg n ops g e = true := by rfl) (hd : Nat.blt d n = true := by rfl) (hx : ev e x = .agg cs.toArray := by rfl) (hy : ev e y = .int k ii := by rfl) (hii : ii = (i : Int) := by first | rfl | omega) : L P n ops Q (⟨some d, .index t x y, tt, pp, af, g⟩ :: rest) e w :=
  L.val (o := ⟨some d, .index t x y, tt, pp, af, g⟩) _ w hw hd (by
    obtain ⟨el, dd, hu, hs, hue, hr⟩ := A.arr
    subst hii
    have h0 : (0 : Int) ≤ (i : Int) ∧ (i : Int) < (len : Int) := by omega
    cases hi : P.info? el with
    | none => simp [hi] at hs
    | some inf =>
      have hs' : inf.size = sz := by simpa [hi] using hs
      haveI T : RowC P el sz := ⟨⟨dd, hue, by simpa using hr⟩, hs⟩
      have hp := run_part_agg (P := P) (t := el) (n := sz) (xs := cs) (off := i * sz) w
      rw [hv] at hp
      unfold execOp
      simp [hx, hy, Instr.index, asIntOf, Sem.run_bind, run_underlying hu, h0, sizeOf, typeInfo, hi, hs', hp]
      intro hle; omega) h
/-- min, max -/
theorem X.min {x y : Operand} {ts : Array TypeId} {k j : IntKind} {a b : Int} (r : Int) (h : L P n ops Q rest (upd e d (.int k r)) w) (hr : (if b < a then b else a) = r) (hw : wg n ops g e = true := by rfl) (hd : Nat.blt d n = true := by rfl) (hx : ev e x = .int k a := by rfl) (hy : ev e y = .int j b := by rfl) : L P n ops Q (⟨some d, .call { callee := .builtin .min, args := #[x, y], argTypes := ts }, tt, pp, af, g⟩ :: rest) e w :=
  L.val (o := ⟨some d, .call { callee := .builtin .min, args := #[x, y], argTypes := ts }, tt, pp, af, g⟩) _ w hw hd (by
    subst hr
    unfold execOp
    simp [resolve, invoke, hx, hy, go_sem, Builtin.min_, Builtin.min2]) h
theorem X.max {x y : Operand} {ts : Array TypeId} {k j : IntKind} {a b : Int} (r : Int) (h : L P n ops Q rest (upd e d (.int k r)) w) (hr : (if b > a then b else a) = r) (hw : wg n ops g e = true := by rfl) (hd : Nat.blt d n = true := by rfl) (hx : ev e x = .int k a := by rfl) (hy : ev e y = .int j b := by rfl) : L P n ops Q (⟨some d, .call { callee := .builtin .max, args := #[x, y], argTypes := ts }, tt, pp, af, g⟩ :: rest) e w :=
  L.val (o := ⟨some d, .call { callee := .builtin .max, args := #[x, y], argTypes := ts }, tt, pp, af, g⟩) _ w hw hd (by
    subst hr
    unfold execOp
    simp [resolve, invoke, hx, hy, go_sem, Builtin.max_, Builtin.max2]) h
end
end Go.Proofs.Ytlchnabnhimlcaa
set_option linter.unusedSimpArgs false
set_option linter.unusedVariables false
namespace Go.Own
open Go Go.RowKit
section
variable {P : Program} {n : Nat} {ops : Array Oper} {Q : Post} {rest : List Oper} {e : Env} {w w' : World} {s : Ro} {rs : List Asn} {tt : Nat} {pp : String} {af : Array Edge} {g : Option (Nat × Bool)} {d : Nat}
theorem B.add {x y : Operand} {t u : TypeId} {k : IntKind} {B a b : Nat} [T : IntC P t k] [U : Uns k B] (h : L P n ops Q rest (upd e d (.int k ((a + b : Nat) : Int))) w) (hw : wg n ops g e = true := by rfl) (hd : Nat.blt d n = true := by rfl) (hx : ev e x = .int k (a : Int) := by rfl) (hy : ev e y = .int k (b : Int) := by rfl) (hb : a + b < 2 ^ B := by first | assumption | decide | omega) : L P n ops Q (⟨some d, .binOp .add t x y u, tt, pp, af, g⟩ :: rest) e w :=
  K.arith _ hw hd hx hy (by
    show some (k.wrap ((a : Int) + (b : Int))) = some ((a + b : Nat) : Int)
    rw [← Int.natCast_add, uwrap_lt hb]) h
theorem B.sub {x y : Operand} {t u : TypeId} {k : IntKind} {B a b : Nat} [T : IntC P t k] [U : Uns k B] (h : L P n ops Q rest (upd e d (.int k ((a - b : Nat) : Int))) w) (hw : wg n ops g e = true := by rfl) (hd : Nat.blt d n = true := by rfl) (hx : ev e x = .int k (a : Int) := by rfl) (hy : ev e y = .int k (b : Int) := by rfl) (ha : a < 2 ^ B := by first | assumption | decide | omega) (hb : b ≤ a := by first | assumption | decide | omega) : L P n ops Q (⟨some d, .binOp .sub t x y u, tt, pp, af, g⟩ :: rest) e w :=
  K.arith _ hw hd hx hy (by
    show some (k.wrap ((a : Int) - (b : Int))) = some ((a - b : Nat) : Int)
    rw [← Int.ofNat_sub hb, uwrap_lt (Nat.lt_of_le_of_lt (Nat.sub_le _ _) ha)]) h
theorem B.mul {x y : Operand} {t u : TypeId} {k : IntKind} {B a b : Nat} [T : IntC P t k] [U : Uns k B] (h : L P n ops Q rest (upd e d (.int k ((a * b % 2 ^ B : Nat) : Int))) w) (hw : wg n ops g e = true := by rfl) (hd : Nat.blt d n = true := by rfl) (hx : ev e x = .int k (a : Int) := by rfl) (hy : ev e y = .int k (b : Int) := by rfl) : L P n ops Q (⟨some d, .binOp .mul t x y u, tt, pp, af, g⟩ :: rest) e w :=
  K.arith _ hw hd hx hy (by
    show some (k.wrap ((a : Int) * (b : Int))) = some ((a * b % 2 ^ B : Nat) : Int)
    rw [← Int.natCast_mul, uwrap]) h
theorem B.rem {x y : Operand} {t u : TypeId} {k : IntKind} {B a b : Nat} [T : IntC P t k] [U : Uns k B] (h : L P n ops Q rest (upd e d (.int k ((a % b : Nat) : Int))) w) (hw : wg n ops g e = true := by rfl) (hd : Nat.blt d n = true := by rfl) (hx : ev e x = .int k (a : Int) := by rfl) (hy : ev e y = .int k (b : Int) := by rfl) (hb : 0 < b := by first | assumption | decide | omega) : L P n ops Q (⟨some d, .binOp .rem t x y u, tt, pp, af, g⟩ :: rest) e w :=
  K.rem hw hd hx hy (by omega) (by rw [← Int.ofNat_tmod]; exact h)
theorem B.quo {x y : Operand} {t u : TypeId} {k : IntKind} {B a b : Nat} [T : IntC P t k] [U : Uns k B] (h : L P n ops Q rest (upd e d (.int k ((a / b : Nat) : Int))) w) (hw : wg n ops g e = true := by rfl) (hd : Nat.blt d n = true := by rfl) (hx : ev e x = .int k (a : Int) := by rfl) (hy : ev e y = .int k (b : Int) := by rfl) (ha : a < 2 ^ B := by first | assumption | decide | omega) (hb : 0 < b := by first | assumption | decide | omega) : L P n ops Q (⟨some d, .binOp .quo t x y u, tt, pp, af, g⟩ :: rest) e w :=
  L.val (o := ⟨some d, .binOp .quo t x y u, tt, pp, af, g⟩) _ w hw hd (by
    have h1 : (b : Int) ≠ 0 := by omega
    have h2 : k.wrap ((a : Int).tdiv (b : Int)) = ((a / b : Nat) : Int) := by
      rw [← Int.ofNat_tdiv, uwrap_lt (Nat.lt_of_le_of_lt (Nat.div_le_self _ _) ha)]
    unfold execOp
    simp only [hx, hy, eqGuard, binOp, Op.intDiv, if_neg h1, h2]
    simp) h
/-- a string's byte -/
theorem X.sidx {x y : Operand} {t : TypeId} [T : StrC P t] {l : List UInt8} {k : IntKind} {ii : Int} (i : Nat) (h : L P n ops Q rest (upd e d (.int .u8 ((l[i]?.getD 0).toNat : Int))) w) (hw : wg n ops g e = true := by rfl) (hd : Nat.blt d n = true := by rfl) (hx : ev e x = .string ⟨l.toArray⟩ := by rfl) (hy : ev e y = .int k ii := by rfl) (hii : ii = (i : Int) := by first | rfl | omega) (hl : i < l.length := by first | assumption | decide | omega) : L P n ops Q (⟨some d, .index t x y, tt, pp, af, g⟩ :: rest) e w :=
  L.val (o := ⟨some d, .index t x y, tt, pp, af, g⟩) _ w hw hd (by
    subst hii
    have := run_index_string w t ⟨l.toArray⟩ k (i : Int) T.str
    have hs : (⟨l.toArray⟩ : ByteArray).size = l.length := by simp [ByteArray.size]
    rw [dif_pos (by rw [hs]; omega)] at this
    have hg : ((⟨l.toArray⟩ : ByteArray)[(i : Int).toNat]'(by rw [hs]; omega)) = l[i]?.getD 0 := by
      simp [ByteArray.getElem_eq_getElem_data, hl]
    rw [hg] at this
    unfold execOp
    simp [hx, hy, this]) h
/-- a block of bytes that a string gave -/
def brow (b : Nat) (t : TypeId) (n c : Nat) (l : List UInt8) : Asn :=
  ⟨fun w F => F = [b] ∧ ∃ cur fz, w.heap[b]? = some (.cells cur t fz) ∧ n ≤ c ∧ c ≤ maxLen ∧ cur.size = c ∧ cur.toList.take n = u8s l ∧ l.length = n ∧ cur.size ≤ fz.1, fun h hk => ⟨h.1, by
    obtain ⟨_, cur, fz, hb, r⟩ := h
    exact ⟨cur, fz, (hk b (by simp [*])).trans hb, r⟩⟩, fun h k hk => by
    obtain ⟨h1, cur, fz, hb, r⟩ := h
    rw [h1] at hk; simp at hk; subst hk; exact lt_of_heap hb⟩
theorem Holds.fixBrow {b c : Nat} {t : TypeId} {l : List UInt8} (H : Holds s w (brow b t l.length c l :: rs)) : ∃ s', s.Le s' ∧ Holds s' w rs ∧ SlS s' (.slice (some ⟨b, 0, none⟩) l.length c) 1 l.length (u8s l) := by
  obtain ⟨F, s', ⟨hF, cur, fz, hb, h1, h2, h3, h4, h5, h6⟩, hle, H', hm⟩ := H.fix
  refine ⟨s', hle, H', _, c, rfl, by rw [u8s_len]; simp, h1, h2, .inr ⟨b, 0, rfl, fun j x hx => ⟨cur, t, fz, by rw [hm b (by simp [hF])]; exact hb, ?_⟩⟩⟩
  rw [← h4, List.getElem?_take] at hx
  split at hx
  · simpa using hx
  · cases hx
end
end Go.Own

/- The types of the program, as instances; by types.py. -/
import Derived.Test.YtbknpbihgfphaaaDoorRows
import Derived.Test.YtbknpbihgfphaaaDoorCrTy
set_option linter.unusedSimpArgs false
namespace Go.Proofs.YtbknpbihgfphaaaDoor
open Go Go.RowKit Go.Own
-- 34 api.Entry
-- 98 api.Change
instance : RowC Tryd.prog 98 2 := ⟨⟨_, Tryd.underlying98, rfl⟩, by kernel_rfl⟩
instance : ZeroC Tryd.prog 98 ([.int .i64 0, .slice none 0 0]) := ⟨⟨.agg ([.int .i64 0, .slice none 0 0]).toArray, by kernel_rfl, by kernel_rfl⟩⟩
instance : FldC Tryd.prog 98 0 0 := ⟨⟨_, _, Tryd.underlying98, rfl, rfl, 0, by kernel_rfl⟩⟩
instance : FldC Tryd.prog 98 1 1 := ⟨⟨_, _, Tryd.underlying98, rfl, rfl, 0, by kernel_rfl⟩⟩
-- 112 audit.Log
-- 140 wal.Log
instance : FldC Tryd.prog 140 0 0 := ⟨⟨_, _, Tryd.underlying140, rfl, rfl, 0, by kernel_rfl⟩⟩
instance : FldC Tryd.prog 140 1 1 := ⟨⟨_, _, Tryd.underlying140, rfl, rfl, 0, by kernel_rfl⟩⟩
instance : FldC Tryd.prog 140 2 2 := ⟨⟨_, _, Tryd.underlying140, rfl, rfl, 0, by kernel_rfl⟩⟩
instance : FldC Tryd.prog 140 3 3 := ⟨⟨_, _, Tryd.underlying140, rfl, rfl, 0, by kernel_rfl⟩⟩
instance : FldC Tryd.prog 140 4 4 := ⟨⟨_, _, Tryd.underlying140, rfl, rfl, 639, by kernel_rfl⟩⟩
instance : FldC Tryd.prog 140 5 644 := ⟨⟨_, _, Tryd.underlying140, rfl, rfl, 0, by kernel_rfl⟩⟩
-- 184 octet.Reader
end Go.Proofs.YtbknpbihgfphaaaDoor

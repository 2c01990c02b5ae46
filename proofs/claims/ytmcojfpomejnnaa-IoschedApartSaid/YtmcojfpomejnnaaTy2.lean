/- The types of the program, as instances; by types.py. -/
import Derived.Test.YtmcojfpomejnnaaRows
import Derived.Test.YtmcojfpomejnnaaTy
set_option linter.unusedSimpArgs false
namespace Go.Proofs.Ytmcojfpomejnnaa
open Go Go.RowKit Go.Own
-- 45 api.Request
instance : RowC Try.prog 45 3 := ⟨⟨_, Try.underlying45, rfl⟩, by kernel_rfl⟩
instance : ZeroC Try.prog 45 ([.int .i64 0, .int .i64 0, .slice none 0 0]) := ⟨⟨.agg ([.int .i64 0, .int .i64 0, .slice none 0 0]).toArray, by kernel_rfl, by kernel_rfl⟩⟩
instance : FldC Try.prog 45 0 0 := ⟨⟨_, _, Try.underlying45, rfl, rfl, 0, by kernel_rfl⟩⟩
instance : FldV Try.prog 45 0 0 1 true := ⟨⟨_, _, _, Try.underlying45, rfl, rfl, by kernel_rfl, Try.underlying3, rfl⟩⟩
instance : FldC Try.prog 45 1 1 := ⟨⟨_, _, Try.underlying45, rfl, rfl, 0, by kernel_rfl⟩⟩
instance : FldV Try.prog 45 1 1 1 true := ⟨⟨_, _, _, Try.underlying45, rfl, rfl, by kernel_rfl, Try.underlying3, rfl⟩⟩
instance : FldC Try.prog 45 2 2 := ⟨⟨_, _, Try.underlying45, rfl, rfl, 0, by kernel_rfl⟩⟩
instance : FldV Try.prog 45 2 2 1 true := ⟨⟨_, _, _, Try.underlying45, rfl, rfl, by kernel_rfl, Try.underlying35, rfl⟩⟩
-- 48 api.Done
instance : RowC Try.prog 48 4 := ⟨⟨_, Try.underlying48, rfl⟩, by kernel_rfl⟩
instance : ZeroC Try.prog 48 ([.int .i64 0, .int .u64 0, .slice none 0 0, .int .i64 0]) := ⟨⟨.agg ([.int .i64 0, .int .u64 0, .slice none 0 0, .int .i64 0]).toArray, by kernel_rfl, by kernel_rfl⟩⟩
instance : FldC Try.prog 48 0 0 := ⟨⟨_, _, Try.underlying48, rfl, rfl, 0, by kernel_rfl⟩⟩
instance : FldV Try.prog 48 0 0 1 true := ⟨⟨_, _, _, Try.underlying48, rfl, rfl, by kernel_rfl, Try.underlying3, rfl⟩⟩
instance : FldC Try.prog 48 1 1 := ⟨⟨_, _, Try.underlying48, rfl, rfl, 0, by kernel_rfl⟩⟩
instance : FldV Try.prog 48 1 1 1 true := ⟨⟨_, _, _, Try.underlying48, rfl, rfl, by kernel_rfl, Try.underlying41, rfl⟩⟩
instance : FldC Try.prog 48 2 2 := ⟨⟨_, _, Try.underlying48, rfl, rfl, 0, by kernel_rfl⟩⟩
instance : FldV Try.prog 48 2 2 1 true := ⟨⟨_, _, _, Try.underlying48, rfl, rfl, by kernel_rfl, Try.underlying35, rfl⟩⟩
instance : FldC Try.prog 48 3 3 := ⟨⟨_, _, Try.underlying48, rfl, rfl, 0, by kernel_rfl⟩⟩
instance : FldV Try.prog 48 3 3 1 true := ⟨⟨_, _, _, Try.underlying48, rfl, rfl, by kernel_rfl, Try.underlying26, rfl⟩⟩
-- 136 iosched.Schedule
instance : RowC Try.prog 136 3 := ⟨⟨_, Try.underlying136, rfl⟩, by kernel_rfl⟩
instance : ZeroC Try.prog 136 ([.slice none 0 0, .slice none 0 0, .int .i64 0]) := ⟨⟨.agg ([.slice none 0 0, .slice none 0 0, .int .i64 0]).toArray, by kernel_rfl, by kernel_rfl⟩⟩
instance : FldC Try.prog 136 0 0 := ⟨⟨_, _, Try.underlying136, rfl, rfl, 0, by kernel_rfl⟩⟩
instance : FldV Try.prog 136 0 0 1 true := ⟨⟨_, _, _, Try.underlying136, rfl, rfl, by kernel_rfl, Try.underlying134, rfl⟩⟩
instance : FldC Try.prog 136 1 1 := ⟨⟨_, _, Try.underlying136, rfl, rfl, 0, by kernel_rfl⟩⟩
instance : FldV Try.prog 136 1 1 1 true := ⟨⟨_, _, _, Try.underlying136, rfl, rfl, by kernel_rfl, Try.underlying22, rfl⟩⟩
instance : FldC Try.prog 136 2 2 := ⟨⟨_, _, Try.underlying136, rfl, rfl, 0, by kernel_rfl⟩⟩
instance : FldV Try.prog 136 2 2 1 true := ⟨⟨_, _, _, Try.underlying136, rfl, rfl, by kernel_rfl, Try.underlying3, rfl⟩⟩
-- 138 iosched.asked
instance : RowC Try.prog 138 4 := ⟨⟨_, Try.underlying138, rfl⟩, by kernel_rfl⟩
instance : ZeroC Try.prog 138 ([.int .u64 0, .int .i64 0, .int .i64 0, .slice none 0 0]) := ⟨⟨.agg ([.int .u64 0, .int .i64 0, .int .i64 0, .slice none 0 0]).toArray, by kernel_rfl, by kernel_rfl⟩⟩
instance : FldC Try.prog 138 0 0 := ⟨⟨_, _, Try.underlying138, rfl, rfl, 0, by kernel_rfl⟩⟩
instance : FldV Try.prog 138 0 0 1 true := ⟨⟨_, _, _, Try.underlying138, rfl, rfl, by kernel_rfl, Try.underlying41, rfl⟩⟩
instance : FldC Try.prog 138 1 1 := ⟨⟨_, _, Try.underlying138, rfl, rfl, 2, by kernel_rfl⟩⟩
instance : FldV Try.prog 138 1 1 3 false := ⟨⟨_, _, _, Try.underlying138, rfl, rfl, by kernel_rfl, Try.underlying45, rfl⟩⟩
-- 143 iosched.partition
instance : RowC Try.prog 143 70 := ⟨⟨_, Try.underlying143, rfl⟩, by kernel_rfl⟩
instance : ZeroC Try.prog 143 ([.pointer none, .int .i64 0, .int .u64 0, .int .u64 0, .int .u64 0, .int .i64 0, .int .i64 0, .slice none 0 0, .int .u64 0, .int .i64 0, .int .i64 0, .slice none 0 0, .int .u64 0, .int .i64 0, .int .i64 0, .slice none 0 0, .int .u64 0, .int .i64 0, .int .i64 0, .slice none 0 0, .int .u64 0, .int .i64 0, .int .i64 0, .slice none 0 0, .int .u64 0, .int .i64 0, .int .i64 0, .slice none 0 0, .int .u64 0, .int .i64 0, .int .i64 0, .slice none 0 0, .int .u64 0, .int .i64 0, .int .i64 0, .slice none 0 0, .int .u64 0, .int .i64 0, .int .i64 0, .slice none 0 0, .int .u64 0, .int .i64 0, .int .i64 0, .slice none 0 0, .int .u64 0, .int .i64 0, .int .i64 0, .slice none 0 0, .int .u64 0, .int .i64 0, .int .i64 0, .slice none 0 0, .int .u64 0, .int .i64 0, .int .i64 0, .slice none 0 0, .int .u64 0, .int .i64 0, .int .i64 0, .slice none 0 0, .int .u64 0, .int .i64 0, .int .i64 0, .slice none 0 0, .int .u64 0, .int .i64 0, .int .i64 0, .slice none 0 0, .int .i64 0, .int .i64 0]) := ⟨⟨.agg ([.pointer none, .int .i64 0, .int .u64 0, .int .u64 0, .int .u64 0, .int .i64 0, .int .i64 0, .slice none 0 0, .int .u64 0, .int .i64 0, .int .i64 0, .slice none 0 0, .int .u64 0, .int .i64 0, .int .i64 0, .slice none 0 0, .int .u64 0, .int .i64 0, .int .i64 0, .slice none 0 0, .int .u64 0, .int .i64 0, .int .i64 0, .slice none 0 0, .int .u64 0, .int .i64 0, .int .i64 0, .slice none 0 0, .int .u64 0, .int .i64 0, .int .i64 0, .slice none 0 0, .int .u64 0, .int .i64 0, .int .i64 0, .slice none 0 0, .int .u64 0, .int .i64 0, .int .i64 0, .slice none 0 0, .int .u64 0, .int .i64 0, .int .i64 0, .slice none 0 0, .int .u64 0, .int .i64 0, .int .i64 0, .slice none 0 0, .int .u64 0, .int .i64 0, .int .i64 0, .slice none 0 0, .int .u64 0, .int .i64 0, .int .i64 0, .slice none 0 0, .int .u64 0, .int .i64 0, .int .i64 0, .slice none 0 0, .int .u64 0, .int .i64 0, .int .i64 0, .slice none 0 0, .int .u64 0, .int .i64 0, .int .i64 0, .slice none 0 0, .int .i64 0, .int .i64 0]).toArray, by kernel_rfl, by kernel_rfl⟩⟩
instance : FldC Try.prog 143 0 0 := ⟨⟨_, _, Try.underlying143, rfl, rfl, 0, by kernel_rfl⟩⟩
instance : FldV Try.prog 143 0 0 1 true := ⟨⟨_, _, _, Try.underlying143, rfl, rfl, by kernel_rfl, Try.underlying108, rfl⟩⟩
instance : FldC Try.prog 143 1 1 := ⟨⟨_, _, Try.underlying143, rfl, rfl, 0, by kernel_rfl⟩⟩
instance : FldV Try.prog 143 1 1 1 true := ⟨⟨_, _, _, Try.underlying143, rfl, rfl, by kernel_rfl, Try.underlying3, rfl⟩⟩
instance : FldC Try.prog 143 2 2 := ⟨⟨_, _, Try.underlying143, rfl, rfl, 0, by kernel_rfl⟩⟩
instance : FldV Try.prog 143 2 2 1 true := ⟨⟨_, _, _, Try.underlying143, rfl, rfl, by kernel_rfl, Try.underlying41, rfl⟩⟩
instance : FldC Try.prog 143 3 3 := ⟨⟨_, _, Try.underlying143, rfl, rfl, 0, by kernel_rfl⟩⟩
instance : FldV Try.prog 143 3 3 1 true := ⟨⟨_, _, _, Try.underlying143, rfl, rfl, by kernel_rfl, Try.underlying41, rfl⟩⟩
instance : FldC Try.prog 143 4 4 := ⟨⟨_, _, Try.underlying143, rfl, rfl, 65, by kernel_rfl⟩⟩
instance : FldV Try.prog 143 4 4 66 false := ⟨⟨_, _, _, Try.underlying143, rfl, rfl, by kernel_rfl, Try.underlying141, rfl⟩⟩
end Go.Proofs.Ytmcojfpomejnnaa

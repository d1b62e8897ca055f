/- The table of this seat's types for the engine, with its proofs: printed by wip/tool/gen_ty.py. -/
import Derived.Test.YthlkhjfilfdpiaaProg
import Derived.Test.YthlkhjfilfdpiaaE13
namespace Go.Proofs.Ythlkhjfilfdpiaa
set_option linter.unusedVariables false
open Go Go.RowKit Go.Proofs.Ythlkhjfilfdpiaa.Eng

theorem ty2 : TIok Try.prog 2 {ze := some (.int .i64 0), eq := some [0], ik := some .i64} := ti0 rfl (by kernel_rfl) (by kernel_rfl) (by kernel_rfl) ⟨.inr ⟨by kernel_rfl, by kernel_rfl⟩, .inr (by kernel_rfl)⟩
theorem ty3 : TIok Try.prog 3 {ze := some (.int .i64 0), eq := some [0], ik := some .i64} := ti0 rfl (by kernel_rfl) (by kernel_rfl) (by kernel_rfl) ⟨.inr ⟨by kernel_rfl, by kernel_rfl⟩, .inr (by kernel_rfl)⟩
theorem ty4 : TIok Try.prog 4 {ze := some (.bool false), eq := some [1]} := ti0 rfl (by kernel_rfl) (by kernel_rfl) (by kernel_rfl) ⟨.inr ⟨by kernel_rfl, by kernel_rfl⟩, .inl rfl⟩
theorem ty5 : TIok Try.prog 5 {ze := some (.int .u8 0), eq := some [0], ik := some .u8} := ti0 rfl (by kernel_rfl) (by kernel_rfl) (by kernel_rfl) ⟨.inr ⟨by kernel_rfl, by kernel_rfl⟩, .inr (by kernel_rfl)⟩
theorem ty9 : TIok Try.prog 9 {kd := 5, ze := some (.string "".toUTF8), eq := some [2]} := ti5 rfl (by kernel_rfl) (by kernel_rfl) (by kernel_rfl) ⟨.inr ⟨by kernel_rfl, by kernel_rfl⟩, .inl rfl⟩ (by kernel_rfl)
theorem ty12 : TIok Try.prog 12 {ze := some (.int .u64 0), eq := some [0], ik := some .u64} := ti0 rfl (by kernel_rfl) (by kernel_rfl) (by kernel_rfl) ⟨.inr ⟨by kernel_rfl, by kernel_rfl⟩, .inr (by kernel_rfl)⟩
theorem ty21 : TIok Try.prog 21 {ze := some (.int .i32 0), eq := some [0], ik := some .i32} := ti0 rfl (by kernel_rfl) (by kernel_rfl) (by kernel_rfl) ⟨.inr ⟨by kernel_rfl, by kernel_rfl⟩, .inr (by kernel_rfl)⟩
theorem ty22 : TIok Try.prog 22 {kd := 2, sz := 3, ag := true, ar := 3, el := 3, ze := some (.agg #[.int .i64 0, .int .i64 0, .int .i64 0]), eq := some [0, 0, 0]} := ti2 rfl (by kernel_rfl) (by kernel_rfl) (by kernel_rfl) ⟨.inr ⟨by kernel_rfl, by kernel_rfl⟩, .inl rfl⟩ (by kernel_rfl)
theorem ty23 : TIok Try.prog 23 {kd := 1, sz := 7, ag := true, fl := [(0, 3), (1, 3), (2, 3), (3, 3), (4, 22)], pl := [(0, 1), (1, 1), (2, 1), (3, 1), (4, 3)], ze := some (.agg #[.int .i64 0, .int .i64 0, .int .i64 0, .int .i64 0, .int .i64 0, .int .i64 0, .int .i64 0]), eq := some [0, 0, 0, 0, 0, 0, 0]} := ti1 rfl (by kernel_rfl) (by kernel_rfl) (by kernel_rfl) ⟨.inr ⟨by kernel_rfl, by kernel_rfl⟩, .inl rfl⟩ Try.underlying23 rfl (by kernel_rfl)
theorem ty24 : TIok Try.prog 24 {kd := 1, sz := 7, ag := true, fl := [(0, 3), (1, 3), (2, 3), (3, 3), (4, 22)], pl := [(0, 1), (1, 1), (2, 1), (3, 1), (4, 3)], ze := some (.agg #[.int .i64 0, .int .i64 0, .int .i64 0, .int .i64 0, .int .i64 0, .int .i64 0, .int .i64 0]), eq := some [0, 0, 0, 0, 0, 0, 0]} := ti1 rfl (by kernel_rfl) (by kernel_rfl) (by kernel_rfl) ⟨.inr ⟨by kernel_rfl, by kernel_rfl⟩, .inl rfl⟩ Try.underlying24 rfl (by kernel_rfl)
theorem ty25 : TIok Try.prog 25 {kd := 1, sz := 5, ag := true, fl := [(0, 3), (1, 3), (2, 22)], pl := [(0, 1), (1, 1), (2, 3)], ze := some (.agg #[.int .i64 0, .int .i64 0, .int .i64 0, .int .i64 0, .int .i64 0]), eq := some [0, 0, 0, 0, 0]} := ti1 rfl (by kernel_rfl) (by kernel_rfl) (by kernel_rfl) ⟨.inr ⟨by kernel_rfl, by kernel_rfl⟩, .inl rfl⟩ Try.underlying25 rfl (by kernel_rfl)
theorem ty26 : TIok Try.prog 26 {kd := 1, sz := 5, ag := true, fl := [(0, 3), (1, 3), (2, 22)], pl := [(0, 1), (1, 1), (2, 3)], ze := some (.agg #[.int .i64 0, .int .i64 0, .int .i64 0, .int .i64 0, .int .i64 0]), eq := some [0, 0, 0, 0, 0]} := ti1 rfl (by kernel_rfl) (by kernel_rfl) (by kernel_rfl) ⟨.inr ⟨by kernel_rfl, by kernel_rfl⟩, .inl rfl⟩ Try.underlying26 rfl (by kernel_rfl)
theorem ty30 : TIok Try.prog 30 {kd := 1, sz := 7, ag := true, fl := [(0, 3), (1, 3), (2, 3), (3, 3), (4, 22)], pl := [(0, 1), (1, 1), (2, 1), (3, 1), (4, 3)], ze := some (.agg #[.int .i64 0, .int .i64 0, .int .i64 0, .int .i64 0, .int .i64 0, .int .i64 0, .int .i64 0]), eq := some [0, 0, 0, 0, 0, 0, 0]} := ti1 rfl (by kernel_rfl) (by kernel_rfl) (by kernel_rfl) ⟨.inr ⟨by kernel_rfl, by kernel_rfl⟩, .inl rfl⟩ Try.underlying30 rfl (by kernel_rfl)
theorem ty49 : TIok Try.prog 49 {kd := 3, el := 24, ze := some (.slice none 0 0)} := ti3 rfl (by kernel_rfl) (by kernel_rfl) (by kernel_rfl) ⟨.inl rfl, .inl rfl⟩ (by kernel_rfl)
theorem ty50 : TIok Try.prog 50 {kd := 3, el := 30, ze := some (.slice none 0 0)} := ti3 rfl (by kernel_rfl) (by kernel_rfl) (by kernel_rfl) ⟨.inl rfl, .inl rfl⟩ (by kernel_rfl)
theorem ty56 : TIok Try.prog 56 {kd := 3, el := 3, ze := some (.slice none 0 0)} := ti3 rfl (by kernel_rfl) (by kernel_rfl) (by kernel_rfl) ⟨.inl rfl, .inl rfl⟩ (by kernel_rfl)
theorem ty57 : TIok Try.prog 57 {kd := 1, sz := 2, ag := true, fl := [(0, 4), (1, 3)], pl := [(0, 1), (1, 1)], ze := some (.agg #[.bool false, .int .i64 0]), eq := some [1, 0]} := ti1 rfl (by kernel_rfl) (by kernel_rfl) (by kernel_rfl) ⟨.inr ⟨by kernel_rfl, by kernel_rfl⟩, .inl rfl⟩ Try.underlying57 rfl (by kernel_rfl)
theorem ty58 : TIok Try.prog 58 {kd := 1, sz := 2, ag := true, fl := [(0, 4), (1, 3)], pl := [(0, 1), (1, 1)], ze := some (.agg #[.bool false, .int .i64 0]), eq := some [1, 0]} := ti1 rfl (by kernel_rfl) (by kernel_rfl) (by kernel_rfl) ⟨.inr ⟨by kernel_rfl, by kernel_rfl⟩, .inl rfl⟩ Try.underlying58 rfl (by kernel_rfl)
theorem ty69 : TIok Try.prog 69 {ze := some (.int .u64 0), eq := some [0], ik := some .u64} := ti0 rfl (by kernel_rfl) (by kernel_rfl) (by kernel_rfl) ⟨.inr ⟨by kernel_rfl, by kernel_rfl⟩, .inr (by kernel_rfl)⟩
theorem ty83 : TIok Try.prog 83 {ze := some (.int .u32 0), eq := some [0], ik := some .u32} := ti0 rfl (by kernel_rfl) (by kernel_rfl) (by kernel_rfl) ⟨.inr ⟨by kernel_rfl, by kernel_rfl⟩, .inr (by kernel_rfl)⟩
theorem ty85 : TIok Try.prog 85 {ze := some (.int .u64 0), eq := some [0], ik := some .u64} := ti0 rfl (by kernel_rfl) (by kernel_rfl) (by kernel_rfl) ⟨.inr ⟨by kernel_rfl, by kernel_rfl⟩, .inr (by kernel_rfl)⟩
theorem ty90 : TIok Try.prog 90 {ze := some (.pointer none)} := ti0 rfl (by kernel_rfl) (by kernel_rfl) (by kernel_rfl) ⟨.inl rfl, .inl rfl⟩
theorem ty105 : TIok Try.prog 105 {ze := some (.pointer none)} := ti0 rfl (by kernel_rfl) (by kernel_rfl) (by kernel_rfl) ⟨.inl rfl, .inl rfl⟩
/-- The types. -/
def tys : List (TypeId × TI) := [
  (2, {ze := some (.int .i64 0), eq := some [0], ik := some .i64}),
  (3, {ze := some (.int .i64 0), eq := some [0], ik := some .i64}),
  (4, {ze := some (.bool false), eq := some [1]}),
  (5, {ze := some (.int .u8 0), eq := some [0], ik := some .u8}),
  (9, {kd := 5, ze := some (.string "".toUTF8), eq := some [2]}),
  (12, {ze := some (.int .u64 0), eq := some [0], ik := some .u64}),
  (21, {ze := some (.int .i32 0), eq := some [0], ik := some .i32}),
  (22, {kd := 2, sz := 3, ag := true, ar := 3, el := 3, ze := some (.agg #[.int .i64 0, .int .i64 0, .int .i64 0]), eq := some [0, 0, 0]}),
  (23, {kd := 1, sz := 7, ag := true, fl := [(0, 3), (1, 3), (2, 3), (3, 3), (4, 22)], pl := [(0, 1), (1, 1), (2, 1), (3, 1), (4, 3)], ze := some (.agg #[.int .i64 0, .int .i64 0, .int .i64 0, .int .i64 0, .int .i64 0, .int .i64 0, .int .i64 0]), eq := some [0, 0, 0, 0, 0, 0, 0]}),
  (24, {kd := 1, sz := 7, ag := true, fl := [(0, 3), (1, 3), (2, 3), (3, 3), (4, 22)], pl := [(0, 1), (1, 1), (2, 1), (3, 1), (4, 3)], ze := some (.agg #[.int .i64 0, .int .i64 0, .int .i64 0, .int .i64 0, .int .i64 0, .int .i64 0, .int .i64 0]), eq := some [0, 0, 0, 0, 0, 0, 0]}),
  (25, {kd := 1, sz := 5, ag := true, fl := [(0, 3), (1, 3), (2, 22)], pl := [(0, 1), (1, 1), (2, 3)], ze := some (.agg #[.int .i64 0, .int .i64 0, .int .i64 0, .int .i64 0, .int .i64 0]), eq := some [0, 0, 0, 0, 0]}),
  (26, {kd := 1, sz := 5, ag := true, fl := [(0, 3), (1, 3), (2, 22)], pl := [(0, 1), (1, 1), (2, 3)], ze := some (.agg #[.int .i64 0, .int .i64 0, .int .i64 0, .int .i64 0, .int .i64 0]), eq := some [0, 0, 0, 0, 0]}),
  (30, {kd := 1, sz := 7, ag := true, fl := [(0, 3), (1, 3), (2, 3), (3, 3), (4, 22)], pl := [(0, 1), (1, 1), (2, 1), (3, 1), (4, 3)], ze := some (.agg #[.int .i64 0, .int .i64 0, .int .i64 0, .int .i64 0, .int .i64 0, .int .i64 0, .int .i64 0]), eq := some [0, 0, 0, 0, 0, 0, 0]}),
  (49, {kd := 3, el := 24, ze := some (.slice none 0 0)}),
  (50, {kd := 3, el := 30, ze := some (.slice none 0 0)}),
  (56, {kd := 3, el := 3, ze := some (.slice none 0 0)}),
  (57, {kd := 1, sz := 2, ag := true, fl := [(0, 4), (1, 3)], pl := [(0, 1), (1, 1)], ze := some (.agg #[.bool false, .int .i64 0]), eq := some [1, 0]}),
  (58, {kd := 1, sz := 2, ag := true, fl := [(0, 4), (1, 3)], pl := [(0, 1), (1, 1)], ze := some (.agg #[.bool false, .int .i64 0]), eq := some [1, 0]}),
  (69, {ze := some (.int .u64 0), eq := some [0], ik := some .u64}),
  (83, {ze := some (.int .u32 0), eq := some [0], ik := some .u32}),
  (85, {ze := some (.int .u64 0), eq := some [0], ik := some .u64}),
  (90, {ze := some (.pointer none)}),
  (105, {ze := some (.pointer none)})]
theorem tys_ok : AllTy Try.prog tys := ⟨ty2, ty3, ty4, ty5, ty9, ty12, ty21, ty22, ty23, ty24, ty25, ty26, ty30, ty49, ty50, ty56, ty57, ty58, ty69, ty83, ty85, ty90, ty105, trivial⟩
theorem mixed : Try.prog.follows .mixedOrders = true := by kernel_rfl

end Go.Proofs.Ythlkhjfilfdpiaa

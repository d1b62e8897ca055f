/- The table of this seat's types for the engine, with its proofs: printed by wip/tool/gen_ty.py. -/
import Derived.Test.YtjikhbdpkddbgaaProg
import Derived.Test.YtjikhbdpkddbgaaF13
namespace Go.Proofs.Ytjikhbdpkddbgaa
set_option linter.unusedVariables false
open Go Go.RowKit Go.Proofs.Ytjikhbdpkddbgaa.Eng

theorem ty2 : TIok Try.prog 2 {ze := some (.int .i64 0), eq := some [0], ik := some .i64, by_ := 8, ro := some (.int .i64 .nil)} := ti0 rfl (by kernel_rfl) (by kernel_rfl) (by kernel_rfl) ⟨.inr ⟨by kernel_rfl, by kernel_rfl⟩, .inr (by kernel_rfl)⟩ (by kernel_rfl) (.inr rfl) (.inr (by kernel_rfl))
theorem ty3 : TIok Try.prog 3 {ze := some (.int .i64 0), eq := some [0], ik := some .i64, by_ := 8, ro := some (.int .i64 .nil)} := ti0 rfl (by kernel_rfl) (by kernel_rfl) (by kernel_rfl) ⟨.inr ⟨by kernel_rfl, by kernel_rfl⟩, .inr (by kernel_rfl)⟩ (by kernel_rfl) (.inr rfl) (.inr (by kernel_rfl))
theorem ty4 : TIok Try.prog 4 {ze := some (.bool false), eq := some [1], by_ := 1, ro := some (.bool .nil)} := ti0 rfl (by kernel_rfl) (by kernel_rfl) (by kernel_rfl) ⟨.inr ⟨by kernel_rfl, by kernel_rfl⟩, .inl rfl⟩ (by kernel_rfl) (.inr rfl) (.inr (by kernel_rfl))
theorem ty5 : TIok Try.prog 5 {ze := some (.int .u8 0), eq := some [0], ik := some .u8, by_ := 1, ro := some (.int .u8 .nil)} := ti0 rfl (by kernel_rfl) (by kernel_rfl) (by kernel_rfl) ⟨.inr ⟨by kernel_rfl, by kernel_rfl⟩, .inr (by kernel_rfl)⟩ (by kernel_rfl) (.inr rfl) (.inr (by kernel_rfl))
theorem ty9 : TIok Try.prog 9 {kd := 5, ze := some (.string "".toUTF8), eq := some [2], by_ := 16, ro := some (.str .nil)} := ti5 rfl (by kernel_rfl) (by kernel_rfl) (by kernel_rfl) ⟨.inr ⟨by kernel_rfl, by kernel_rfl⟩, .inl rfl⟩ (by kernel_rfl) (.inr rfl) (.inr (by kernel_rfl)) (by kernel_rfl)
theorem ty12 : TIok Try.prog 12 {ze := some (.int .u64 0), eq := some [0], ik := some .u64, by_ := 8, ro := some (.int .u64 .nil)} := ti0 rfl (by kernel_rfl) (by kernel_rfl) (by kernel_rfl) ⟨.inr ⟨by kernel_rfl, by kernel_rfl⟩, .inr (by kernel_rfl)⟩ (by kernel_rfl) (.inr rfl) (.inr (by kernel_rfl))
theorem ty21 : TIok Try.prog 21 {ze := some (.int .i32 0), eq := some [0], ik := some .i32, by_ := 4, ro := some (.int .i32 .nil)} := ti0 rfl (by kernel_rfl) (by kernel_rfl) (by kernel_rfl) ⟨.inr ⟨by kernel_rfl, by kernel_rfl⟩, .inr (by kernel_rfl)⟩ (by kernel_rfl) (.inr rfl) (.inr (by kernel_rfl))
theorem ty22 : TIok Try.prog 22 {kd := 3, el := 48, ze := some (.slice none 0 0), by_ := 24, ro := some (.sl (.int .u8 (.int .u8 (.int .i64 (.int .i64 (.sl (.int .i64 .nil) .nil))))) .nil)} := ti3 rfl (by kernel_rfl) (by kernel_rfl) (by kernel_rfl) ⟨.inl rfl, .inl rfl⟩ (by kernel_rfl) (.inr rfl) (.inr (by kernel_rfl)) (by kernel_rfl)
theorem ty23 : TIok Try.prog 23 {kd := 3, el := 48, ze := some (.slice none 0 0), by_ := 24, ro := some (.sl (.int .u8 (.int .u8 (.int .i64 (.int .i64 (.sl (.int .i64 .nil) .nil))))) .nil)} := ti3 rfl (by kernel_rfl) (by kernel_rfl) (by kernel_rfl) ⟨.inl rfl, .inl rfl⟩ (by kernel_rfl) (.inr rfl) (.inr (by kernel_rfl)) (by kernel_rfl)
theorem ty27 : TIok Try.prog 27 {kd := 3, el := 5, ze := some (.slice none 0 0), by_ := 24, ro := some (.sl (.int .u8 .nil) .nil)} := ti3 rfl (by kernel_rfl) (by kernel_rfl) (by kernel_rfl) ⟨.inl rfl, .inl rfl⟩ (by kernel_rfl) (.inr rfl) (.inr (by kernel_rfl)) (by kernel_rfl)
theorem ty28 : TIok Try.prog 28 {ze := some (.int .i64 0), eq := some [0], ik := some .i64, by_ := 8, ro := some (.int .i64 .nil)} := ti0 rfl (by kernel_rfl) (by kernel_rfl) (by kernel_rfl) ⟨.inr ⟨by kernel_rfl, by kernel_rfl⟩, .inr (by kernel_rfl)⟩ (by kernel_rfl) (.inr rfl) (.inr (by kernel_rfl))
theorem ty39 : TIok Try.prog 39 {kd := 3, el := 44, ze := some (.slice none 0 0), by_ := 24, ro := some (.sl (.int .i64 (.int .i64 .nil)) .nil)} := ti3 rfl (by kernel_rfl) (by kernel_rfl) (by kernel_rfl) ⟨.inl rfl, .inl rfl⟩ (by kernel_rfl) (.inr rfl) (.inr (by kernel_rfl)) (by kernel_rfl)
theorem ty41 : TIok Try.prog 41 {kd := 3, el := 45, ze := some (.slice none 0 0), by_ := 24, ro := some (.sl (.int .i64 (.int .i64 .nil)) .nil)} := ti3 rfl (by kernel_rfl) (by kernel_rfl) (by kernel_rfl) ⟨.inl rfl, .inl rfl⟩ (by kernel_rfl) (.inr rfl) (.inr (by kernel_rfl)) (by kernel_rfl)
theorem ty43 : TIok Try.prog 43 {kd := 1, sz := 2, ag := true, fl := [(0, 3), (1, 3)], pl := [(0, 1), (1, 1)], ze := some (.agg #[.int .i64 0, .int .i64 0]), eq := some [0, 0], by_ := 16, ro := some (.int .i64 (.int .i64 .nil))} := ti1 rfl (by kernel_rfl) (by kernel_rfl) (by kernel_rfl) ⟨.inr ⟨by kernel_rfl, by kernel_rfl⟩, .inl rfl⟩ (by kernel_rfl) (.inr rfl) (.inr (by kernel_rfl)) Try.underlying43 rfl (by kernel_rfl)
theorem ty44 : TIok Try.prog 44 {kd := 1, sz := 2, ag := true, fl := [(0, 3), (1, 3)], pl := [(0, 1), (1, 1)], ze := some (.agg #[.int .i64 0, .int .i64 0]), eq := some [0, 0], by_ := 16, ro := some (.int .i64 (.int .i64 .nil))} := ti1 rfl (by kernel_rfl) (by kernel_rfl) (by kernel_rfl) ⟨.inr ⟨by kernel_rfl, by kernel_rfl⟩, .inl rfl⟩ (by kernel_rfl) (.inr rfl) (.inr (by kernel_rfl)) Try.underlying44 rfl (by kernel_rfl)
theorem ty45 : TIok Try.prog 45 {kd := 1, sz := 2, ag := true, fl := [(0, 3), (1, 3)], pl := [(0, 1), (1, 1)], ze := some (.agg #[.int .i64 0, .int .i64 0]), eq := some [0, 0], by_ := 16, ro := some (.int .i64 (.int .i64 .nil))} := ti1 rfl (by kernel_rfl) (by kernel_rfl) (by kernel_rfl) ⟨.inr ⟨by kernel_rfl, by kernel_rfl⟩, .inl rfl⟩ (by kernel_rfl) (.inr rfl) (.inr (by kernel_rfl)) Try.underlying45 rfl (by kernel_rfl)
theorem ty46 : TIok Try.prog 46 {kd := 3, el := 3, ze := some (.slice none 0 0), by_ := 24, ro := some (.sl (.int .i64 .nil) .nil)} := ti3 rfl (by kernel_rfl) (by kernel_rfl) (by kernel_rfl) ⟨.inl rfl, .inl rfl⟩ (by kernel_rfl) (.inr rfl) (.inr (by kernel_rfl)) (by kernel_rfl)
theorem ty47 : TIok Try.prog 47 {kd := 1, sz := 5, ag := true, fl := [(0, 5), (1, 5), (2, 2), (3, 3), (4, 46)], pl := [(0, 1), (1, 1), (2, 1), (3, 1), (4, 1)], ze := some (.agg #[.int .u8 0, .int .u8 0, .int .i64 0, .int .i64 0, .slice none 0 0]), by_ := 48, ro := some (.int .u8 (.int .u8 (.int .i64 (.int .i64 (.sl (.int .i64 .nil) .nil)))))} := ti1 rfl (by kernel_rfl) (by kernel_rfl) (by kernel_rfl) ⟨.inl rfl, .inl rfl⟩ (by kernel_rfl) (.inr rfl) (.inr (by kernel_rfl)) Try.underlying47 rfl (by kernel_rfl)
theorem ty48 : TIok Try.prog 48 {kd := 1, sz := 5, ag := true, fl := [(0, 5), (1, 5), (2, 2), (3, 3), (4, 46)], pl := [(0, 1), (1, 1), (2, 1), (3, 1), (4, 1)], ze := some (.agg #[.int .u8 0, .int .u8 0, .int .i64 0, .int .i64 0, .slice none 0 0]), by_ := 48, ro := some (.int .u8 (.int .u8 (.int .i64 (.int .i64 (.sl (.int .i64 .nil) .nil)))))} := ti1 rfl (by kernel_rfl) (by kernel_rfl) (by kernel_rfl) ⟨.inl rfl, .inl rfl⟩ (by kernel_rfl) (.inr rfl) (.inr (by kernel_rfl)) Try.underlying48 rfl (by kernel_rfl)
theorem ty50 : TIok Try.prog 50 {kd := 3, el := 23, ze := some (.slice none 0 0), by_ := 24, ro := some (.sl (.sl (.int .u8 (.int .u8 (.int .i64 (.int .i64 (.sl (.int .i64 .nil) .nil))))) .nil) .nil)} := ti3 rfl (by kernel_rfl) (by kernel_rfl) (by kernel_rfl) ⟨.inl rfl, .inl rfl⟩ (by kernel_rfl) (.inr rfl) (.inr (by kernel_rfl)) (by kernel_rfl)
theorem ty52 : TIok Try.prog 52 {ze := some (.int .u64 0), eq := some [0], ik := some .u64, by_ := 8, ro := some (.int .u64 .nil)} := ti0 rfl (by kernel_rfl) (by kernel_rfl) (by kernel_rfl) ⟨.inr ⟨by kernel_rfl, by kernel_rfl⟩, .inr (by kernel_rfl)⟩ (by kernel_rfl) (.inr rfl) (.inr (by kernel_rfl))
theorem ty53 : TIok Try.prog 53 {ze := some (.int .u64 0), eq := some [0], ik := some .u64, by_ := 8, ro := some (.int .u64 .nil)} := ti0 rfl (by kernel_rfl) (by kernel_rfl) (by kernel_rfl) ⟨.inr ⟨by kernel_rfl, by kernel_rfl⟩, .inr (by kernel_rfl)⟩ (by kernel_rfl) (.inr rfl) (.inr (by kernel_rfl))
theorem ty68 : TIok Try.prog 68 {ze := some (.int .u32 0), eq := some [0], ik := some .u32, by_ := 4, ro := some (.int .u32 .nil)} := ti0 rfl (by kernel_rfl) (by kernel_rfl) (by kernel_rfl) ⟨.inr ⟨by kernel_rfl, by kernel_rfl⟩, .inr (by kernel_rfl)⟩ (by kernel_rfl) (.inr rfl) (.inr (by kernel_rfl))
theorem ty72 : TIok Try.prog 72 {ze := some (.pointer none), by_ := 8} := ti0 rfl (by kernel_rfl) (by kernel_rfl) (by kernel_rfl) ⟨.inl rfl, .inl rfl⟩ (by kernel_rfl) (.inl rfl) (.inr (by kernel_rfl))
/-- The types. -/
def tys : List (TypeId × TI) := [
  (2, {ze := some (.int .i64 0), eq := some [0], ik := some .i64, by_ := 8, ro := some (.int .i64 .nil)}),
  (3, {ze := some (.int .i64 0), eq := some [0], ik := some .i64, by_ := 8, ro := some (.int .i64 .nil)}),
  (4, {ze := some (.bool false), eq := some [1], by_ := 1, ro := some (.bool .nil)}),
  (5, {ze := some (.int .u8 0), eq := some [0], ik := some .u8, by_ := 1, ro := some (.int .u8 .nil)}),
  (9, {kd := 5, ze := some (.string "".toUTF8), eq := some [2], by_ := 16, ro := some (.str .nil)}),
  (12, {ze := some (.int .u64 0), eq := some [0], ik := some .u64, by_ := 8, ro := some (.int .u64 .nil)}),
  (21, {ze := some (.int .i32 0), eq := some [0], ik := some .i32, by_ := 4, ro := some (.int .i32 .nil)}),
  (22, {kd := 3, el := 48, ze := some (.slice none 0 0), by_ := 24, ro := some (.sl (.int .u8 (.int .u8 (.int .i64 (.int .i64 (.sl (.int .i64 .nil) .nil))))) .nil)}),
  (23, {kd := 3, el := 48, ze := some (.slice none 0 0), by_ := 24, ro := some (.sl (.int .u8 (.int .u8 (.int .i64 (.int .i64 (.sl (.int .i64 .nil) .nil))))) .nil)}),
  (27, {kd := 3, el := 5, ze := some (.slice none 0 0), by_ := 24, ro := some (.sl (.int .u8 .nil) .nil)}),
  (28, {ze := some (.int .i64 0), eq := some [0], ik := some .i64, by_ := 8, ro := some (.int .i64 .nil)}),
  (39, {kd := 3, el := 44, ze := some (.slice none 0 0), by_ := 24, ro := some (.sl (.int .i64 (.int .i64 .nil)) .nil)}),
  (41, {kd := 3, el := 45, ze := some (.slice none 0 0), by_ := 24, ro := some (.sl (.int .i64 (.int .i64 .nil)) .nil)}),
  (43, {kd := 1, sz := 2, ag := true, fl := [(0, 3), (1, 3)], pl := [(0, 1), (1, 1)], ze := some (.agg #[.int .i64 0, .int .i64 0]), eq := some [0, 0], by_ := 16, ro := some (.int .i64 (.int .i64 .nil))}),
  (44, {kd := 1, sz := 2, ag := true, fl := [(0, 3), (1, 3)], pl := [(0, 1), (1, 1)], ze := some (.agg #[.int .i64 0, .int .i64 0]), eq := some [0, 0], by_ := 16, ro := some (.int .i64 (.int .i64 .nil))}),
  (45, {kd := 1, sz := 2, ag := true, fl := [(0, 3), (1, 3)], pl := [(0, 1), (1, 1)], ze := some (.agg #[.int .i64 0, .int .i64 0]), eq := some [0, 0], by_ := 16, ro := some (.int .i64 (.int .i64 .nil))}),
  (46, {kd := 3, el := 3, ze := some (.slice none 0 0), by_ := 24, ro := some (.sl (.int .i64 .nil) .nil)}),
  (47, {kd := 1, sz := 5, ag := true, fl := [(0, 5), (1, 5), (2, 2), (3, 3), (4, 46)], pl := [(0, 1), (1, 1), (2, 1), (3, 1), (4, 1)], ze := some (.agg #[.int .u8 0, .int .u8 0, .int .i64 0, .int .i64 0, .slice none 0 0]), by_ := 48, ro := some (.int .u8 (.int .u8 (.int .i64 (.int .i64 (.sl (.int .i64 .nil) .nil)))))}),
  (48, {kd := 1, sz := 5, ag := true, fl := [(0, 5), (1, 5), (2, 2), (3, 3), (4, 46)], pl := [(0, 1), (1, 1), (2, 1), (3, 1), (4, 1)], ze := some (.agg #[.int .u8 0, .int .u8 0, .int .i64 0, .int .i64 0, .slice none 0 0]), by_ := 48, ro := some (.int .u8 (.int .u8 (.int .i64 (.int .i64 (.sl (.int .i64 .nil) .nil)))))}),
  (50, {kd := 3, el := 23, ze := some (.slice none 0 0), by_ := 24, ro := some (.sl (.sl (.int .u8 (.int .u8 (.int .i64 (.int .i64 (.sl (.int .i64 .nil) .nil))))) .nil) .nil)}),
  (52, {ze := some (.int .u64 0), eq := some [0], ik := some .u64, by_ := 8, ro := some (.int .u64 .nil)}),
  (53, {ze := some (.int .u64 0), eq := some [0], ik := some .u64, by_ := 8, ro := some (.int .u64 .nil)}),
  (68, {ze := some (.int .u32 0), eq := some [0], ik := some .u32, by_ := 4, ro := some (.int .u32 .nil)}),
  (72, {ze := some (.pointer none), by_ := 8})]
theorem tys_ok : AllTy Try.prog tys := ⟨ty2, ty3, ty4, ty5, ty9, ty12, ty21, ty22, ty23, ty27, ty28, ty39, ty41, ty43, ty44, ty45, ty46, ty47, ty48, ty50, ty52, ty53, ty68, ty72, trivial⟩
theorem mixed : Try.prog.follows .mixedOrders = true := by kernel_rfl

end Go.Proofs.Ytjikhbdpkddbgaa

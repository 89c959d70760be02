/- The types of this seat. Printed by tab.py. -/
import Derived.Test.YtnegneebnodgeaaTmC
import Derived.Test.YtnegneebnodgeaaProg
import Derived.KernelRfl
namespace Go.Proofs.Ytnegneebnodgeaa
open Go.Tm
def tab : Tab := [
  (2, .int .i64, 8),
  (3, .int .i64, 8),
  (4, .bool, 1),
  (5, .int .u8, 1),
  (9, .str, 16),
  (12, .int .u64, 8),
  (21, .int .i32, 4),
  (22, .prod (.int .i64) (.prod (.int .i64) (.prod (.str) (.unit))), 32),
  (23, .prod (.int .i64) (.prod (.int .i64) (.prod (.str) (.unit))), 32),
  (24, .slice (.int .u8), 24),
  (29, .slice (.prod (.int .i64) (.prod (.int .i64) (.prod (.str) (.unit)))), 24),
  (32, .slice (.str), 24),
  (36, .int .u16, 2),
  (39, .prod (.slice (.int .u8)) (.prod (.int .i64) (.unit)), 32),
  (40, .prod (.slice (.int .u8)) (.prod (.int .i64) (.unit)), 32),
  (51, .slice (.int .i64), 24),
  (52, .int .u64, 8),
  (67, .int .u32, 4),
  (70, .int .u64, 8)]
theorem tab_ok : TabOK Try.prog tab := ⟨by kernel_rfl, by kernel_rfl⟩
@[simp] theorem ty2 : ty tab 2 = some (.int .i64) := rfl
@[simp] theorem ty3 : ty tab 3 = some (.int .i64) := rfl
@[simp] theorem ty4 : ty tab 4 = some (.bool) := rfl
@[simp] theorem ty5 : ty tab 5 = some (.int .u8) := rfl
@[simp] theorem ty9 : ty tab 9 = some (.str) := rfl
@[simp] theorem ty12 : ty tab 12 = some (.int .u64) := rfl
@[simp] theorem ty21 : ty tab 21 = some (.int .i32) := rfl
@[simp] theorem ty22 : ty tab 22 = some (.prod (.int .i64) (.prod (.int .i64) (.prod (.str) (.unit)))) := rfl
@[simp] theorem ty23 : ty tab 23 = some (.prod (.int .i64) (.prod (.int .i64) (.prod (.str) (.unit)))) := rfl
@[simp] theorem ty24 : ty tab 24 = some (.slice (.int .u8)) := rfl
@[simp] theorem ty29 : ty tab 29 = some (.slice (.prod (.int .i64) (.prod (.int .i64) (.prod (.str) (.unit))))) := rfl
@[simp] theorem ty32 : ty tab 32 = some (.slice (.str)) := rfl
@[simp] theorem ty36 : ty tab 36 = some (.int .u16) := rfl
@[simp] theorem ty39 : ty tab 39 = some (.prod (.slice (.int .u8)) (.prod (.int .i64) (.unit))) := rfl
@[simp] theorem ty40 : ty tab 40 = some (.prod (.slice (.int .u8)) (.prod (.int .i64) (.unit))) := rfl
@[simp] theorem ty51 : ty tab 51 = some (.slice (.int .i64)) := rfl
@[simp] theorem ty52 : ty tab 52 = some (.int .u64) := rfl
@[simp] theorem ty67 : ty tab 67 = some (.int .u32) := rfl
@[simp] theorem ty70 : ty tab 70 = some (.int .u64) := rfl
end Go.Proofs.Ytnegneebnodgeaa

/- The types of this seat. Printed by tab.py. -/
import Derived.Test.YtcopoofbicgjbaaTmC
import Derived.Test.YtcopoofbicgjbaaProg
import Derived.KernelRfl
namespace Go.Proofs.Ytcopoofbicgjbaa
open Go.Tm
def tab : Tab := [
  (2, .int .i64, 8),
  (3, .int .i64, 8),
  (4, .bool, 1),
  (5, .int .u8, 1),
  (9, .str, 16),
  (12, .int .u64, 8),
  (21, .int .i32, 4),
  (22, .slice (.arr 3 (.int .u8)), 24),
  (23, .slice (.bool), 24),
  (25, .slice (.str), 24),
  (26, .slice (.prod (.int .i64) (.prod (.str) (.unit))), 24),
  (27, .prod (.slice (.str)) (.prod (.slice (.prod (.int .i64) (.prod (.str) (.unit)))) (.prod (.int .i64) (.prod (.bool) (.unit)))), 64),
  (28, .prod (.slice (.str)) (.prod (.slice (.prod (.int .i64) (.prod (.str) (.unit)))) (.prod (.int .i64) (.prod (.bool) (.unit)))), 64),
  (30, .arr 3 (.int .u8), 3),
  (41, .slice (.arr 2 (.int .u8)), 24),
  (42, .arr 2 (.int .u8), 2),
  (45, .slice (.int .u8), 24),
  (46, .arr 4 (.str), 64),
  (53, .prod (.prod (.slice (.str)) (.prod (.slice (.prod (.int .i64) (.prod (.str) (.unit)))) (.prod (.int .i64) (.prod (.bool) (.unit))))) (.unit), 64),
  (54, .prod (.prod (.slice (.str)) (.prod (.slice (.prod (.int .i64) (.prod (.str) (.unit)))) (.prod (.int .i64) (.prod (.bool) (.unit))))) (.unit), 64),
  (55, .prod (.int .i64) (.prod (.str) (.unit)), 24),
  (56, .prod (.int .i64) (.prod (.str) (.unit)), 24),
  (65, .int .u64, 8),
  (81, .int .u32, 4),
  (84, .int .u64, 8)]
theorem tab_ok : TabOK Try.prog tab := ⟨by kernel_rfl, by kernel_rfl⟩
@[simp] theorem ty2 : ty tab 2 = some (.int .i64) := rfl
@[simp] theorem ty3 : ty tab 3 = some (.int .i64) := rfl
@[simp] theorem ty4 : ty tab 4 = some (.bool) := rfl
@[simp] theorem ty5 : ty tab 5 = some (.int .u8) := rfl
@[simp] theorem ty9 : ty tab 9 = some (.str) := rfl
@[simp] theorem ty12 : ty tab 12 = some (.int .u64) := rfl
@[simp] theorem ty21 : ty tab 21 = some (.int .i32) := rfl
@[simp] theorem ty22 : ty tab 22 = some (.slice (.arr 3 (.int .u8))) := rfl
@[simp] theorem ty23 : ty tab 23 = some (.slice (.bool)) := rfl
@[simp] theorem ty25 : ty tab 25 = some (.slice (.str)) := rfl
@[simp] theorem ty26 : ty tab 26 = some (.slice (.prod (.int .i64) (.prod (.str) (.unit)))) := rfl
@[simp] theorem ty27 : ty tab 27 = some (.prod (.slice (.str)) (.prod (.slice (.prod (.int .i64) (.prod (.str) (.unit)))) (.prod (.int .i64) (.prod (.bool) (.unit))))) := rfl
@[simp] theorem ty28 : ty tab 28 = some (.prod (.slice (.str)) (.prod (.slice (.prod (.int .i64) (.prod (.str) (.unit)))) (.prod (.int .i64) (.prod (.bool) (.unit))))) := rfl
@[simp] theorem ty30 : ty tab 30 = some (.arr 3 (.int .u8)) := rfl
@[simp] theorem ty41 : ty tab 41 = some (.slice (.arr 2 (.int .u8))) := rfl
@[simp] theorem ty42 : ty tab 42 = some (.arr 2 (.int .u8)) := rfl
@[simp] theorem ty45 : ty tab 45 = some (.slice (.int .u8)) := rfl
@[simp] theorem ty46 : ty tab 46 = some (.arr 4 (.str)) := rfl
@[simp] theorem ty53 : ty tab 53 = some (.prod (.prod (.slice (.str)) (.prod (.slice (.prod (.int .i64) (.prod (.str) (.unit)))) (.prod (.int .i64) (.prod (.bool) (.unit))))) (.unit)) := rfl
@[simp] theorem ty54 : ty tab 54 = some (.prod (.prod (.slice (.str)) (.prod (.slice (.prod (.int .i64) (.prod (.str) (.unit)))) (.prod (.int .i64) (.prod (.bool) (.unit))))) (.unit)) := rfl
@[simp] theorem ty55 : ty tab 55 = some (.prod (.int .i64) (.prod (.str) (.unit))) := rfl
@[simp] theorem ty56 : ty tab 56 = some (.prod (.int .i64) (.prod (.str) (.unit))) := rfl
@[simp] theorem ty65 : ty tab 65 = some (.int .u64) := rfl
@[simp] theorem ty81 : ty tab 81 = some (.int .u32) := rfl
@[simp] theorem ty84 : ty tab 84 = some (.int .u64) := rfl
end Go.Proofs.Ytcopoofbicgjbaa

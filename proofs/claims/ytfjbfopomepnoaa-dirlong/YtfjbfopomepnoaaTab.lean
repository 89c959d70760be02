/- The types of this seat. Printed by tab.py. -/
import Derived.Test.YtfjbfopomepnoaaTmC
import Derived.Test.YtfjbfopomepnoaaProg
import Derived.KernelRfl
namespace Go.Proofs.Ytfjbfopomepnoaa
open Go.Tm
def tab : Tab := [
  (2, .int .i64, 8),
  (3, .int .i64, 8),
  (4, .bool, 1),
  (5, .int .u8, 1),
  (9, .str, 16),
  (12, .int .u64, 8),
  (21, .int .i32, 4),
  (22, .slice (.int .u8), 24),
  (23, .slice (.prod (.str) (.prod (.int .i64) (.unit))), 24),
  (25, .prod (.str) (.prod (.int .i64) (.unit)), 24),
  (26, .prod (.str) (.prod (.int .i64) (.unit)), 24),
  (28, .slice (.slice (.prod (.str) (.prod (.int .i64) (.unit)))), 24),
  (31, .slice (.str), 24),
  (51, .slice (.int .i64), 24),
  (57, .int .u64, 8),
  (66, .int .u32, 4)]
theorem tab_ok : TabOK Try.prog tab := ⟨by kernel_rfl, by kernel_rfl⟩
@[simp] theorem ty2 : ty tab 2 = some (.int .i64) := rfl
@[simp] theorem ty3 : ty tab 3 = some (.int .i64) := rfl
@[simp] theorem ty4 : ty tab 4 = some (.bool) := rfl
@[simp] theorem ty5 : ty tab 5 = some (.int .u8) := rfl
@[simp] theorem ty9 : ty tab 9 = some (.str) := rfl
@[simp] theorem ty12 : ty tab 12 = some (.int .u64) := rfl
@[simp] theorem ty21 : ty tab 21 = some (.int .i32) := rfl
@[simp] theorem ty22 : ty tab 22 = some (.slice (.int .u8)) := rfl
@[simp] theorem ty23 : ty tab 23 = some (.slice (.prod (.str) (.prod (.int .i64) (.unit)))) := rfl
@[simp] theorem ty25 : ty tab 25 = some (.prod (.str) (.prod (.int .i64) (.unit))) := rfl
@[simp] theorem ty26 : ty tab 26 = some (.prod (.str) (.prod (.int .i64) (.unit))) := rfl
@[simp] theorem ty28 : ty tab 28 = some (.slice (.slice (.prod (.str) (.prod (.int .i64) (.unit))))) := rfl
@[simp] theorem ty31 : ty tab 31 = some (.slice (.str)) := rfl
@[simp] theorem ty51 : ty tab 51 = some (.slice (.int .i64)) := rfl
@[simp] theorem ty57 : ty tab 57 = some (.int .u64) := rfl
@[simp] theorem ty66 : ty tab 66 = some (.int .u32) := rfl
end Go.Proofs.Ytfjbfopomepnoaa

/- The types of this seat. Printed by tab.py. -/
import Derived.Test.YtgkfngfejagbgaaTmUse
import Derived.Test.YtgkfngfejagbgaaProg
import Derived.KernelRfl
namespace Go.Proofs.Ytgkfngfejagbgaa
open Go.Tm
def tab : Tab := [
  (2, .int .i64, 8),
  (3, .int .i64, 8),
  (4, .bool, 1),
  (5, .int .u8, 1),
  (9, .str, 16),
  (12, .int .u64, 8),
  (21, .int .i32, 4),
  (22, .arr 3 (.int .i64), 24),
  (23, .slice (.int .u8), 24),
  (25, .slice (.int .i64), 24),
  (34, .int .u32, 4),
  (36, .slice (.int .u32), 24)]
theorem tab_ok : TabOK Try.prog tab := ⟨by kernel_rfl, by kernel_rfl⟩
@[simp] theorem ty2 : ty tab 2 = some (.int .i64) := rfl
@[simp] theorem ty3 : ty tab 3 = some (.int .i64) := rfl
@[simp] theorem ty4 : ty tab 4 = some (.bool) := rfl
@[simp] theorem ty5 : ty tab 5 = some (.int .u8) := rfl
@[simp] theorem ty9 : ty tab 9 = some (.str) := rfl
@[simp] theorem ty12 : ty tab 12 = some (.int .u64) := rfl
@[simp] theorem ty21 : ty tab 21 = some (.int .i32) := rfl
@[simp] theorem ty22 : ty tab 22 = some (.arr 3 (.int .i64)) := rfl
@[simp] theorem ty23 : ty tab 23 = some (.slice (.int .u8)) := rfl
@[simp] theorem ty25 : ty tab 25 = some (.slice (.int .i64)) := rfl
@[simp] theorem ty34 : ty tab 34 = some (.int .u32) := rfl
@[simp] theorem ty36 : ty tab 36 = some (.slice (.int .u32)) := rfl
end Go.Proofs.Ytgkfngfejagbgaa

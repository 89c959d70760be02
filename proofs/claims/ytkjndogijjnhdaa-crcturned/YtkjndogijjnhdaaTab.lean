/- The types of this seat. Printed by tab.py. -/
import Derived.Test.YtkjndogijjnhdaaTmUse
import Derived.Test.YtkjndogijjnhdaaProg
import Derived.KernelRfl
namespace Go.Proofs.Ytkjndogijjnhdaa
open Go.Tm
def tab : Tab := [
  (2, .int .i64, 8),
  (3, .int .i64, 8),
  (4, .bool, 1),
  (5, .int .u8, 1),
  (9, .str, 16),
  (12, .int .u64, 8),
  (21, .int .i32, 4),
  (22, .slice (.int .u8), 24),
  (24, .int .u32, 4),
  (27, .slice (.slice (.int .u8)), 24),
  (29, .int .u16, 2),
  (30, .int .u64, 8),
  (32, .arr 20 (.int .u8), 20),
  (37, .int .u64, 8),
  (38, .arr 256 (.int .u32), 1024),
  (39, .arr 256 (.int .u32), 1024)]
theorem tab_ok : TabOK Try.prog tab := ⟨by kernel_rfl, by kernel_rfl⟩
@[simp] theorem ty2 : ty tab 2 = some (.int .i64) := rfl
@[simp] theorem ty3 : ty tab 3 = some (.int .i64) := rfl
@[simp] theorem ty4 : ty tab 4 = some (.bool) := rfl
@[simp] theorem ty5 : ty tab 5 = some (.int .u8) := rfl
@[simp] theorem ty9 : ty tab 9 = some (.str) := rfl
@[simp] theorem ty12 : ty tab 12 = some (.int .u64) := rfl
@[simp] theorem ty21 : ty tab 21 = some (.int .i32) := rfl
@[simp] theorem ty22 : ty tab 22 = some (.slice (.int .u8)) := rfl
@[simp] theorem ty24 : ty tab 24 = some (.int .u32) := rfl
@[simp] theorem ty27 : ty tab 27 = some (.slice (.slice (.int .u8))) := rfl
@[simp] theorem ty29 : ty tab 29 = some (.int .u16) := rfl
@[simp] theorem ty30 : ty tab 30 = some (.int .u64) := rfl
@[simp] theorem ty32 : ty tab 32 = some (.arr 20 (.int .u8)) := rfl
@[simp] theorem ty37 : ty tab 37 = some (.int .u64) := rfl
@[simp] theorem ty38 : ty tab 38 = some (.arr 256 (.int .u32)) := rfl
@[simp] theorem ty39 : ty tab 39 = some (.arr 256 (.int .u32)) := rfl
end Go.Proofs.Ytkjndogijjnhdaa

/- The types of this seat. Printed by tab.py. -/
import Derived.Test.YtecijnlpickncaaDoorTmC
import Derived.Test.YtecijnlpickncaaDoorProg
import Derived.KernelRfl
namespace Go.Proofs.YtecijnlpickncaaDoor
open Go.Tm
def tab : Tab := [
  (2, .int .i64, 8),
  (3, .int .i64, 8),
  (4, .bool, 1),
  (5, .int .u8, 1),
  (9, .str, 16),
  (12, .int .u64, 8),
  (21, .int .i32, 4),
  (22, .slice (.int .u8), 24),
  (27, .slice (.str), 24),
  (36, .prod (.slice (.int .u8)) (.prod (.int .i64) (.unit)), 32),
  (37, .prod (.slice (.int .u8)) (.prod (.int .i64) (.unit)), 32),
  (63, .int .u64, 8),
  (64, .arr 256 (.int .u8), 256),
  (65, .prod (.int .u8) (.prod (.int .u8) (.unit)), 2),
  (66, .prod (.int .u8) (.prod (.int .u8) (.unit)), 2),
  (67, .arr 16 (.prod (.int .u8) (.prod (.int .u8) (.unit))), 32),
  (68, .int .u32, 4)]
theorem tab_ok : TabOK Tryd.prog tab := ⟨by kernel_rfl, by kernel_rfl⟩
@[simp] theorem ty2 : ty tab 2 = some (.int .i64) := rfl
@[simp] theorem ty3 : ty tab 3 = some (.int .i64) := rfl
@[simp] theorem ty4 : ty tab 4 = some (.bool) := rfl
@[simp] theorem ty5 : ty tab 5 = some (.int .u8) := rfl
@[simp] theorem ty9 : ty tab 9 = some (.str) := rfl
@[simp] theorem ty12 : ty tab 12 = some (.int .u64) := rfl
@[simp] theorem ty21 : ty tab 21 = some (.int .i32) := rfl
@[simp] theorem ty22 : ty tab 22 = some (.slice (.int .u8)) := rfl
@[simp] theorem ty27 : ty tab 27 = some (.slice (.str)) := rfl
@[simp] theorem ty36 : ty tab 36 = some (.prod (.slice (.int .u8)) (.prod (.int .i64) (.unit))) := rfl
@[simp] theorem ty37 : ty tab 37 = some (.prod (.slice (.int .u8)) (.prod (.int .i64) (.unit))) := rfl
@[simp] theorem ty63 : ty tab 63 = some (.int .u64) := rfl
@[simp] theorem ty64 : ty tab 64 = some (.arr 256 (.int .u8)) := rfl
@[simp] theorem ty65 : ty tab 65 = some (.prod (.int .u8) (.prod (.int .u8) (.unit))) := rfl
@[simp] theorem ty66 : ty tab 66 = some (.prod (.int .u8) (.prod (.int .u8) (.unit))) := rfl
@[simp] theorem ty67 : ty tab 67 = some (.arr 16 (.prod (.int .u8) (.prod (.int .u8) (.unit)))) := rfl
@[simp] theorem ty68 : ty tab 68 = some (.int .u32) := rfl
end Go.Proofs.YtecijnlpickncaaDoor

/- The types of this seat. Printed by tab.py. -/
import Derived.Test.YtodkmhamaahjmaaGreatDoorTmC
import Derived.Test.YtodkmhamaahjmaaGreatDoorProg
import Derived.KernelRfl
namespace Go.Proofs.YtodkmhamaahjmaaGreatDoor
open Go.Tm
def tab : Tab := [
  (2, .int .i64, 8),
  (3, .int .i64, 8),
  (4, .bool, 1),
  (5, .int .u8, 1),
  (9, .str, 16),
  (12, .int .u64, 8),
  (21, .int .i32, 4),
  (22, .slice (.int .u8), 24),
  (24, .slice (.prod (.int .i64) (.prod (.int .i64) (.prod (.str) (.unit)))), 24),
  (25, .slice (.prod (.int .i64) (.prod (.int .i64) (.prod (.str) (.unit)))), 24),
  (30, .slice (.str), 24),
  (32, .slice (.int .i64), 24),
  (33, .int .i64, 8),
  (41, .slice (.bool), 24),
  (42, .prod (.int .i64) (.prod (.int .i64) (.prod (.int .i64) (.prod (.int .i64) (.prod (.int .i64) (.prod (.str) (.prod (.str) (.prod (.str) (.prod (.slice (.bool)) (.unit))))))))), 112),
  (43, .prod (.int .i64) (.prod (.int .i64) (.prod (.int .i64) (.prod (.int .i64) (.prod (.int .i64) (.prod (.str) (.prod (.str) (.prod (.str) (.prod (.slice (.bool)) (.unit))))))))), 112),
  (49, .prod (.int .i64) (.prod (.int .i64) (.prod (.str) (.unit))), 32),
  (50, .prod (.int .i64) (.prod (.int .i64) (.prod (.str) (.unit))), 32),
  (53, .arr 4 (.int .u8), 4),
  (57, .prod (.slice (.int .u8)) (.prod (.int .i64) (.unit)), 32),
  (58, .prod (.slice (.int .u8)) (.prod (.int .i64) (.unit)), 32),
  (64, .prod (.int .i64) (.prod (.str) (.unit)), 24),
  (65, .prod (.int .i64) (.prod (.str) (.unit)), 24),
  (79, .slice (.prod (.str) (.prod (.int .i64) (.unit))), 24),
  (83, .prod (.str) (.prod (.int .i64) (.unit)), 24),
  (84, .prod (.str) (.prod (.int .i64) (.unit)), 24),
  (91, .prod (.slice (.prod (.int .i64) (.prod (.int .i64) (.prod (.str) (.unit))))) (.prod (.bool) (.unit)), 32),
  (92, .prod (.slice (.prod (.int .i64) (.prod (.int .i64) (.prod (.str) (.unit))))) (.prod (.bool) (.unit)), 32),
  (98, .prod (.int .i64) (.unit), 8),
  (99, .prod (.int .i64) (.unit), 8),
  (112, .prod (.slice (.prod (.int .i64) (.prod (.int .i64) (.prod (.str) (.unit))))) (.unit), 24),
  (113, .prod (.slice (.prod (.int .i64) (.prod (.int .i64) (.prod (.str) (.unit))))) (.unit), 24),
  (146, .int .u64, 8),
  (154, .arr 256 (.int .u8), 256),
  (155, .prod (.int .u8) (.prod (.int .u8) (.unit)), 2),
  (156, .prod (.int .u8) (.prod (.int .u8) (.unit)), 2),
  (157, .arr 16 (.prod (.int .u8) (.prod (.int .u8) (.unit))), 32),
  (158, .int .u32, 4)]
theorem tab_ok : TabOK Tryz.prog tab := ⟨by kernel_rfl, by kernel_rfl⟩
@[simp] theorem ty2 : ty tab 2 = some (.int .i64) := rfl
@[simp] theorem ty3 : ty tab 3 = some (.int .i64) := rfl
@[simp] theorem ty4 : ty tab 4 = some (.bool) := rfl
@[simp] theorem ty5 : ty tab 5 = some (.int .u8) := rfl
@[simp] theorem ty9 : ty tab 9 = some (.str) := rfl
@[simp] theorem ty12 : ty tab 12 = some (.int .u64) := rfl
@[simp] theorem ty21 : ty tab 21 = some (.int .i32) := rfl
@[simp] theorem ty22 : ty tab 22 = some (.slice (.int .u8)) := rfl
@[simp] theorem ty24 : ty tab 24 = some (.slice (.prod (.int .i64) (.prod (.int .i64) (.prod (.str) (.unit))))) := rfl
@[simp] theorem ty25 : ty tab 25 = some (.slice (.prod (.int .i64) (.prod (.int .i64) (.prod (.str) (.unit))))) := rfl
@[simp] theorem ty30 : ty tab 30 = some (.slice (.str)) := rfl
@[simp] theorem ty32 : ty tab 32 = some (.slice (.int .i64)) := rfl
@[simp] theorem ty33 : ty tab 33 = some (.int .i64) := rfl
@[simp] theorem ty41 : ty tab 41 = some (.slice (.bool)) := rfl
@[simp] theorem ty42 : ty tab 42 = some (.prod (.int .i64) (.prod (.int .i64) (.prod (.int .i64) (.prod (.int .i64) (.prod (.int .i64) (.prod (.str) (.prod (.str) (.prod (.str) (.prod (.slice (.bool)) (.unit)))))))))) := rfl
@[simp] theorem ty43 : ty tab 43 = some (.prod (.int .i64) (.prod (.int .i64) (.prod (.int .i64) (.prod (.int .i64) (.prod (.int .i64) (.prod (.str) (.prod (.str) (.prod (.str) (.prod (.slice (.bool)) (.unit)))))))))) := rfl
@[simp] theorem ty49 : ty tab 49 = some (.prod (.int .i64) (.prod (.int .i64) (.prod (.str) (.unit)))) := rfl
@[simp] theorem ty50 : ty tab 50 = some (.prod (.int .i64) (.prod (.int .i64) (.prod (.str) (.unit)))) := rfl
@[simp] theorem ty53 : ty tab 53 = some (.arr 4 (.int .u8)) := rfl
@[simp] theorem ty57 : ty tab 57 = some (.prod (.slice (.int .u8)) (.prod (.int .i64) (.unit))) := rfl
@[simp] theorem ty58 : ty tab 58 = some (.prod (.slice (.int .u8)) (.prod (.int .i64) (.unit))) := rfl
@[simp] theorem ty64 : ty tab 64 = some (.prod (.int .i64) (.prod (.str) (.unit))) := rfl
@[simp] theorem ty65 : ty tab 65 = some (.prod (.int .i64) (.prod (.str) (.unit))) := rfl
@[simp] theorem ty79 : ty tab 79 = some (.slice (.prod (.str) (.prod (.int .i64) (.unit)))) := rfl
@[simp] theorem ty83 : ty tab 83 = some (.prod (.str) (.prod (.int .i64) (.unit))) := rfl
@[simp] theorem ty84 : ty tab 84 = some (.prod (.str) (.prod (.int .i64) (.unit))) := rfl
@[simp] theorem ty91 : ty tab 91 = some (.prod (.slice (.prod (.int .i64) (.prod (.int .i64) (.prod (.str) (.unit))))) (.prod (.bool) (.unit))) := rfl
@[simp] theorem ty92 : ty tab 92 = some (.prod (.slice (.prod (.int .i64) (.prod (.int .i64) (.prod (.str) (.unit))))) (.prod (.bool) (.unit))) := rfl
@[simp] theorem ty98 : ty tab 98 = some (.prod (.int .i64) (.unit)) := rfl
@[simp] theorem ty99 : ty tab 99 = some (.prod (.int .i64) (.unit)) := rfl
@[simp] theorem ty112 : ty tab 112 = some (.prod (.slice (.prod (.int .i64) (.prod (.int .i64) (.prod (.str) (.unit))))) (.unit)) := rfl
@[simp] theorem ty113 : ty tab 113 = some (.prod (.slice (.prod (.int .i64) (.prod (.int .i64) (.prod (.str) (.unit))))) (.unit)) := rfl
@[simp] theorem ty146 : ty tab 146 = some (.int .u64) := rfl
@[simp] theorem ty154 : ty tab 154 = some (.arr 256 (.int .u8)) := rfl
@[simp] theorem ty155 : ty tab 155 = some (.prod (.int .u8) (.prod (.int .u8) (.unit))) := rfl
@[simp] theorem ty156 : ty tab 156 = some (.prod (.int .u8) (.prod (.int .u8) (.unit))) := rfl
@[simp] theorem ty157 : ty tab 157 = some (.arr 16 (.prod (.int .u8) (.prod (.int .u8) (.unit)))) := rfl
@[simp] theorem ty158 : ty tab 158 = some (.int .u32) := rfl
end Go.Proofs.YtodkmhamaahjmaaGreatDoor

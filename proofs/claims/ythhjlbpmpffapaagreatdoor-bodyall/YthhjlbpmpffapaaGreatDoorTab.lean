/- The types of this seat. Printed by tab.py. -/
import Derived.Test.YthhjlbpmpffapaaGreatDoorTmC
import Derived.Test.YthhjlbpmpffapaaGreatDoorProg
import Derived.KernelRfl
namespace Go.Proofs.YthhjlbpmpffapaaGreatDoor
open Go.Tm
def tab : Tab := [
  (2, .int .i64, 8),
  (3, .int .i64, 8),
  (4, .bool, 1),
  (5, .int .u8, 1),
  (9, .str, 16),
  (12, .int .u64, 8),
  (21, .int .i32, 4),
  (22, .slice (.int .u8), 24),
  (24, .slice (.prod (.int .i64) (.prod (.int .i64) (.prod (.str) (.unit)))), 24),
  (25, .slice (.prod (.int .i64) (.prod (.int .i64) (.prod (.str) (.unit)))), 24),
  (30, .slice (.str), 24),
  (32, .slice (.int .i64), 24),
  (33, .int .i64, 8),
  (40, .prod (.int .i64) (.prod (.int .i64) (.prod (.int .i64) (.prod (.int .i64) (.prod (.int .i64) (.unit))))), 40),
  (41, .prod (.int .i64) (.prod (.int .i64) (.prod (.int .i64) (.prod (.int .i64) (.prod (.int .i64) (.unit))))), 40),
  (44, .slice (.prod (.str) (.prod (.int .i64) (.unit))), 24),
  (50, .prod (.int .i64) (.prod (.int .i64) (.prod (.str) (.unit))), 32),
  (51, .prod (.int .i64) (.prod (.int .i64) (.prod (.str) (.unit))), 32),
  (52, .prod (.str) (.prod (.int .i64) (.unit)), 24),
  (53, .prod (.str) (.prod (.int .i64) (.unit)), 24),
  (59, .prod (.slice (.int .u8)) (.prod (.int .i64) (.unit)), 32),
  (60, .prod (.slice (.int .u8)) (.prod (.int .i64) (.unit)), 32),
  (62, .prod (.prod (.int .i64) (.prod (.int .i64) (.prod (.str) (.unit)))) (.prod (.int .i64) (.prod (.slice (.prod (.int .i64) (.prod (.int .i64) (.prod (.str) (.unit))))) (.unit))), 64),
  (63, .prod (.prod (.int .i64) (.prod (.int .i64) (.prod (.str) (.unit)))) (.prod (.int .i64) (.prod (.slice (.prod (.int .i64) (.prod (.int .i64) (.prod (.str) (.unit))))) (.unit))), 64),
  (83, .slice (.bool), 24),
  (84, .prod (.int .i64) (.prod (.int .i64) (.prod (.int .i64) (.prod (.int .i64) (.prod (.int .i64) (.prod (.str) (.prod (.str) (.prod (.str) (.prod (.slice (.bool)) (.unit))))))))), 112),
  (85, .prod (.int .i64) (.prod (.int .i64) (.prod (.int .i64) (.prod (.int .i64) (.prod (.int .i64) (.prod (.str) (.prod (.str) (.prod (.str) (.prod (.slice (.bool)) (.unit))))))))), 112),
  (88, .prod (.slice (.prod (.int .i64) (.prod (.int .i64) (.prod (.str) (.unit))))) (.unit), 24),
  (89, .prod (.slice (.prod (.int .i64) (.prod (.int .i64) (.prod (.str) (.unit))))) (.unit), 24),
  (100, .int .u64, 8),
  (118, .int .u32, 4),
  (121, .int .u64, 8),
  (141, .arr 256 (.int .u8), 256),
  (142, .prod (.int .u8) (.prod (.int .u8) (.unit)), 2),
  (143, .prod (.int .u8) (.prod (.int .u8) (.unit)), 2),
  (144, .arr 16 (.prod (.int .u8) (.prod (.int .u8) (.unit))), 32)]
theorem tab_ok : TabOK Tryz.prog tab := ⟨by kernel_rfl, by kernel_rfl⟩
@[simp] theorem ty2 : ty tab 2 = some (.int .i64) := rfl
@[simp] theorem ty3 : ty tab 3 = some (.int .i64) := rfl
@[simp] theorem ty4 : ty tab 4 = some (.bool) := rfl
@[simp] theorem ty5 : ty tab 5 = some (.int .u8) := rfl
@[simp] theorem ty9 : ty tab 9 = some (.str) := rfl
@[simp] theorem ty12 : ty tab 12 = some (.int .u64) := rfl
@[simp] theorem ty21 : ty tab 21 = some (.int .i32) := rfl
@[simp] theorem ty22 : ty tab 22 = some (.slice (.int .u8)) := rfl
@[simp] theorem ty24 : ty tab 24 = some (.slice (.prod (.int .i64) (.prod (.int .i64) (.prod (.str) (.unit))))) := rfl
@[simp] theorem ty25 : ty tab 25 = some (.slice (.prod (.int .i64) (.prod (.int .i64) (.prod (.str) (.unit))))) := rfl
@[simp] theorem ty30 : ty tab 30 = some (.slice (.str)) := rfl
@[simp] theorem ty32 : ty tab 32 = some (.slice (.int .i64)) := rfl
@[simp] theorem ty33 : ty tab 33 = some (.int .i64) := rfl
@[simp] theorem ty40 : ty tab 40 = some (.prod (.int .i64) (.prod (.int .i64) (.prod (.int .i64) (.prod (.int .i64) (.prod (.int .i64) (.unit)))))) := rfl
@[simp] theorem ty41 : ty tab 41 = some (.prod (.int .i64) (.prod (.int .i64) (.prod (.int .i64) (.prod (.int .i64) (.prod (.int .i64) (.unit)))))) := rfl
@[simp] theorem ty44 : ty tab 44 = some (.slice (.prod (.str) (.prod (.int .i64) (.unit)))) := rfl
@[simp] theorem ty50 : ty tab 50 = some (.prod (.int .i64) (.prod (.int .i64) (.prod (.str) (.unit)))) := rfl
@[simp] theorem ty51 : ty tab 51 = some (.prod (.int .i64) (.prod (.int .i64) (.prod (.str) (.unit)))) := rfl
@[simp] theorem ty52 : ty tab 52 = some (.prod (.str) (.prod (.int .i64) (.unit))) := rfl
@[simp] theorem ty53 : ty tab 53 = some (.prod (.str) (.prod (.int .i64) (.unit))) := rfl
@[simp] theorem ty59 : ty tab 59 = some (.prod (.slice (.int .u8)) (.prod (.int .i64) (.unit))) := rfl
@[simp] theorem ty60 : ty tab 60 = some (.prod (.slice (.int .u8)) (.prod (.int .i64) (.unit))) := rfl
@[simp] theorem ty62 : ty tab 62 = some (.prod (.prod (.int .i64) (.prod (.int .i64) (.prod (.str) (.unit)))) (.prod (.int .i64) (.prod (.slice (.prod (.int .i64) (.prod (.int .i64) (.prod (.str) (.unit))))) (.unit)))) := rfl
@[simp] theorem ty63 : ty tab 63 = some (.prod (.prod (.int .i64) (.prod (.int .i64) (.prod (.str) (.unit)))) (.prod (.int .i64) (.prod (.slice (.prod (.int .i64) (.prod (.int .i64) (.prod (.str) (.unit))))) (.unit)))) := rfl
@[simp] theorem ty83 : ty tab 83 = some (.slice (.bool)) := rfl
@[simp] theorem ty84 : ty tab 84 = some (.prod (.int .i64) (.prod (.int .i64) (.prod (.int .i64) (.prod (.int .i64) (.prod (.int .i64) (.prod (.str) (.prod (.str) (.prod (.str) (.prod (.slice (.bool)) (.unit)))))))))) := rfl
@[simp] theorem ty85 : ty tab 85 = some (.prod (.int .i64) (.prod (.int .i64) (.prod (.int .i64) (.prod (.int .i64) (.prod (.int .i64) (.prod (.str) (.prod (.str) (.prod (.str) (.prod (.slice (.bool)) (.unit)))))))))) := rfl
@[simp] theorem ty88 : ty tab 88 = some (.prod (.slice (.prod (.int .i64) (.prod (.int .i64) (.prod (.str) (.unit))))) (.unit)) := rfl
@[simp] theorem ty89 : ty tab 89 = some (.prod (.slice (.prod (.int .i64) (.prod (.int .i64) (.prod (.str) (.unit))))) (.unit)) := rfl
@[simp] theorem ty100 : ty tab 100 = some (.int .u64) := rfl
@[simp] theorem ty118 : ty tab 118 = some (.int .u32) := rfl
@[simp] theorem ty121 : ty tab 121 = some (.int .u64) := rfl
@[simp] theorem ty141 : ty tab 141 = some (.arr 256 (.int .u8)) := rfl
@[simp] theorem ty142 : ty tab 142 = some (.prod (.int .u8) (.prod (.int .u8) (.unit))) := rfl
@[simp] theorem ty143 : ty tab 143 = some (.prod (.int .u8) (.prod (.int .u8) (.unit))) := rfl
@[simp] theorem ty144 : ty tab 144 = some (.arr 16 (.prod (.int .u8) (.prod (.int .u8) (.unit)))) := rfl
end Go.Proofs.YthhjlbpmpffapaaGreatDoor

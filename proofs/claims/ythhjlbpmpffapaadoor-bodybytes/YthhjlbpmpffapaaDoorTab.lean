/- The types of this seat. Printed by tab.py. -/
import Derived.Test.YthhjlbpmpffapaaDoorTmC
import Derived.Test.YthhjlbpmpffapaaDoorProg
import Derived.KernelRfl
namespace Go.Proofs.YthhjlbpmpffapaaDoor
open Go.Tm
def tab : Tab := [
  (2, .int .i64, 8),
  (3, .int .i64, 8),
  (4, .bool, 1),
  (5, .int .u8, 1),
  (9, .str, 16),
  (12, .int .u64, 8),
  (21, .int .i32, 4),
  (23, .slice (.prod (.int .i64) (.prod (.int .i64) (.prod (.str) (.unit)))), 24),
  (24, .slice (.prod (.int .i64) (.prod (.int .i64) (.prod (.str) (.unit)))), 24),
  (25, .int .i64, 8),
  (32, .slice (.int .u8), 24),
  (37, .slice (.prod (.str) (.prod (.int .i64) (.unit))), 24),
  (40, .prod (.int .i64) (.prod (.int .i64) (.prod (.int .i64) (.prod (.int .i64) (.prod (.int .i64) (.unit))))), 40),
  (41, .prod (.int .i64) (.prod (.int .i64) (.prod (.int .i64) (.prod (.int .i64) (.prod (.int .i64) (.unit))))), 40),
  (44, .prod (.int .i64) (.prod (.int .i64) (.prod (.str) (.unit))), 32),
  (45, .prod (.int .i64) (.prod (.int .i64) (.prod (.str) (.unit))), 32),
  (46, .prod (.str) (.prod (.int .i64) (.unit)), 24),
  (47, .prod (.str) (.prod (.int .i64) (.unit)), 24),
  (48, .slice (.str), 24),
  (61, .prod (.prod (.int .i64) (.prod (.int .i64) (.prod (.str) (.unit)))) (.prod (.int .i64) (.prod (.slice (.prod (.int .i64) (.prod (.int .i64) (.prod (.str) (.unit))))) (.unit))), 64),
  (62, .prod (.prod (.int .i64) (.prod (.int .i64) (.prod (.str) (.unit)))) (.prod (.int .i64) (.prod (.slice (.prod (.int .i64) (.prod (.int .i64) (.prod (.str) (.unit))))) (.unit))), 64),
  (78, .prod (.slice (.prod (.int .i64) (.prod (.int .i64) (.prod (.str) (.unit))))) (.unit), 24),
  (79, .prod (.slice (.prod (.int .i64) (.prod (.int .i64) (.prod (.str) (.unit))))) (.unit), 24),
  (81, .int .u64, 8),
  (98, .int .u32, 4),
  (101, .int .u64, 8),
  (107, .slice (.int .i64), 24),
  (122, .arr 256 (.int .u8), 256),
  (123, .prod (.int .u8) (.prod (.int .u8) (.unit)), 2),
  (124, .prod (.int .u8) (.prod (.int .u8) (.unit)), 2),
  (125, .arr 16 (.prod (.int .u8) (.prod (.int .u8) (.unit))), 32)]
theorem tab_ok : TabOK Tryd.prog tab := ⟨by kernel_rfl, by kernel_rfl⟩
@[simp] theorem ty2 : ty tab 2 = some (.int .i64) := rfl
@[simp] theorem ty3 : ty tab 3 = some (.int .i64) := rfl
@[simp] theorem ty4 : ty tab 4 = some (.bool) := rfl
@[simp] theorem ty5 : ty tab 5 = some (.int .u8) := rfl
@[simp] theorem ty9 : ty tab 9 = some (.str) := rfl
@[simp] theorem ty12 : ty tab 12 = some (.int .u64) := rfl
@[simp] theorem ty21 : ty tab 21 = some (.int .i32) := rfl
@[simp] theorem ty23 : ty tab 23 = some (.slice (.prod (.int .i64) (.prod (.int .i64) (.prod (.str) (.unit))))) := rfl
@[simp] theorem ty24 : ty tab 24 = some (.slice (.prod (.int .i64) (.prod (.int .i64) (.prod (.str) (.unit))))) := rfl
@[simp] theorem ty25 : ty tab 25 = some (.int .i64) := rfl
@[simp] theorem ty32 : ty tab 32 = some (.slice (.int .u8)) := rfl
@[simp] theorem ty37 : ty tab 37 = some (.slice (.prod (.str) (.prod (.int .i64) (.unit)))) := rfl
@[simp] theorem ty40 : ty tab 40 = some (.prod (.int .i64) (.prod (.int .i64) (.prod (.int .i64) (.prod (.int .i64) (.prod (.int .i64) (.unit)))))) := rfl
@[simp] theorem ty41 : ty tab 41 = some (.prod (.int .i64) (.prod (.int .i64) (.prod (.int .i64) (.prod (.int .i64) (.prod (.int .i64) (.unit)))))) := rfl
@[simp] theorem ty44 : ty tab 44 = some (.prod (.int .i64) (.prod (.int .i64) (.prod (.str) (.unit)))) := rfl
@[simp] theorem ty45 : ty tab 45 = some (.prod (.int .i64) (.prod (.int .i64) (.prod (.str) (.unit)))) := rfl
@[simp] theorem ty46 : ty tab 46 = some (.prod (.str) (.prod (.int .i64) (.unit))) := rfl
@[simp] theorem ty47 : ty tab 47 = some (.prod (.str) (.prod (.int .i64) (.unit))) := rfl
@[simp] theorem ty48 : ty tab 48 = some (.slice (.str)) := rfl
@[simp] theorem ty61 : ty tab 61 = some (.prod (.prod (.int .i64) (.prod (.int .i64) (.prod (.str) (.unit)))) (.prod (.int .i64) (.prod (.slice (.prod (.int .i64) (.prod (.int .i64) (.prod (.str) (.unit))))) (.unit)))) := rfl
@[simp] theorem ty62 : ty tab 62 = some (.prod (.prod (.int .i64) (.prod (.int .i64) (.prod (.str) (.unit)))) (.prod (.int .i64) (.prod (.slice (.prod (.int .i64) (.prod (.int .i64) (.prod (.str) (.unit))))) (.unit)))) := rfl
@[simp] theorem ty78 : ty tab 78 = some (.prod (.slice (.prod (.int .i64) (.prod (.int .i64) (.prod (.str) (.unit))))) (.unit)) := rfl
@[simp] theorem ty79 : ty tab 79 = some (.prod (.slice (.prod (.int .i64) (.prod (.int .i64) (.prod (.str) (.unit))))) (.unit)) := rfl
@[simp] theorem ty81 : ty tab 81 = some (.int .u64) := rfl
@[simp] theorem ty98 : ty tab 98 = some (.int .u32) := rfl
@[simp] theorem ty101 : ty tab 101 = some (.int .u64) := rfl
@[simp] theorem ty107 : ty tab 107 = some (.slice (.int .i64)) := rfl
@[simp] theorem ty122 : ty tab 122 = some (.arr 256 (.int .u8)) := rfl
@[simp] theorem ty123 : ty tab 123 = some (.prod (.int .u8) (.prod (.int .u8) (.unit))) := rfl
@[simp] theorem ty124 : ty tab 124 = some (.prod (.int .u8) (.prod (.int .u8) (.unit))) := rfl
@[simp] theorem ty125 : ty tab 125 = some (.arr 16 (.prod (.int .u8) (.prod (.int .u8) (.unit)))) := rfl
end Go.Proofs.YthhjlbpmpffapaaDoor

/- The types of this seat. Printed by tab.py. -/
import Derived.Test.YtjhnbndfepnpmaaTmC
import Derived.Test.YtjhnbndfepnpmaaProg
import Derived.KernelRfl
namespace Go.Proofs.Ytjhnbndfepnpmaa
open Go.Tm
def tab : Tab := [
  (2, .int .i64, 8),
  (3, .int .i64, 8),
  (4, .bool, 1),
  (5, .int .u8, 1),
  (9, .str, 16),
  (12, .int .u64, 8),
  (21, .int .i32, 4),
  (22, .prod (.int .i64) (.prod (.int .i64) (.prod (.int .i64) (.prod (.int .i64) (.prod (.int .i64) (.unit))))), 40),
  (23, .prod (.int .i64) (.prod (.int .i64) (.prod (.int .i64) (.prod (.int .i64) (.prod (.int .i64) (.unit))))), 40),
  (24, .slice (.int .u16), 24),
  (28, .slice (.str), 24),
  (30, .slice (.int .u8), 24),
  (37, .slice (.prod (.int .i64) (.prod (.int .i64) (.prod (.int .i64) (.prod (.int .i64) (.prod (.int .i64) (.unit)))))), 24),
  (39, .prod (.int .i64) (.prod (.int .i64) (.prod (.str) (.unit))), 32),
  (40, .prod (.int .i64) (.prod (.int .i64) (.prod (.str) (.unit))), 32),
  (41, .slice (.int .i64), 24),
  (45, .int .u16, 2),
  (48, .arr 4 (.int .i64), 32),
  (51, .prod (.prod (.int .i64) (.prod (.int .i64) (.prod (.int .i64) (.prod (.int .i64) (.prod (.int .i64) (.unit)))))) (.prod (.bool) (.unit)), 48),
  (52, .prod (.prod (.int .i64) (.prod (.int .i64) (.prod (.int .i64) (.prod (.int .i64) (.prod (.int .i64) (.unit)))))) (.prod (.bool) (.unit)), 48),
  (54, .prod (.slice (.int .u8)) (.prod (.bool) (.unit)), 32),
  (55, .prod (.slice (.int .u8)) (.prod (.bool) (.unit)), 32),
  (64, .int .u64, 8),
  (78, .int .u32, 4),
  (81, .int .u64, 8)]
theorem tab_ok : TabOK Try.prog tab := ⟨by kernel_rfl, by kernel_rfl⟩
@[simp] theorem ty2 : ty tab 2 = some (.int .i64) := rfl
@[simp] theorem ty3 : ty tab 3 = some (.int .i64) := rfl
@[simp] theorem ty4 : ty tab 4 = some (.bool) := rfl
@[simp] theorem ty5 : ty tab 5 = some (.int .u8) := rfl
@[simp] theorem ty9 : ty tab 9 = some (.str) := rfl
@[simp] theorem ty12 : ty tab 12 = some (.int .u64) := rfl
@[simp] theorem ty21 : ty tab 21 = some (.int .i32) := rfl
@[simp] theorem ty22 : ty tab 22 = some (.prod (.int .i64) (.prod (.int .i64) (.prod (.int .i64) (.prod (.int .i64) (.prod (.int .i64) (.unit)))))) := rfl
@[simp] theorem ty23 : ty tab 23 = some (.prod (.int .i64) (.prod (.int .i64) (.prod (.int .i64) (.prod (.int .i64) (.prod (.int .i64) (.unit)))))) := rfl
@[simp] theorem ty24 : ty tab 24 = some (.slice (.int .u16)) := rfl
@[simp] theorem ty28 : ty tab 28 = some (.slice (.str)) := rfl
@[simp] theorem ty30 : ty tab 30 = some (.slice (.int .u8)) := rfl
@[simp] theorem ty37 : ty tab 37 = some (.slice (.prod (.int .i64) (.prod (.int .i64) (.prod (.int .i64) (.prod (.int .i64) (.prod (.int .i64) (.unit))))))) := rfl
@[simp] theorem ty39 : ty tab 39 = some (.prod (.int .i64) (.prod (.int .i64) (.prod (.str) (.unit)))) := rfl
@[simp] theorem ty40 : ty tab 40 = some (.prod (.int .i64) (.prod (.int .i64) (.prod (.str) (.unit)))) := rfl
@[simp] theorem ty41 : ty tab 41 = some (.slice (.int .i64)) := rfl
@[simp] theorem ty45 : ty tab 45 = some (.int .u16) := rfl
@[simp] theorem ty48 : ty tab 48 = some (.arr 4 (.int .i64)) := rfl
@[simp] theorem ty51 : ty tab 51 = some (.prod (.prod (.int .i64) (.prod (.int .i64) (.prod (.int .i64) (.prod (.int .i64) (.prod (.int .i64) (.unit)))))) (.prod (.bool) (.unit))) := rfl
@[simp] theorem ty52 : ty tab 52 = some (.prod (.prod (.int .i64) (.prod (.int .i64) (.prod (.int .i64) (.prod (.int .i64) (.prod (.int .i64) (.unit)))))) (.prod (.bool) (.unit))) := rfl
@[simp] theorem ty54 : ty tab 54 = some (.prod (.slice (.int .u8)) (.prod (.bool) (.unit))) := rfl
@[simp] theorem ty55 : ty tab 55 = some (.prod (.slice (.int .u8)) (.prod (.bool) (.unit))) := rfl
@[simp] theorem ty64 : ty tab 64 = some (.int .u64) := rfl
@[simp] theorem ty78 : ty tab 78 = some (.int .u32) := rfl
@[simp] theorem ty81 : ty tab 81 = some (.int .u64) := rfl
end Go.Proofs.Ytjhnbndfepnpmaa

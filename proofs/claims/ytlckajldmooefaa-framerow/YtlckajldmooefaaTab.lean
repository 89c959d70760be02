/- The types of this seat. Printed by tab.py. -/
import Derived.Test.YtlckajldmooefaaTmUse
import Derived.Test.YtlckajldmooefaaProg
import Derived.KernelRfl
namespace Go.Proofs.Ytlckajldmooefaa
open Go.Tm
def tab : Tab := [
  (2, .int .i64, 8),
  (3, .int .i64, 8),
  (4, .bool, 1),
  (5, .int .u8, 1),
  (9, .str, 16),
  (12, .int .u64, 8),
  (21, .int .i32, 4),
  (22, .prod (.int .i64) (.prod (.int .i64) (.prod (.int .i64) (.prod (.int .i64) (.prod (.int .i64) (.prod (.int .i64) (.prod (.str) (.prod (.str) (.prod (.str) (.unit))))))))), 96),
  (23, .prod (.int .i64) (.prod (.int .i64) (.prod (.int .i64) (.prod (.int .i64) (.prod (.int .i64) (.prod (.int .i64) (.prod (.str) (.prod (.str) (.prod (.str) (.unit))))))))), 96),
  (24, .slice (.int .u8), 24),
  (25, .int .u16, 2),
  (30, .slice (.prod (.int .i64) (.prod (.int .i64) (.prod (.int .i64) (.prod (.int .i64) (.prod (.int .i64) (.prod (.int .i64) (.prod (.str) (.prod (.str) (.prod (.str) (.unit)))))))))), 24),
  (31, .slice (.int .i64), 24),
  (35, .slice (.slice (.int .u8)), 24),
  (36, .int .i64, 8),
  (41, .int .u32, 4),
  (42, .int .u64, 8),
  (45, .prod (.slice (.int .u8)) (.prod (.int .i64) (.unit)), 32),
  (46, .prod (.slice (.int .u8)) (.prod (.int .i64) (.unit)), 32),
  (60, .prod (.slice (.int .u8)) (.prod (.bool) (.unit)), 32),
  (61, .prod (.slice (.int .u8)) (.prod (.bool) (.unit)), 32),
  (64, .prod (.slice (.int .u8)) (.prod (.bool) (.unit)), 32),
  (65, .prod (.slice (.int .u8)) (.prod (.bool) (.unit)), 32),
  (66, .slice (.str), 24),
  (74, .int .u64, 8),
  (75, .arr 256 (.int .u32), 1024),
  (76, .arr 256 (.int .u32), 1024)]
theorem tab_ok : TabOK Try.prog tab := ⟨by kernel_rfl, by kernel_rfl⟩
@[simp] theorem ty2 : ty tab 2 = some (.int .i64) := rfl
@[simp] theorem ty3 : ty tab 3 = some (.int .i64) := rfl
@[simp] theorem ty4 : ty tab 4 = some (.bool) := rfl
@[simp] theorem ty5 : ty tab 5 = some (.int .u8) := rfl
@[simp] theorem ty9 : ty tab 9 = some (.str) := rfl
@[simp] theorem ty12 : ty tab 12 = some (.int .u64) := rfl
@[simp] theorem ty21 : ty tab 21 = some (.int .i32) := rfl
@[simp] theorem ty22 : ty tab 22 = some (.prod (.int .i64) (.prod (.int .i64) (.prod (.int .i64) (.prod (.int .i64) (.prod (.int .i64) (.prod (.int .i64) (.prod (.str) (.prod (.str) (.prod (.str) (.unit)))))))))) := rfl
@[simp] theorem ty23 : ty tab 23 = some (.prod (.int .i64) (.prod (.int .i64) (.prod (.int .i64) (.prod (.int .i64) (.prod (.int .i64) (.prod (.int .i64) (.prod (.str) (.prod (.str) (.prod (.str) (.unit)))))))))) := rfl
@[simp] theorem ty24 : ty tab 24 = some (.slice (.int .u8)) := rfl
@[simp] theorem ty25 : ty tab 25 = some (.int .u16) := rfl
@[simp] theorem ty30 : ty tab 30 = some (.slice (.prod (.int .i64) (.prod (.int .i64) (.prod (.int .i64) (.prod (.int .i64) (.prod (.int .i64) (.prod (.int .i64) (.prod (.str) (.prod (.str) (.prod (.str) (.unit))))))))))) := rfl
@[simp] theorem ty31 : ty tab 31 = some (.slice (.int .i64)) := rfl
@[simp] theorem ty35 : ty tab 35 = some (.slice (.slice (.int .u8))) := rfl
@[simp] theorem ty36 : ty tab 36 = some (.int .i64) := rfl
@[simp] theorem ty41 : ty tab 41 = some (.int .u32) := rfl
@[simp] theorem ty42 : ty tab 42 = some (.int .u64) := rfl
@[simp] theorem ty45 : ty tab 45 = some (.prod (.slice (.int .u8)) (.prod (.int .i64) (.unit))) := rfl
@[simp] theorem ty46 : ty tab 46 = some (.prod (.slice (.int .u8)) (.prod (.int .i64) (.unit))) := rfl
@[simp] theorem ty60 : ty tab 60 = some (.prod (.slice (.int .u8)) (.prod (.bool) (.unit))) := rfl
@[simp] theorem ty61 : ty tab 61 = some (.prod (.slice (.int .u8)) (.prod (.bool) (.unit))) := rfl
@[simp] theorem ty64 : ty tab 64 = some (.prod (.slice (.int .u8)) (.prod (.bool) (.unit))) := rfl
@[simp] theorem ty65 : ty tab 65 = some (.prod (.slice (.int .u8)) (.prod (.bool) (.unit))) := rfl
@[simp] theorem ty66 : ty tab 66 = some (.slice (.str)) := rfl
@[simp] theorem ty74 : ty tab 74 = some (.int .u64) := rfl
@[simp] theorem ty75 : ty tab 75 = some (.arr 256 (.int .u32)) := rfl
@[simp] theorem ty76 : ty tab 76 = some (.arr 256 (.int .u32)) := rfl
end Go.Proofs.Ytlckajldmooefaa

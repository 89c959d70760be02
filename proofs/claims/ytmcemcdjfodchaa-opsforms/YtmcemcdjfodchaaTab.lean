/- The types of this seat. Printed by tab.py. -/
import Derived.Test.YtmcemcdjfodchaaTmC
import Derived.Test.YtmcemcdjfodchaaProg
import Derived.KernelRfl
namespace Go.Proofs.Ytmcemcdjfodchaa
open Go.Tm
def tab : Tab := [
  (2, .int .i64, 8),
  (3, .int .i64, 8),
  (4, .bool, 1),
  (5, .int .u8, 1),
  (9, .str, 16),
  (12, .int .u64, 8),
  (21, .int .i32, 4),
  (22, .slice (.int .u8), 24),
  (23, .slice (.prod (.int .i64) (.prod (.int .i64) (.prod (.int .i64) (.prod (.int .i64) (.prod (.int .i64) (.prod (.str) (.prod (.str) (.prod (.str) (.prod (.slice (.bool)) (.unit)))))))))), 24),
  (25, .slice (.bool), 24),
  (26, .prod (.int .i64) (.prod (.int .i64) (.prod (.int .i64) (.prod (.int .i64) (.prod (.int .i64) (.prod (.str) (.prod (.str) (.prod (.str) (.prod (.slice (.bool)) (.unit))))))))), 112),
  (27, .prod (.int .i64) (.prod (.int .i64) (.prod (.int .i64) (.prod (.int .i64) (.prod (.int .i64) (.prod (.str) (.prod (.str) (.prod (.str) (.prod (.slice (.bool)) (.unit))))))))), 112),
  (36, .int .u16, 2),
  (42, .prod (.slice (.int .u8)) (.prod (.int .i64) (.unit)), 32),
  (43, .prod (.slice (.int .u8)) (.prod (.int .i64) (.unit)), 32),
  (45, .slice (.int .i64), 24),
  (48, .prod (.slice (.int .u8)) (.unit), 24),
  (49, .prod (.slice (.int .u8)) (.unit), 24),
  (50, .unit, 0),
  (51, .unit, 0),
  (54, .prod (.slice (.int .u8)) (.prod (.bool) (.unit)), 32),
  (55, .prod (.slice (.int .u8)) (.prod (.bool) (.unit)), 32),
  (68, .slice (.str), 24),
  (75, .int .u32, 4)]
theorem tab_ok : TabOK Try.prog tab := ⟨by kernel_rfl, by kernel_rfl⟩
@[simp] theorem ty2 : ty tab 2 = some (.int .i64) := rfl
@[simp] theorem ty3 : ty tab 3 = some (.int .i64) := rfl
@[simp] theorem ty4 : ty tab 4 = some (.bool) := rfl
@[simp] theorem ty5 : ty tab 5 = some (.int .u8) := rfl
@[simp] theorem ty9 : ty tab 9 = some (.str) := rfl
@[simp] theorem ty12 : ty tab 12 = some (.int .u64) := rfl
@[simp] theorem ty21 : ty tab 21 = some (.int .i32) := rfl
@[simp] theorem ty22 : ty tab 22 = some (.slice (.int .u8)) := rfl
@[simp] theorem ty23 : ty tab 23 = some (.slice (.prod (.int .i64) (.prod (.int .i64) (.prod (.int .i64) (.prod (.int .i64) (.prod (.int .i64) (.prod (.str) (.prod (.str) (.prod (.str) (.prod (.slice (.bool)) (.unit))))))))))) := rfl
@[simp] theorem ty25 : ty tab 25 = some (.slice (.bool)) := rfl
@[simp] theorem ty26 : ty tab 26 = some (.prod (.int .i64) (.prod (.int .i64) (.prod (.int .i64) (.prod (.int .i64) (.prod (.int .i64) (.prod (.str) (.prod (.str) (.prod (.str) (.prod (.slice (.bool)) (.unit)))))))))) := rfl
@[simp] theorem ty27 : ty tab 27 = some (.prod (.int .i64) (.prod (.int .i64) (.prod (.int .i64) (.prod (.int .i64) (.prod (.int .i64) (.prod (.str) (.prod (.str) (.prod (.str) (.prod (.slice (.bool)) (.unit)))))))))) := rfl
@[simp] theorem ty36 : ty tab 36 = some (.int .u16) := rfl
@[simp] theorem ty42 : ty tab 42 = some (.prod (.slice (.int .u8)) (.prod (.int .i64) (.unit))) := rfl
@[simp] theorem ty43 : ty tab 43 = some (.prod (.slice (.int .u8)) (.prod (.int .i64) (.unit))) := rfl
@[simp] theorem ty45 : ty tab 45 = some (.slice (.int .i64)) := rfl
@[simp] theorem ty48 : ty tab 48 = some (.prod (.slice (.int .u8)) (.unit)) := rfl
@[simp] theorem ty49 : ty tab 49 = some (.prod (.slice (.int .u8)) (.unit)) := rfl
@[simp] theorem ty50 : ty tab 50 = some (.unit) := rfl
@[simp] theorem ty51 : ty tab 51 = some (.unit) := rfl
@[simp] theorem ty54 : ty tab 54 = some (.prod (.slice (.int .u8)) (.prod (.bool) (.unit))) := rfl
@[simp] theorem ty55 : ty tab 55 = some (.prod (.slice (.int .u8)) (.prod (.bool) (.unit))) := rfl
@[simp] theorem ty68 : ty tab 68 = some (.slice (.str)) := rfl
@[simp] theorem ty75 : ty tab 75 = some (.int .u32) := rfl
end Go.Proofs.Ytmcemcdjfodchaa

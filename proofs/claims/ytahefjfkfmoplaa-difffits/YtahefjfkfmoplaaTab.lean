/- The types of this seat. Printed by tab.py. -/
import Derived.Test.YtahefjfkfmoplaaTmC
import Derived.Test.YtahefjfkfmoplaaProg
import Derived.KernelRfl
namespace Go.Proofs.Ytahefjfkfmoplaa
open Go.Tm
def tab : Tab := [
  (2, .int .i64, 8),
  (3, .int .i64, 8),
  (4, .bool, 1),
  (5, .int .u8, 1),
  (9, .str, 16),
  (12, .int .u64, 8),
  (21, .int .i32, 4),
  (22, .slice (.int .u8), 24),
  (24, .slice (.prod (.int .i64) (.prod (.int .i64) (.prod (.str) (.unit)))), 24),
  (25, .slice (.prod (.int .i64) (.prod (.int .i64) (.prod (.str) (.unit)))), 24),
  (30, .slice (.slice (.prod (.int .i64) (.prod (.int .i64) (.prod (.str) (.unit))))), 24),
  (32, .slice (.prod (.int .i64) (.prod (.str) (.prod (.int .i64) (.unit)))), 24),
  (34, .slice (.prod (.int .i64) (.prod (.str) (.prod (.int .i64) (.unit)))), 24),
  (39, .slice (.int .i64), 24),
  (46, .int .i64, 8),
  (52, .prod (.int .i64) (.prod (.str) (.prod (.int .i64) (.unit))), 32),
  (53, .prod (.int .i64) (.prod (.str) (.prod (.int .i64) (.unit))), 32),
  (54, .prod (.int .i64) (.prod (.int .i64) (.prod (.str) (.unit))), 32),
  (55, .prod (.int .i64) (.prod (.int .i64) (.prod (.str) (.unit))), 32),
  (56, .prod (.slice (.int .u8)) (.prod (.int .i64) (.unit)), 32),
  (57, .prod (.slice (.int .u8)) (.prod (.int .i64) (.unit)), 32),
  (59, .slice (.bool), 24),
  (60, .prod (.int .i64) (.prod (.int .i64) (.prod (.int .i64) (.prod (.int .i64) (.prod (.int .i64) (.prod (.str) (.prod (.str) (.prod (.str) (.prod (.slice (.bool)) (.unit))))))))), 112),
  (61, .prod (.int .i64) (.prod (.int .i64) (.prod (.int .i64) (.prod (.int .i64) (.prod (.int .i64) (.prod (.str) (.prod (.str) (.prod (.str) (.prod (.slice (.bool)) (.unit))))))))), 112),
  (63, .prod (.int .i64) (.prod (.str) (.prod (.int .i64) (.unit))), 32),
  (65, .slice (.prod (.str) (.prod (.int .i64) (.unit))), 24),
  (68, .prod (.str) (.prod (.int .i64) (.unit)), 24),
  (69, .prod (.str) (.prod (.int .i64) (.unit)), 24),
  (71, .prod (.slice (.prod (.int .i64) (.prod (.int .i64) (.prod (.str) (.unit))))) (.unit), 24),
  (72, .prod (.slice (.prod (.int .i64) (.prod (.int .i64) (.prod (.str) (.unit))))) (.unit), 24),
  (73, .prod (.prod (.slice (.prod (.int .i64) (.prod (.int .i64) (.prod (.str) (.unit))))) (.unit)) (.prod (.prod (.slice (.prod (.int .i64) (.prod (.int .i64) (.prod (.str) (.unit))))) (.unit)) (.unit)), 48),
  (74, .prod (.prod (.slice (.prod (.int .i64) (.prod (.int .i64) (.prod (.str) (.unit))))) (.unit)) (.prod (.prod (.slice (.prod (.int .i64) (.prod (.int .i64) (.prod (.str) (.unit))))) (.unit)) (.unit)), 48),
  (80, .slice (.str), 24),
  (118, .int .u32, 4)]
theorem tab_ok : TabOK Try.prog tab := ⟨by kernel_rfl, by kernel_rfl⟩
@[simp] theorem ty2 : ty tab 2 = some (.int .i64) := rfl
@[simp] theorem ty3 : ty tab 3 = some (.int .i64) := rfl
@[simp] theorem ty4 : ty tab 4 = some (.bool) := rfl
@[simp] theorem ty5 : ty tab 5 = some (.int .u8) := rfl
@[simp] theorem ty9 : ty tab 9 = some (.str) := rfl
@[simp] theorem ty12 : ty tab 12 = some (.int .u64) := rfl
@[simp] theorem ty21 : ty tab 21 = some (.int .i32) := rfl
@[simp] theorem ty22 : ty tab 22 = some (.slice (.int .u8)) := rfl
@[simp] theorem ty24 : ty tab 24 = some (.slice (.prod (.int .i64) (.prod (.int .i64) (.prod (.str) (.unit))))) := rfl
@[simp] theorem ty25 : ty tab 25 = some (.slice (.prod (.int .i64) (.prod (.int .i64) (.prod (.str) (.unit))))) := rfl
@[simp] theorem ty30 : ty tab 30 = some (.slice (.slice (.prod (.int .i64) (.prod (.int .i64) (.prod (.str) (.unit)))))) := rfl
@[simp] theorem ty32 : ty tab 32 = some (.slice (.prod (.int .i64) (.prod (.str) (.prod (.int .i64) (.unit))))) := rfl
@[simp] theorem ty34 : ty tab 34 = some (.slice (.prod (.int .i64) (.prod (.str) (.prod (.int .i64) (.unit))))) := rfl
@[simp] theorem ty39 : ty tab 39 = some (.slice (.int .i64)) := rfl
@[simp] theorem ty46 : ty tab 46 = some (.int .i64) := rfl
@[simp] theorem ty52 : ty tab 52 = some (.prod (.int .i64) (.prod (.str) (.prod (.int .i64) (.unit)))) := rfl
@[simp] theorem ty53 : ty tab 53 = some (.prod (.int .i64) (.prod (.str) (.prod (.int .i64) (.unit)))) := rfl
@[simp] theorem ty54 : ty tab 54 = some (.prod (.int .i64) (.prod (.int .i64) (.prod (.str) (.unit)))) := rfl
@[simp] theorem ty55 : ty tab 55 = some (.prod (.int .i64) (.prod (.int .i64) (.prod (.str) (.unit)))) := rfl
@[simp] theorem ty56 : ty tab 56 = some (.prod (.slice (.int .u8)) (.prod (.int .i64) (.unit))) := rfl
@[simp] theorem ty57 : ty tab 57 = some (.prod (.slice (.int .u8)) (.prod (.int .i64) (.unit))) := rfl
@[simp] theorem ty59 : ty tab 59 = some (.slice (.bool)) := rfl
@[simp] theorem ty60 : ty tab 60 = some (.prod (.int .i64) (.prod (.int .i64) (.prod (.int .i64) (.prod (.int .i64) (.prod (.int .i64) (.prod (.str) (.prod (.str) (.prod (.str) (.prod (.slice (.bool)) (.unit)))))))))) := rfl
@[simp] theorem ty61 : ty tab 61 = some (.prod (.int .i64) (.prod (.int .i64) (.prod (.int .i64) (.prod (.int .i64) (.prod (.int .i64) (.prod (.str) (.prod (.str) (.prod (.str) (.prod (.slice (.bool)) (.unit)))))))))) := rfl
@[simp] theorem ty63 : ty tab 63 = some (.prod (.int .i64) (.prod (.str) (.prod (.int .i64) (.unit)))) := rfl
@[simp] theorem ty65 : ty tab 65 = some (.slice (.prod (.str) (.prod (.int .i64) (.unit)))) := rfl
@[simp] theorem ty68 : ty tab 68 = some (.prod (.str) (.prod (.int .i64) (.unit))) := rfl
@[simp] theorem ty69 : ty tab 69 = some (.prod (.str) (.prod (.int .i64) (.unit))) := rfl
@[simp] theorem ty71 : ty tab 71 = some (.prod (.slice (.prod (.int .i64) (.prod (.int .i64) (.prod (.str) (.unit))))) (.unit)) := rfl
@[simp] theorem ty72 : ty tab 72 = some (.prod (.slice (.prod (.int .i64) (.prod (.int .i64) (.prod (.str) (.unit))))) (.unit)) := rfl
@[simp] theorem ty73 : ty tab 73 = some (.prod (.prod (.slice (.prod (.int .i64) (.prod (.int .i64) (.prod (.str) (.unit))))) (.unit)) (.prod (.prod (.slice (.prod (.int .i64) (.prod (.int .i64) (.prod (.str) (.unit))))) (.unit)) (.unit))) := rfl
@[simp] theorem ty74 : ty tab 74 = some (.prod (.prod (.slice (.prod (.int .i64) (.prod (.int .i64) (.prod (.str) (.unit))))) (.unit)) (.prod (.prod (.slice (.prod (.int .i64) (.prod (.int .i64) (.prod (.str) (.unit))))) (.unit)) (.unit))) := rfl
@[simp] theorem ty80 : ty tab 80 = some (.slice (.str)) := rfl
@[simp] theorem ty118 : ty tab 118 = some (.int .u32) := rfl
end Go.Proofs.Ytahefjfkfmoplaa

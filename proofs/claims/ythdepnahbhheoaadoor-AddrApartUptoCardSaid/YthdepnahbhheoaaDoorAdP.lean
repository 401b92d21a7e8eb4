/- strconv.FormatUint at base 16: the leaves -/
import Derived.Test.YthdepnahbhheoaaDoorAdO
namespace Go.Proofs.YthdepnahbhheoaaDoor
open Go.RowKit

theorem pow2_c (w : World) : Calls Tryd.prog 71 #[.int .i64 16] w fun e w' => e = .returned (.bool true) ∧ w' = w := by
  go_enter Tryd.func71, Tryd.ntmps71
  go_wp2_with fail
  go_ret
  exact ⟨ret_bool (by decide), rfl⟩
set_option maxHeartbeats 1000000 in
theorem tz64_c (w : World) (h : w.cell? ⟨5, 15, none⟩ = some (.int .u8 4)) :
    Calls Tryd.prog 82 #[.int .u64 16] w fun e w' => e = .returned (.int .i64 4) ∧ w' = w := by
  have key : IntKind.u64.wrap (bits BinOp.and IntKind.u64 16 (IntKind.u64.wrap (-16)) * 285870213051353865) / 288230376151711744 = 15 := by decide +kernel
  go_enter Tryd.func82, Tryd.ntmps82
  go_wp2_with (simp only [key])
  go_ret
  exact ⟨rfl, rfl⟩
theorem tz_c (w : World) (h : w.cell? ⟨5, 15, none⟩ = some (.int .u8 4)) :
    Calls Tryd.prog 72 #[.int .u64 16] w fun e w' => e = .returned (.int .i64 4) ∧ w' = w := by
  have hT := tz64_c w h
  go_enter Tryd.func72, Tryd.ntmps72
  go_wp2_with (go_at_call 82; refine hT.mono ?_; rintro e w1 ⟨rfl, rfl⟩)
  go_ret
  exact ⟨rfl, rfl⟩
end Go.Proofs.YthdepnahbhheoaaDoor

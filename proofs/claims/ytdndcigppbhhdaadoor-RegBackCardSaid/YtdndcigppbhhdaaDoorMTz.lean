/- math/bits.TrailingZeros at 16: 4 (the library's own text, walked; its table among the blocks that stay). -/
import Derived.Test.YtdndcigppbhhdaaDoorProg
import Derived.WalkKit
import Derived.ProofKit
namespace Go.Proofs.YtdndcigppbhhdaaDoorMTz
open Go.Proofs Go.RowKit
theorem idx : IntKind.u64.wrap (bits BinOp.and IntKind.u64 16 (IntKind.u64.wrap (-16)) * 285870213051353865) / 288230376151711744 = 15 := by decide +kernel
set_option maxHeartbeats 1000000 in
theorem tz16 (w : World) (h : w.cell? ⟨4, 15, none⟩ = some (.int .u8 4)) : Calls Tryd.prog 75 #[.int .u64 16] w fun e w' => e = .returned (.int .i64 4) ∧ w' = w := by
  have h2 : w.cell? ⟨4, (IntKind.u64.wrap (bits BinOp.and IntKind.u64 16 (IntKind.u64.wrap (-16)) * 285870213051353865) / 288230376151711744).toNat, none⟩ = some (.int .u8 4) := by rw [idx]; exact h
  go_enter Tryd.func75, Tryd.ntmps75
  go_wp2
  all_goals (try go_ret)
  all_goals (try exact ⟨rfl, rfl⟩)
  all_goals (try (rw [idx] at *))
end Go.Proofs.YtdndcigppbhhdaaDoorMTz

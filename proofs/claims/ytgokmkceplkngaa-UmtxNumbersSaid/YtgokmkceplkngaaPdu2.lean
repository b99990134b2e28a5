import Derived.Test.YtgokmkceplkngaaUmtx2
set_option maxRecDepth 100000
set_option maxHeartbeats 2000000
set_option linter.unusedVariables false
set_option linter.unusedSimpArgs false
namespace Go.Proofs.Ytgokmkceplkngaa
open Go Go.RowKit
/-- A config as a value. -/
def Cfg.val (c : Cfg) : Value := .agg #[.int .i64 c.mode, .int .i64 c.bits, .int .i64 c.window, .int .i64 c.reorder, .int .i64 c.c4, .int .i64 c.c5, .int .i64 c.c6, .int .i64 c.c7, .int .i64 c.c8, .int .i64 c.bytes]
def Cfg.tm (c : Cfg) : Bool := decide (c.mode = 0 ∧ c.bits = 0 ∧ c.window = 0 ∧ c.reorder = 0 ∧ c.c4 = 0 ∧ c.c5 = 0 ∧ c.c6 = 0 ∧ c.c7 = 0 ∧ c.c8 = 0)
theorem pdu_isTM (c : Cfg) (w : World) : Calls Try.prog 82 #[.agg #[.int .i64 c.mode, .int .i64 c.bits, .int .i64 c.window, .int .i64 c.reorder, .int .i64 c.c4, .int .i64 c.c5, .int .i64 c.c6, .int .i64 c.c7, .int .i64 c.c8, .int .i64 c.bytes]] w fun e w' => e = .returned (.bool c.tm) ∧ Mod Nil w w' := by
  obtain ⟨B, hB⟩ : ∃ B, c.tm = B := ⟨_, rfl⟩
  rw [hB]
  have HB := Lib.hid hB; clear hB
  go_enter Try.func82, Try.ntmps82
  go_wp2_with fail
  all_goals
    go_ret
    refine ⟨?_, (Mod.refl Nil w).alloc _⟩
    rw [← HB.out]
    simp [Cfg.tm, *]
end Go.Proofs.Ytgokmkceplkngaa

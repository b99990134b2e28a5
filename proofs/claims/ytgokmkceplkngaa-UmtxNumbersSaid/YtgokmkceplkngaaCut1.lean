import Derived.Test.YtgokmkceplkngaaQueue7
set_option maxRecDepth 100000
set_option maxHeartbeats 2000000
set_option linter.unusedVariables false
set_option linter.unusedSimpArgs false
namespace Go.Proofs.Ytgokmkceplkngaa
open Go Go.RowKit
theorem cut_isWidth (x : Int) (w : World) : Calls Try.prog 149 #[.int .i64 x] w fun e w' => e = .returned (.bool (x == 11 || x == 15)) ∧ w = w' := by
  obtain ⟨B, hB⟩ : ∃ B, (x == 11 || x == 15) = B := ⟨_, rfl⟩
  rw [hB]
  have HB := Lib.hid hB; clear hB
  by_cases h : x = 11
  · subst h
    go_enter Try.func149, Try.ntmps149
    go_wp2_with fail
    go_ret
    rw [← HB.out]; exact ⟨rfl, rfl⟩
  · have h1 : (x == 11) = false := by simpa using h
    have Hh := Lib.hid h; clear h
    go_enter Try.func149, Try.ntmps149
    go_wp2_with fail
    go_ret
    rw [← HB.out, h1]; simp
/-- cut.ask of a queue that is there, at a width that is. -/
theorem cut_ask (p : Nat) (room width : Int) (w : World) (hw : width = 11 ∨ width = 15) : Calls Try.prog 105 #[.pointer (some ⟨p, 0, none⟩), .int .i64 room, .int .i64 width] w fun e w' =>
    e = .returned (.int .i64 (if room < 0 ∨ 4000 < room then 1 else 0)) ∧ w = w' := by
  obtain ⟨R, hR⟩ : ∃ R : Int, (if room < 0 ∨ 4000 < room then (1 : Int) else 0) = R := ⟨_, rfl⟩
  rw [hR]
  have HR := Lib.hid hR; clear hR
  have hwb : (width == 11 || width == 15) = true := by rcases hw with rfl | rfl <;> rfl
  clear hw
  rcases (show room < 0 ∨ 0 ≤ room by omega) with h | h
  · have h1 : decide (room < 0) = true := by simpa using h
    go_enter Try.func105, Try.ntmps105
    go_wp2_with (go_at_call 149; refine (cut_isWidth width w).mono ?_; rintro e w1 ⟨rfl, rfl⟩; rw [hwb])
    go_ret
    rw [← HR.out, if_pos (.inl h)]; exact ⟨rfl, rfl⟩
  · rcases (show 4000 < room ∨ room ≤ 4000 by omega) with h2 | h2
    · have h1 : decide (room < 0) = false := by simpa using h
      go_enter Try.func105, Try.ntmps105
      go_wp2_with (go_at_call 149; refine (cut_isWidth width w).mono ?_; rintro e w1 ⟨rfl, rfl⟩; rw [hwb])
      go_ret
      rw [← HR.out, if_pos (.inr h2)]; exact ⟨rfl, rfl⟩
    · have h1 : decide (room < 0) = false := by simpa using h
      go_enter Try.func105, Try.ntmps105
      go_wp2_with (go_at_call 149; refine (cut_isWidth width w).mono ?_; rintro e w1 ⟨rfl, rfl⟩; rw [hwb])
      go_ret
      rw [← HR.out, if_neg (by omega)]; exact ⟨rfl, rfl⟩
end Go.Proofs.Ytgokmkceplkngaa

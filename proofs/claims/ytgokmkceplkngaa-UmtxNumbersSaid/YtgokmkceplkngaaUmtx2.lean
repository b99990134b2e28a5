import Derived.Test.YtgokmkceplkngaaUmtx1
set_option maxRecDepth 100000
set_option maxHeartbeats 2000000
set_option linter.unusedVariables false
set_option linter.unusedSimpArgs false
namespace Go.Proofs.Ytgokmkceplkngaa
open Go Go.RowKit
theorem umtx_Bytes (s p : Nat) (T : Nat → Prop) (c : Cfg) (next : Nat) (q : Qst) (w : World) (h : Snd w s p T c next q) :
    Calls Try.prog 104 #[.pointer (some ⟨s, 0, none⟩)] w fun e w' => e = .returned (.int .i64 (q.bytes : Int)) ∧ w = w' := by
  have H := Lib.hid h; clear h
  go_enter Try.func104, Try.ntmps104
  go_wp2_with (first | (go_at_call 47; refine (umtx_queue s p T c next q w H.out).mono ?_; rintro e w1 ⟨rfl, rfl⟩) | (go_at_call 66; refine (queue_Bytes p T q w H.out.que).mono ?_; rintro e w1 ⟨rfl, rfl⟩))
  go_ret
  exact ⟨rfl, rfl⟩

/-- What ask says of a grant. -/
def askOf (bits : Nat) (q : Qst) (grant : Int) : Int := if grant < 0 ∨ 4096 < grant then 1 else if q.bytes = 0 then 4 else if grant ≤ ((bits / 5 : Nat) : Int) then 16 else 0

theorem umtx_ask (s p : Nat) (T : Nat → Prop) (c : Cfg) (next : Nat) (q : Qst) (grant : Int) (bits : Nat) (hbits : c.bits = (bits : Int)) (hb16 : bits ≤ 16) (w : World) (h : Snd w s p T c next q) :
    Calls Try.prog 50 #[.pointer (some ⟨s, 0, none⟩), .int .i64 grant] w fun e w' => e = .returned (.int .i64 (askOf bits q grant)) ∧ w = w' := by
  obtain ⟨R, hR⟩ : ∃ R, askOf bits q grant = R := ⟨_, rfl⟩
  rw [hR]
  unfold askOf at hR
  have c2 : w.cell? ⟨s, 2, none⟩ = some (.int .i64 (bits : Int)) := by rw [← hbits]; exact h.blk.cell 2
  have hlt := h.blk.lt
  have hq : Int.tdiv (bits : Int) 5 = ((bits / 5 : Nat) : Int) := by rw [show ((5 : Int)) = ((5 : Nat) : Int) from rfl, ← Int.ofNat_tdiv]
  have H := Lib.hid h
  have HR := Lib.hid hR
  clear h hR hbits
  have hq' : IntKind.i64.wrap (Int.tdiv (bits : Int) 5) = ((bits / 5 : Nat) : Int) := by rw [hq]; exact IntWalk.i64_in _ (by omega)
  generalize hD : ((bits / 5 : Nat) : Int) = D at *
  have hwd : wrap64 D = D := by unfold wrap64; omega
  have HD := Lib.hid hD; clear hD
  rcases (show grant < 0 ∨ 0 ≤ grant by omega) with h | h
  · have h1 : decide (grant < 0) = true := by simpa using h
    go_enter Try.func50, Try.ntmps50
    go_wp2_with (go_at_call 47; refine (umtx_queue s p T c next q w H.out).mono ?_; rintro e w1 ⟨rfl, rfl⟩)
    go_ret
    rw [← HR.out, if_pos (.inl h)]; exact ⟨rfl, rfl⟩
  have h1 : decide (grant < 0) = false := by simpa using h
  rcases (show 4096 < grant ∨ grant ≤ 4096 by omega) with h2 | h2
  · go_enter Try.func50, Try.ntmps50
    go_wp2_with (go_at_call 47; refine (umtx_queue s p T c next q w H.out).mono ?_; rintro e w1 ⟨rfl, rfl⟩)
    go_ret
    rw [← HR.out, if_pos (.inr h2)]; exact ⟨rfl, rfl⟩
  by_cases h3 : q.bytes = 0
  · have h4 : ((q.bytes : Int) == 0) = true := by rw [h3]; rfl
    have H3 := Lib.hid h3; clear h3
    go_enter Try.func50, Try.ntmps50
    go_wp2_with (first | (go_at_call 47; refine (umtx_queue s p T c next q w H.out).mono ?_; rintro e w1 ⟨rfl, rfl⟩) | (go_at_call 104; refine (umtx_Bytes s p T c next q w H.out).mono ?_; rintro e w1 ⟨rfl, rfl⟩))
    go_ret
    rw [← HR.out, if_neg (by omega), if_pos H3.out]; exact ⟨rfl, rfl⟩
  have h4 : ((q.bytes : Int) == 0) = false := by simp only [beq_eq_false_iff_ne]; omega
  have H3 := Lib.hid h3; clear h3
  by_cases h5 : grant ≤ D
  · go_enter Try.func50, Try.ntmps50
    go_wp2_with (first | (go_at_call 47; refine (umtx_queue s p T c next q w H.out).mono ?_; rintro e w1 ⟨rfl, rfl⟩) | (go_at_call 104; refine (umtx_Bytes s p T c next q w H.out).mono ?_; rintro e w1 ⟨rfl, rfl⟩))
    go_ret
    rw [← HR.out, if_neg (by omega), if_neg H3.out, if_pos h5]; exact ⟨rfl, rfl⟩
  · go_enter Try.func50, Try.ntmps50
    go_wp2_with (first | (go_at_call 47; refine (umtx_queue s p T c next q w H.out).mono ?_; rintro e w1 ⟨rfl, rfl⟩) | (go_at_call 104; refine (umtx_Bytes s p T c next q w H.out).mono ?_; rintro e w1 ⟨rfl, rfl⟩))
    go_ret
    rw [← HR.out, if_neg (by omega), if_neg H3.out, if_neg (by omega)]; exact ⟨rfl, rfl⟩
end Go.Proofs.Ytgokmkceplkngaa

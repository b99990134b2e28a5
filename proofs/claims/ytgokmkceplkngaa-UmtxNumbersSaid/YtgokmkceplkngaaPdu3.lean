import Derived.Test.YtgokmkceplkngaaPdu2
import Derived.Deep.RegionHeld3
set_option maxRecDepth 100000
set_option maxHeartbeats 2000000
set_option linter.unusedVariables false
set_option linter.unusedSimpArgs false
namespace Go.Proofs.Ytgokmkceplkngaa
open Go Go.RowKit
theorem pdu_isUM_bits (c : Cfg) (w : World) (h : c.bits ≠ 5) (h2 : c.bits ≠ 10) : Calls Try.prog 83 #[.agg #[.int .i64 c.mode, .int .i64 c.bits, .int .i64 c.window, .int .i64 c.reorder, .int .i64 c.c4, .int .i64 c.c5, .int .i64 c.c6, .int .i64 c.c7, .int .i64 c.c8, .int .i64 c.bytes]] w fun e w' => e = .returned (.bool false) ∧ Mod Nil w w' := by
  have g1 : (c.bits == 5) = false := by simpa using h
  have g2 : (c.bits == 10) = false := by simpa using h2
  have n1 : (c.bits != 5) = true := by simpa using h
  have n2 : (c.bits != 10) = true := by simpa using h2
  go_enter Try.func83, Try.ntmps83
  go_wp2_with fail
  all_goals
    go_ret
    exact ⟨rfl, (Mod.refl Nil w).alloc _⟩
/-- What a config of UM has besides. -/
def Cfg.umB (c : Cfg) : Bool := decide (c.mode = 1 ∧ c.c4 = 0 ∧ c.c5 = 0 ∧ c.c6 = 0 ∧ c.c7 = 0 ∧ c.c8 = 0)
def Cfg.umT (c : Cfg) : List Tri := [(c.window, 1, 2 ^ (c.bits.toNat - 1)), (c.reorder, 1, 1000)]
def Cfg.um (c : Cfg) : Bool := decide (c.bits = 5 ∨ c.bits = 10) && (c.umB && !(c.umT.any Tri.out))

theorem tri_seg (w : World) (l : List Tri) (cs : Array Value) (t : TypeId) (h : cs.toList = triCells l) (n : Nat) (hn : n ≤ 9223372036854775807) : Seg (w.alloc (.cells cs t)) (From w.heap.size) (some ⟨w.heap.size, 0, none⟩) n n (triCells l) := by
  rw [← h]; exact seg_new w cs t n hn

theorem pdu_isUM_5 (c : Cfg) (w : World) : Calls Try.prog 83 #[.agg #[.int .i64 c.mode, .int .i64 5, .int .i64 c.window, .int .i64 c.reorder, .int .i64 c.c4, .int .i64 c.c5, .int .i64 c.c6, .int .i64 c.c7, .int .i64 c.c8, .int .i64 c.bytes]] w fun e w' => e = .returned (.bool (c.umB && !([(c.window, 1, 16), (c.reorder, 1, 1000)].any Tri.out : Bool))) ∧ Mod Nil w w' := by
  obtain ⟨B, hB⟩ : ∃ B, c.umB = B := ⟨_, rfl⟩
  rw [hB]
  obtain ⟨R, hR⟩ : ∃ R, ([(c.window, 1, 16), (c.reorder, 1, 1000)] : List Tri).any Tri.out = R := ⟨_, rfl⟩
  rw [hR]
  have HR := Lib.hid hR; clear hR
  have hm : Mod Nil w ((w.alloc (.cells #[.int .i64 c.mode, .int .i64 5, .int .i64 c.window, .int .i64 c.reorder, .int .i64 c.c4, .int .i64 c.c5, .int .i64 c.c6, .int .i64 c.c7, .int .i64 c.c8, .int .i64 c.bytes] 23)).alloc (.cells #[.int .i64 1, .int .i64 5, .int .i64 c.window, .int .i64 c.reorder, .int .i64 0, .int .i64 0, .int .i64 0, .int .i64 0, .int .i64 0, .int .i64 c.bytes] 23)) := ((Mod.refl Nil w).alloc _).alloc _
  have hB1 : Blk ((w.alloc (.cells #[.int .i64 c.mode, .int .i64 5, .int .i64 c.window, .int .i64 c.reorder, .int .i64 c.c4, .int .i64 c.c5, .int .i64 c.c6, .int .i64 c.c7, .int .i64 c.c8, .int .i64 c.bytes] 23)).alloc (.cells #[.int .i64 1, .int .i64 5, .int .i64 c.window, .int .i64 c.reorder, .int .i64 0, .int .i64 0, .int .i64 0, .int .i64 0, .int .i64 0, .int .i64 c.bytes] 23)) w.heap.size #[.int .i64 c.mode, .int .i64 5, .int .i64 c.window, .int .i64 c.reorder, .int .i64 c.c4, .int .i64 c.c5, .int .i64 c.c6, .int .i64 c.c7, .int .i64 c.c8, .int .i64 c.bytes] 23 := (Blk.new w _ _).alloc _
  have hB2 : Blk ((w.alloc (.cells #[.int .i64 c.mode, .int .i64 5, .int .i64 c.window, .int .i64 c.reorder, .int .i64 c.c4, .int .i64 c.c5, .int .i64 c.c6, .int .i64 c.c7, .int .i64 c.c8, .int .i64 c.bytes] 23)).alloc (.cells #[.int .i64 1, .int .i64 5, .int .i64 c.window, .int .i64 c.reorder, .int .i64 0, .int .i64 0, .int .i64 0, .int .i64 0, .int .i64 0, .int .i64 c.bytes] 23)) (w.heap.size + 1) #[.int .i64 1, .int .i64 5, .int .i64 c.window, .int .i64 c.reorder, .int .i64 0, .int .i64 0, .int .i64 0, .int .i64 0, .int .i64 0, .int .i64 c.bytes] 23 := by
    have := Blk.new (w.alloc (.cells #[.int .i64 c.mode, .int .i64 5, .int .i64 c.window, .int .i64 c.reorder, .int .i64 c.c4, .int .i64 c.c5, .int .i64 c.c6, .int .i64 c.c7, .int .i64 c.c8, .int .i64 c.bytes] 23)) #[.int .i64 1, .int .i64 5, .int .i64 c.window, .int .i64 c.reorder, .int .i64 0, .int .i64 0, .int .i64 0, .int .i64 0, .int .i64 0, .int .i64 c.bytes] 23
    rwa [World.size_alloc] at this
  cases B with
  | true =>
    have h2 := hB
    unfold Cfg.umB at h2
    obtain ⟨h1, h4, h5, h6, h7, h8⟩ := of_decide_eq_true h2
    clear h2 hB
    have m1 : (c.mode == 1) = true := by simp [h1]
    have m4 : (c.c4 == 0) = true := by simp [h4]
    have m5 : (c.c5 == 0) = true := by simp [h5]
    have m6 : (c.c6 == 0) = true := by simp [h6]
    have m7 : (c.c7 == 0) = true := by simp [h7]
    have m8 : (c.c8 == 0) = true := by simp [h8]
    clear h1 h4 h5 h6 h7 h8
    have HB1 := Lib.hid hB1; have HB2 := Lib.hid hB2; have Hm := Lib.hid hm
    clear hB1 hB2 hm
    go_enter Try.func83, Try.ntmps83
    go_wp2_with fail
    have hB1 := HB1.out
    have hB2 := HB2.out
    have hm := Hm.out
    generalize (w.alloc (.cells #[.int .i64 c.mode, .int .i64 5, .int .i64 c.window, .int .i64 c.reorder, .int .i64 c.c4, .int .i64 c.c5, .int .i64 c.c6, .int .i64 c.c7, .int .i64 c.c8, .int .i64 c.bytes] 23)).alloc (.cells #[.int .i64 1, .int .i64 5, .int .i64 c.window, .int .i64 c.reorder, .int .i64 0, .int .i64 0, .int .i64 0, .int .i64 0, .int .i64 0, .int .i64 c.bytes] 23) = W at hB1 hB2 hm ⊢
    have a0 : W.cell? ⟨w.heap.size, 0, none⟩ = some (.int .i64 c.mode) := hB1.cell 0
    have a1 : W.cell? ⟨w.heap.size, 1, none⟩ = some (.int .i64 5) := hB1.cell 1
    have a2 : W.cell? ⟨w.heap.size, 2, none⟩ = some (.int .i64 c.window) := hB1.cell 2
    have a3 : W.cell? ⟨w.heap.size, 3, none⟩ = some (.int .i64 c.reorder) := hB1.cell 3
    have a4 : W.cell? ⟨w.heap.size, 4, none⟩ = some (.int .i64 c.c4) := hB1.cell 4
    have a5 : W.cell? ⟨w.heap.size, 5, none⟩ = some (.int .i64 c.c5) := hB1.cell 5
    have a6 : W.cell? ⟨w.heap.size, 6, none⟩ = some (.int .i64 c.c6) := hB1.cell 6
    have a7 : W.cell? ⟨w.heap.size, 7, none⟩ = some (.int .i64 c.c7) := hB1.cell 7
    have a8 : W.cell? ⟨w.heap.size, 8, none⟩ = some (.int .i64 c.c8) := hB1.cell 8
    have a9 : W.cell? ⟨w.heap.size, 9, none⟩ = some (.int .i64 c.bytes) := hB1.cell 9
    have b0 : W.cell? ⟨w.heap.size + 1, 0, none⟩ = some (.int .i64 1) := hB2.cell 0
    have b1 : W.cell? ⟨w.heap.size + 1, 1, none⟩ = some (.int .i64 5) := hB2.cell 1
    have b2 : W.cell? ⟨w.heap.size + 1, 2, none⟩ = some (.int .i64 c.window) := hB2.cell 2
    have b3 : W.cell? ⟨w.heap.size + 1, 3, none⟩ = some (.int .i64 c.reorder) := hB2.cell 3
    have b4 : W.cell? ⟨w.heap.size + 1, 4, none⟩ = some (.int .i64 0) := hB2.cell 4
    have b5 : W.cell? ⟨w.heap.size + 1, 5, none⟩ = some (.int .i64 0) := hB2.cell 5
    have b6 : W.cell? ⟨w.heap.size + 1, 6, none⟩ = some (.int .i64 0) := hB2.cell 6
    have b7 : W.cell? ⟨w.heap.size + 1, 7, none⟩ = some (.int .i64 0) := hB2.cell 7
    have b8 : W.cell? ⟨w.heap.size + 1, 8, none⟩ = some (.int .i64 0) := hB2.cell 8
    have b9 : W.cell? ⟨w.heap.size + 1, 9, none⟩ = some (.int .i64 c.bytes) := hB2.cell 9
    have ew : IntKind.i64.wrap 4 = 4 := rfl
    have hl1 := hB1.lt
    have hl2 := hB2.lt
    have Hm := Lib.hid hm
    clear hB1 hB2 hm HB1 HB2
    refine wp_region_still_tail 14 (by kernel_rfl) (by kernel_rfl) ?_
    simp only [List.take_succ_cons, List.take_zero, List.drop_succ_cons, List.drop_zero]
    change wpStill _ _ W.drew _ _ _
    repeat (refine wpStill_step (fun K hK => ?_); go_simp; refine hK _ ?_; clear hK K)
    refine wpStill_nil ?_
    change wpList _ _ _ _ _ W.drew
    go_wp2_with fail
    refine (within_all [(c.window, 1, 16), (c.reorder, 1, 1000)] (From W.heap.size) _ 2 _ (tri_seg W.drew _ _ _ rfl 2 (by omega)) (by simp)).mono ?_
    rintro e w3 ⟨rfl, m3⟩
    rw [HR.out]
    go_wp2_with fail
    go_ret
    exact ⟨rfl, (Hm.out.drew.alloc _).trans m3⟩
  | false =>
    have h2 := hB
    unfold Cfg.umB at h2
    have h3 := of_decide_eq_false h2
    have h4 : ((((((c.mode == 1) && (c.c4 == 0)) && (c.c5 == 0)) && (c.c6 == 0)) && (c.c7 == 0)) && (c.c8 == 0)) = false := by
      rw [Bool.eq_false_iff]
      intro h
      simp only [Bool.and_eq_true, beq_iff_eq] at h
      exact h3 (by obtain ⟨⟨⟨⟨⟨a, b⟩, c⟩, d⟩, e⟩, f⟩ := h; exact ⟨a, b, c, d, e, f⟩)
    clear h2 h3 hB
    have HB1 := Lib.hid hB1; have HB2 := Lib.hid hB2; have Hm := Lib.hid hm
    clear hB1 hB2 hm
    go_enter Try.func83, Try.ntmps83
    go_wp2_with fail
    have hB1 := HB1.out
    have hB2 := HB2.out
    have hm := Hm.out
    generalize (w.alloc (.cells #[.int .i64 c.mode, .int .i64 5, .int .i64 c.window, .int .i64 c.reorder, .int .i64 c.c4, .int .i64 c.c5, .int .i64 c.c6, .int .i64 c.c7, .int .i64 c.c8, .int .i64 c.bytes] 23)).alloc (.cells #[.int .i64 1, .int .i64 5, .int .i64 c.window, .int .i64 c.reorder, .int .i64 0, .int .i64 0, .int .i64 0, .int .i64 0, .int .i64 0, .int .i64 c.bytes] 23) = W at hB1 hB2 hm ⊢
    have a0 : W.cell? ⟨w.heap.size, 0, none⟩ = some (.int .i64 c.mode) := hB1.cell 0
    have a1 : W.cell? ⟨w.heap.size, 1, none⟩ = some (.int .i64 5) := hB1.cell 1
    have a2 : W.cell? ⟨w.heap.size, 2, none⟩ = some (.int .i64 c.window) := hB1.cell 2
    have a3 : W.cell? ⟨w.heap.size, 3, none⟩ = some (.int .i64 c.reorder) := hB1.cell 3
    have a4 : W.cell? ⟨w.heap.size, 4, none⟩ = some (.int .i64 c.c4) := hB1.cell 4
    have a5 : W.cell? ⟨w.heap.size, 5, none⟩ = some (.int .i64 c.c5) := hB1.cell 5
    have a6 : W.cell? ⟨w.heap.size, 6, none⟩ = some (.int .i64 c.c6) := hB1.cell 6
    have a7 : W.cell? ⟨w.heap.size, 7, none⟩ = some (.int .i64 c.c7) := hB1.cell 7
    have a8 : W.cell? ⟨w.heap.size, 8, none⟩ = some (.int .i64 c.c8) := hB1.cell 8
    have a9 : W.cell? ⟨w.heap.size, 9, none⟩ = some (.int .i64 c.bytes) := hB1.cell 9
    have b0 : W.cell? ⟨w.heap.size + 1, 0, none⟩ = some (.int .i64 1) := hB2.cell 0
    have b1 : W.cell? ⟨w.heap.size + 1, 1, none⟩ = some (.int .i64 5) := hB2.cell 1
    have b2 : W.cell? ⟨w.heap.size + 1, 2, none⟩ = some (.int .i64 c.window) := hB2.cell 2
    have b3 : W.cell? ⟨w.heap.size + 1, 3, none⟩ = some (.int .i64 c.reorder) := hB2.cell 3
    have b4 : W.cell? ⟨w.heap.size + 1, 4, none⟩ = some (.int .i64 0) := hB2.cell 4
    have b5 : W.cell? ⟨w.heap.size + 1, 5, none⟩ = some (.int .i64 0) := hB2.cell 5
    have b6 : W.cell? ⟨w.heap.size + 1, 6, none⟩ = some (.int .i64 0) := hB2.cell 6
    have b7 : W.cell? ⟨w.heap.size + 1, 7, none⟩ = some (.int .i64 0) := hB2.cell 7
    have b8 : W.cell? ⟨w.heap.size + 1, 8, none⟩ = some (.int .i64 0) := hB2.cell 8
    have b9 : W.cell? ⟨w.heap.size + 1, 9, none⟩ = some (.int .i64 c.bytes) := hB2.cell 9
    have ew : IntKind.i64.wrap 4 = 4 := rfl
    have hl1 := hB1.lt
    have hl2 := hB2.lt
    have Hm := Lib.hid hm
    clear hB1 hB2 hm HB1 HB2
    have fin : ∀ n, Mod Nil w (W.drewN n) := fun n => Hm.out.drewN n
    have Fin := Lib.hid fin
    clear fin
    have h5 : (c.mode == 1) = false ∨ (c.mode == 1) = true ∧ ((c.c4 == 0) = false ∨ (c.c4 == 0) = true ∧ ((c.c5 == 0) = false ∨ (c.c5 == 0) = true ∧ ((c.c6 == 0) = false ∨ (c.c6 == 0) = true ∧ ((c.c7 == 0) = false ∨ (c.c7 == 0) = true ∧ (c.c8 == 0) = false)))) := by
      revert h4
      cases (c.mode == 1) <;> cases (c.c4 == 0) <;> cases (c.c5 == 0) <;> cases (c.c6 == 0) <;> cases (c.c7 == 0) <;> cases (c.c8 == 0) <;> decide
    clear h4
    rcases h5 with m1 | ⟨m1, m2 | ⟨m2, m3 | ⟨m3, m4 | ⟨m4, m5 | ⟨m5, m6⟩⟩⟩⟩⟩
    all_goals
      go_quiet (fail)
      go_wp2_with fail
      go_ret
      exact ⟨rfl, Fin.out _⟩

theorem pdu_isUM_10 (c : Cfg) (w : World) : Calls Try.prog 83 #[.agg #[.int .i64 c.mode, .int .i64 10, .int .i64 c.window, .int .i64 c.reorder, .int .i64 c.c4, .int .i64 c.c5, .int .i64 c.c6, .int .i64 c.c7, .int .i64 c.c8, .int .i64 c.bytes]] w fun e w' => e = .returned (.bool (c.umB && !([(c.window, 1, 512), (c.reorder, 1, 1000)].any Tri.out : Bool))) ∧ Mod Nil w w' := by
  obtain ⟨B, hB⟩ : ∃ B, c.umB = B := ⟨_, rfl⟩
  rw [hB]
  obtain ⟨R, hR⟩ : ∃ R, ([(c.window, 1, 512), (c.reorder, 1, 1000)] : List Tri).any Tri.out = R := ⟨_, rfl⟩
  rw [hR]
  have HR := Lib.hid hR; clear hR
  have hm : Mod Nil w ((w.alloc (.cells #[.int .i64 c.mode, .int .i64 10, .int .i64 c.window, .int .i64 c.reorder, .int .i64 c.c4, .int .i64 c.c5, .int .i64 c.c6, .int .i64 c.c7, .int .i64 c.c8, .int .i64 c.bytes] 23)).alloc (.cells #[.int .i64 1, .int .i64 10, .int .i64 c.window, .int .i64 c.reorder, .int .i64 0, .int .i64 0, .int .i64 0, .int .i64 0, .int .i64 0, .int .i64 c.bytes] 23)) := ((Mod.refl Nil w).alloc _).alloc _
  have hB1 : Blk ((w.alloc (.cells #[.int .i64 c.mode, .int .i64 10, .int .i64 c.window, .int .i64 c.reorder, .int .i64 c.c4, .int .i64 c.c5, .int .i64 c.c6, .int .i64 c.c7, .int .i64 c.c8, .int .i64 c.bytes] 23)).alloc (.cells #[.int .i64 1, .int .i64 10, .int .i64 c.window, .int .i64 c.reorder, .int .i64 0, .int .i64 0, .int .i64 0, .int .i64 0, .int .i64 0, .int .i64 c.bytes] 23)) w.heap.size #[.int .i64 c.mode, .int .i64 10, .int .i64 c.window, .int .i64 c.reorder, .int .i64 c.c4, .int .i64 c.c5, .int .i64 c.c6, .int .i64 c.c7, .int .i64 c.c8, .int .i64 c.bytes] 23 := (Blk.new w _ _).alloc _
  have hB2 : Blk ((w.alloc (.cells #[.int .i64 c.mode, .int .i64 10, .int .i64 c.window, .int .i64 c.reorder, .int .i64 c.c4, .int .i64 c.c5, .int .i64 c.c6, .int .i64 c.c7, .int .i64 c.c8, .int .i64 c.bytes] 23)).alloc (.cells #[.int .i64 1, .int .i64 10, .int .i64 c.window, .int .i64 c.reorder, .int .i64 0, .int .i64 0, .int .i64 0, .int .i64 0, .int .i64 0, .int .i64 c.bytes] 23)) (w.heap.size + 1) #[.int .i64 1, .int .i64 10, .int .i64 c.window, .int .i64 c.reorder, .int .i64 0, .int .i64 0, .int .i64 0, .int .i64 0, .int .i64 0, .int .i64 c.bytes] 23 := by
    have := Blk.new (w.alloc (.cells #[.int .i64 c.mode, .int .i64 10, .int .i64 c.window, .int .i64 c.reorder, .int .i64 c.c4, .int .i64 c.c5, .int .i64 c.c6, .int .i64 c.c7, .int .i64 c.c8, .int .i64 c.bytes] 23)) #[.int .i64 1, .int .i64 10, .int .i64 c.window, .int .i64 c.reorder, .int .i64 0, .int .i64 0, .int .i64 0, .int .i64 0, .int .i64 0, .int .i64 c.bytes] 23
    rwa [World.size_alloc] at this
  cases B with
  | true =>
    have h2 := hB
    unfold Cfg.umB at h2
    obtain ⟨h1, h4, h5, h6, h7, h8⟩ := of_decide_eq_true h2
    clear h2 hB
    have m1 : (c.mode == 1) = true := by simp [h1]
    have m4 : (c.c4 == 0) = true := by simp [h4]
    have m5 : (c.c5 == 0) = true := by simp [h5]
    have m6 : (c.c6 == 0) = true := by simp [h6]
    have m7 : (c.c7 == 0) = true := by simp [h7]
    have m8 : (c.c8 == 0) = true := by simp [h8]
    clear h1 h4 h5 h6 h7 h8
    have HB1 := Lib.hid hB1; have HB2 := Lib.hid hB2; have Hm := Lib.hid hm
    clear hB1 hB2 hm
    go_enter Try.func83, Try.ntmps83
    go_wp2_with fail
    have hB1 := HB1.out
    have hB2 := HB2.out
    have hm := Hm.out
    generalize (w.alloc (.cells #[.int .i64 c.mode, .int .i64 10, .int .i64 c.window, .int .i64 c.reorder, .int .i64 c.c4, .int .i64 c.c5, .int .i64 c.c6, .int .i64 c.c7, .int .i64 c.c8, .int .i64 c.bytes] 23)).alloc (.cells #[.int .i64 1, .int .i64 10, .int .i64 c.window, .int .i64 c.reorder, .int .i64 0, .int .i64 0, .int .i64 0, .int .i64 0, .int .i64 0, .int .i64 c.bytes] 23) = W at hB1 hB2 hm ⊢
    have a0 : W.cell? ⟨w.heap.size, 0, none⟩ = some (.int .i64 c.mode) := hB1.cell 0
    have a1 : W.cell? ⟨w.heap.size, 1, none⟩ = some (.int .i64 10) := hB1.cell 1
    have a2 : W.cell? ⟨w.heap.size, 2, none⟩ = some (.int .i64 c.window) := hB1.cell 2
    have a3 : W.cell? ⟨w.heap.size, 3, none⟩ = some (.int .i64 c.reorder) := hB1.cell 3
    have a4 : W.cell? ⟨w.heap.size, 4, none⟩ = some (.int .i64 c.c4) := hB1.cell 4
    have a5 : W.cell? ⟨w.heap.size, 5, none⟩ = some (.int .i64 c.c5) := hB1.cell 5
    have a6 : W.cell? ⟨w.heap.size, 6, none⟩ = some (.int .i64 c.c6) := hB1.cell 6
    have a7 : W.cell? ⟨w.heap.size, 7, none⟩ = some (.int .i64 c.c7) := hB1.cell 7
    have a8 : W.cell? ⟨w.heap.size, 8, none⟩ = some (.int .i64 c.c8) := hB1.cell 8
    have a9 : W.cell? ⟨w.heap.size, 9, none⟩ = some (.int .i64 c.bytes) := hB1.cell 9
    have b0 : W.cell? ⟨w.heap.size + 1, 0, none⟩ = some (.int .i64 1) := hB2.cell 0
    have b1 : W.cell? ⟨w.heap.size + 1, 1, none⟩ = some (.int .i64 10) := hB2.cell 1
    have b2 : W.cell? ⟨w.heap.size + 1, 2, none⟩ = some (.int .i64 c.window) := hB2.cell 2
    have b3 : W.cell? ⟨w.heap.size + 1, 3, none⟩ = some (.int .i64 c.reorder) := hB2.cell 3
    have b4 : W.cell? ⟨w.heap.size + 1, 4, none⟩ = some (.int .i64 0) := hB2.cell 4
    have b5 : W.cell? ⟨w.heap.size + 1, 5, none⟩ = some (.int .i64 0) := hB2.cell 5
    have b6 : W.cell? ⟨w.heap.size + 1, 6, none⟩ = some (.int .i64 0) := hB2.cell 6
    have b7 : W.cell? ⟨w.heap.size + 1, 7, none⟩ = some (.int .i64 0) := hB2.cell 7
    have b8 : W.cell? ⟨w.heap.size + 1, 8, none⟩ = some (.int .i64 0) := hB2.cell 8
    have b9 : W.cell? ⟨w.heap.size + 1, 9, none⟩ = some (.int .i64 c.bytes) := hB2.cell 9
    have ew : IntKind.i64.wrap 9 = 9 := rfl
    have hl1 := hB1.lt
    have hl2 := hB2.lt
    have Hm := Lib.hid hm
    clear hB1 hB2 hm HB1 HB2
    refine wp_region_still_tail 14 (by kernel_rfl) (by kernel_rfl) ?_
    simp only [List.take_succ_cons, List.take_zero, List.drop_succ_cons, List.drop_zero]
    change wpStill _ _ W.drew _ _ _
    repeat (refine wpStill_step (fun K hK => ?_); go_simp; refine hK _ ?_; clear hK K)
    refine wpStill_nil ?_
    change wpList _ _ _ _ _ W.drew
    go_wp2_with fail
    refine (within_all [(c.window, 1, 512), (c.reorder, 1, 1000)] (From W.heap.size) _ 2 _ (tri_seg W.drew _ _ _ rfl 2 (by omega)) (by simp)).mono ?_
    rintro e w3 ⟨rfl, m3⟩
    rw [HR.out]
    go_wp2_with fail
    go_ret
    exact ⟨rfl, (Hm.out.drew.alloc _).trans m3⟩
  | false =>
    have h2 := hB
    unfold Cfg.umB at h2
    have h3 := of_decide_eq_false h2
    have h4 : ((((((c.mode == 1) && (c.c4 == 0)) && (c.c5 == 0)) && (c.c6 == 0)) && (c.c7 == 0)) && (c.c8 == 0)) = false := by
      rw [Bool.eq_false_iff]
      intro h
      simp only [Bool.and_eq_true, beq_iff_eq] at h
      exact h3 (by obtain ⟨⟨⟨⟨⟨a, b⟩, c⟩, d⟩, e⟩, f⟩ := h; exact ⟨a, b, c, d, e, f⟩)
    clear h2 h3 hB
    have HB1 := Lib.hid hB1; have HB2 := Lib.hid hB2; have Hm := Lib.hid hm
    clear hB1 hB2 hm
    go_enter Try.func83, Try.ntmps83
    go_wp2_with fail
    have hB1 := HB1.out
    have hB2 := HB2.out
    have hm := Hm.out
    generalize (w.alloc (.cells #[.int .i64 c.mode, .int .i64 10, .int .i64 c.window, .int .i64 c.reorder, .int .i64 c.c4, .int .i64 c.c5, .int .i64 c.c6, .int .i64 c.c7, .int .i64 c.c8, .int .i64 c.bytes] 23)).alloc (.cells #[.int .i64 1, .int .i64 10, .int .i64 c.window, .int .i64 c.reorder, .int .i64 0, .int .i64 0, .int .i64 0, .int .i64 0, .int .i64 0, .int .i64 c.bytes] 23) = W at hB1 hB2 hm ⊢
    have a0 : W.cell? ⟨w.heap.size, 0, none⟩ = some (.int .i64 c.mode) := hB1.cell 0
    have a1 : W.cell? ⟨w.heap.size, 1, none⟩ = some (.int .i64 10) := hB1.cell 1
    have a2 : W.cell? ⟨w.heap.size, 2, none⟩ = some (.int .i64 c.window) := hB1.cell 2
    have a3 : W.cell? ⟨w.heap.size, 3, none⟩ = some (.int .i64 c.reorder) := hB1.cell 3
    have a4 : W.cell? ⟨w.heap.size, 4, none⟩ = some (.int .i64 c.c4) := hB1.cell 4
    have a5 : W.cell? ⟨w.heap.size, 5, none⟩ = some (.int .i64 c.c5) := hB1.cell 5
    have a6 : W.cell? ⟨w.heap.size, 6, none⟩ = some (.int .i64 c.c6) := hB1.cell 6
    have a7 : W.cell? ⟨w.heap.size, 7, none⟩ = some (.int .i64 c.c7) := hB1.cell 7
    have a8 : W.cell? ⟨w.heap.size, 8, none⟩ = some (.int .i64 c.c8) := hB1.cell 8
    have a9 : W.cell? ⟨w.heap.size, 9, none⟩ = some (.int .i64 c.bytes) := hB1.cell 9
    have b0 : W.cell? ⟨w.heap.size + 1, 0, none⟩ = some (.int .i64 1) := hB2.cell 0
    have b1 : W.cell? ⟨w.heap.size + 1, 1, none⟩ = some (.int .i64 10) := hB2.cell 1
    have b2 : W.cell? ⟨w.heap.size + 1, 2, none⟩ = some (.int .i64 c.window) := hB2.cell 2
    have b3 : W.cell? ⟨w.heap.size + 1, 3, none⟩ = some (.int .i64 c.reorder) := hB2.cell 3
    have b4 : W.cell? ⟨w.heap.size + 1, 4, none⟩ = some (.int .i64 0) := hB2.cell 4
    have b5 : W.cell? ⟨w.heap.size + 1, 5, none⟩ = some (.int .i64 0) := hB2.cell 5
    have b6 : W.cell? ⟨w.heap.size + 1, 6, none⟩ = some (.int .i64 0) := hB2.cell 6
    have b7 : W.cell? ⟨w.heap.size + 1, 7, none⟩ = some (.int .i64 0) := hB2.cell 7
    have b8 : W.cell? ⟨w.heap.size + 1, 8, none⟩ = some (.int .i64 0) := hB2.cell 8
    have b9 : W.cell? ⟨w.heap.size + 1, 9, none⟩ = some (.int .i64 c.bytes) := hB2.cell 9
    have ew : IntKind.i64.wrap 9 = 9 := rfl
    have hl1 := hB1.lt
    have hl2 := hB2.lt
    have Hm := Lib.hid hm
    clear hB1 hB2 hm HB1 HB2
    have fin : ∀ n, Mod Nil w (W.drewN n) := fun n => Hm.out.drewN n
    have Fin := Lib.hid fin
    clear fin
    have h5 : (c.mode == 1) = false ∨ (c.mode == 1) = true ∧ ((c.c4 == 0) = false ∨ (c.c4 == 0) = true ∧ ((c.c5 == 0) = false ∨ (c.c5 == 0) = true ∧ ((c.c6 == 0) = false ∨ (c.c6 == 0) = true ∧ ((c.c7 == 0) = false ∨ (c.c7 == 0) = true ∧ (c.c8 == 0) = false)))) := by
      revert h4
      cases (c.mode == 1) <;> cases (c.c4 == 0) <;> cases (c.c5 == 0) <;> cases (c.c6 == 0) <;> cases (c.c7 == 0) <;> cases (c.c8 == 0) <;> decide
    clear h4
    rcases h5 with m1 | ⟨m1, m2 | ⟨m2, m3 | ⟨m3, m4 | ⟨m4, m5 | ⟨m5, m6⟩⟩⟩⟩⟩
    all_goals
      go_quiet (fail)
      go_wp2_with fail
      go_ret
      exact ⟨rfl, Fin.out _⟩

end Go.Proofs.Ytgokmkceplkngaa

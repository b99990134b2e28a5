import Derived.Test.YtgokmkceplkngaaPdu3
set_option maxRecDepth 100000
set_option maxHeartbeats 2000000
set_option linter.unusedVariables false
set_option linter.unusedSimpArgs false
namespace Go.Proofs.Ytgokmkceplkngaa
open Go Go.RowKit
theorem pdu_isAM_bits (c : Cfg) (w : World) (h : c.bits ≠ 10) (h2 : c.bits ≠ 16) : Calls Try.prog 84 #[.agg #[.int .i64 c.mode, .int .i64 c.bits, .int .i64 c.window, .int .i64 c.reorder, .int .i64 c.c4, .int .i64 c.c5, .int .i64 c.c6, .int .i64 c.c7, .int .i64 c.c8, .int .i64 c.bytes]] w fun e w' => e = .returned (.bool false) ∧ Mod Nil w w' := by
  have g1 : (c.bits == 10) = false := by simpa using h
  have g2 : (c.bits == 16) = false := by simpa using h2
  have n1 : (c.bits != 10) = true := by simpa using h
  have n2 : (c.bits != 16) = true := by simpa using h2
  go_enter Try.func84, Try.ntmps84
  go_wp2_with fail
  all_goals
    go_ret
    exact ⟨rfl, (Mod.refl Nil w).alloc _⟩
theorem pdu_isAM_10 (c : Cfg) (w : World) : Calls Try.prog 84 #[.agg #[.int .i64 c.mode, .int .i64 10, .int .i64 c.window, .int .i64 c.reorder, .int .i64 c.c4, .int .i64 c.c5, .int .i64 c.c6, .int .i64 c.c7, .int .i64 c.c8, .int .i64 c.bytes]] w fun e w' => e = .returned (.bool (!([(c.window, 1, 512), (c.reorder, 1, 1000), (c.c4, 1, 1000), (c.c5, 0, 1000), (c.c6, 1, 1000), (c.c7, 1, 20000), (c.c8, 1, 32)].any Tri.out : Bool))) ∧ Mod Nil w w' := by
  obtain ⟨R, hR⟩ : ∃ R, ([(c.window, 1, 512), (c.reorder, 1, 1000), (c.c4, 1, 1000), (c.c5, 0, 1000), (c.c6, 1, 1000), (c.c7, 1, 20000), (c.c8, 1, 32)] : List Tri).any Tri.out = R := ⟨_, rfl⟩
  rw [hR]
  have HR := Lib.hid hR; clear hR
  have hm : Mod Nil w (w.alloc (.cells #[.int .i64 c.mode, .int .i64 10, .int .i64 c.window, .int .i64 c.reorder, .int .i64 c.c4, .int .i64 c.c5, .int .i64 c.c6, .int .i64 c.c7, .int .i64 c.c8, .int .i64 c.bytes] 23)) := (Mod.refl Nil w).alloc _
  have hB1 : Blk (w.alloc (.cells #[.int .i64 c.mode, .int .i64 10, .int .i64 c.window, .int .i64 c.reorder, .int .i64 c.c4, .int .i64 c.c5, .int .i64 c.c6, .int .i64 c.c7, .int .i64 c.c8, .int .i64 c.bytes] 23)) w.heap.size #[.int .i64 c.mode, .int .i64 10, .int .i64 c.window, .int .i64 c.reorder, .int .i64 c.c4, .int .i64 c.c5, .int .i64 c.c6, .int .i64 c.c7, .int .i64 c.c8, .int .i64 c.bytes] 23 := Blk.new w _ _
  have HB1 := Lib.hid hB1; have Hm := Lib.hid hm
  clear hB1 hm
  go_enter Try.func84, Try.ntmps84
  go_wp2_with fail
  have hB1 := HB1.out
  have hm := Hm.out
  generalize w.alloc (.cells #[.int .i64 c.mode, .int .i64 10, .int .i64 c.window, .int .i64 c.reorder, .int .i64 c.c4, .int .i64 c.c5, .int .i64 c.c6, .int .i64 c.c7, .int .i64 c.c8, .int .i64 c.bytes] 23) = W at hB1 hm ⊢
  have a0 : W.cell? ⟨w.heap.size, 0, none⟩ = some (.int .i64 c.mode) := hB1.cell 0
  have a1 : W.cell? ⟨w.heap.size, 1, none⟩ = some (.int .i64 10) := hB1.cell 1
  have a2 : W.cell? ⟨w.heap.size, 2, none⟩ = some (.int .i64 c.window) := hB1.cell 2
  have a3 : W.cell? ⟨w.heap.size, 3, none⟩ = some (.int .i64 c.reorder) := hB1.cell 3
  have a4 : W.cell? ⟨w.heap.size, 4, none⟩ = some (.int .i64 c.c4) := hB1.cell 4
  have a5 : W.cell? ⟨w.heap.size, 5, none⟩ = some (.int .i64 c.c5) := hB1.cell 5
  have a6 : W.cell? ⟨w.heap.size, 6, none⟩ = some (.int .i64 c.c6) := hB1.cell 6
  have a7 : W.cell? ⟨w.heap.size, 7, none⟩ = some (.int .i64 c.c7) := hB1.cell 7
  have a8 : W.cell? ⟨w.heap.size, 8, none⟩ = some (.int .i64 c.c8) := hB1.cell 8
  have a9 : W.cell? ⟨w.heap.size, 9, none⟩ = some (.int .i64 c.bytes) := hB1.cell 9
  have ew : IntKind.i64.wrap 9 = 9 := rfl
  have hl1 := hB1.lt
  have Hm := Lib.hid hm
  clear hB1 hm HB1
  refine wp_region_still_tail 25 (by kernel_rfl) (by kernel_rfl) ?_
  simp only [List.take_succ_cons, List.take_zero, List.drop_succ_cons, List.drop_zero]
  change wpStill _ _ W.drew _ _ _
  repeat (refine wpStill_step (fun K hK => ?_); go_simp; refine hK _ ?_; clear hK K)
  refine wpStill_nil ?_
  change wpList _ _ _ _ _ W.drew
  go_wp2_with fail
  refine (within_all [(c.window, 1, 512), (c.reorder, 1, 1000), (c.c4, 1, 1000), (c.c5, 0, 1000), (c.c6, 1, 1000), (c.c7, 1, 20000), (c.c8, 1, 32)] (From W.heap.size) _ 7 _ (tri_seg W.drew _ _ _ rfl 7 (by omega)) (by simp)).mono ?_
  rintro e w3 ⟨rfl, m3⟩
  rw [HR.out]
  go_wp2_with fail
  go_ret
  exact ⟨rfl, (Hm.out.drew.alloc _).trans m3⟩

theorem pdu_isAM_16 (c : Cfg) (w : World) : Calls Try.prog 84 #[.agg #[.int .i64 c.mode, .int .i64 16, .int .i64 c.window, .int .i64 c.reorder, .int .i64 c.c4, .int .i64 c.c5, .int .i64 c.c6, .int .i64 c.c7, .int .i64 c.c8, .int .i64 c.bytes]] w fun e w' => e = .returned (.bool (!([(c.window, 1, 32768), (c.reorder, 1, 1000), (c.c4, 1, 1000), (c.c5, 0, 1000), (c.c6, 1, 1000), (c.c7, 1, 20000), (c.c8, 1, 32)].any Tri.out : Bool))) ∧ Mod Nil w w' := by
  obtain ⟨R, hR⟩ : ∃ R, ([(c.window, 1, 32768), (c.reorder, 1, 1000), (c.c4, 1, 1000), (c.c5, 0, 1000), (c.c6, 1, 1000), (c.c7, 1, 20000), (c.c8, 1, 32)] : List Tri).any Tri.out = R := ⟨_, rfl⟩
  rw [hR]
  have HR := Lib.hid hR; clear hR
  have hm : Mod Nil w (w.alloc (.cells #[.int .i64 c.mode, .int .i64 16, .int .i64 c.window, .int .i64 c.reorder, .int .i64 c.c4, .int .i64 c.c5, .int .i64 c.c6, .int .i64 c.c7, .int .i64 c.c8, .int .i64 c.bytes] 23)) := (Mod.refl Nil w).alloc _
  have hB1 : Blk (w.alloc (.cells #[.int .i64 c.mode, .int .i64 16, .int .i64 c.window, .int .i64 c.reorder, .int .i64 c.c4, .int .i64 c.c5, .int .i64 c.c6, .int .i64 c.c7, .int .i64 c.c8, .int .i64 c.bytes] 23)) w.heap.size #[.int .i64 c.mode, .int .i64 16, .int .i64 c.window, .int .i64 c.reorder, .int .i64 c.c4, .int .i64 c.c5, .int .i64 c.c6, .int .i64 c.c7, .int .i64 c.c8, .int .i64 c.bytes] 23 := Blk.new w _ _
  have HB1 := Lib.hid hB1; have Hm := Lib.hid hm
  clear hB1 hm
  go_enter Try.func84, Try.ntmps84
  go_wp2_with fail
  have hB1 := HB1.out
  have hm := Hm.out
  generalize w.alloc (.cells #[.int .i64 c.mode, .int .i64 16, .int .i64 c.window, .int .i64 c.reorder, .int .i64 c.c4, .int .i64 c.c5, .int .i64 c.c6, .int .i64 c.c7, .int .i64 c.c8, .int .i64 c.bytes] 23) = W at hB1 hm ⊢
  have a0 : W.cell? ⟨w.heap.size, 0, none⟩ = some (.int .i64 c.mode) := hB1.cell 0
  have a1 : W.cell? ⟨w.heap.size, 1, none⟩ = some (.int .i64 16) := hB1.cell 1
  have a2 : W.cell? ⟨w.heap.size, 2, none⟩ = some (.int .i64 c.window) := hB1.cell 2
  have a3 : W.cell? ⟨w.heap.size, 3, none⟩ = some (.int .i64 c.reorder) := hB1.cell 3
  have a4 : W.cell? ⟨w.heap.size, 4, none⟩ = some (.int .i64 c.c4) := hB1.cell 4
  have a5 : W.cell? ⟨w.heap.size, 5, none⟩ = some (.int .i64 c.c5) := hB1.cell 5
  have a6 : W.cell? ⟨w.heap.size, 6, none⟩ = some (.int .i64 c.c6) := hB1.cell 6
  have a7 : W.cell? ⟨w.heap.size, 7, none⟩ = some (.int .i64 c.c7) := hB1.cell 7
  have a8 : W.cell? ⟨w.heap.size, 8, none⟩ = some (.int .i64 c.c8) := hB1.cell 8
  have a9 : W.cell? ⟨w.heap.size, 9, none⟩ = some (.int .i64 c.bytes) := hB1.cell 9
  have ew : IntKind.i64.wrap 15 = 15 := rfl
  have hl1 := hB1.lt
  have Hm := Lib.hid hm
  clear hB1 hm HB1
  refine wp_region_still_tail 25 (by kernel_rfl) (by kernel_rfl) ?_
  simp only [List.take_succ_cons, List.take_zero, List.drop_succ_cons, List.drop_zero]
  change wpStill _ _ W.drew _ _ _
  repeat (refine wpStill_step (fun K hK => ?_); go_simp; refine hK _ ?_; clear hK K)
  refine wpStill_nil ?_
  change wpList _ _ _ _ _ W.drew
  go_wp2_with fail
  refine (within_all [(c.window, 1, 32768), (c.reorder, 1, 1000), (c.c4, 1, 1000), (c.c5, 0, 1000), (c.c6, 1, 1000), (c.c7, 1, 20000), (c.c8, 1, 32)] (From W.heap.size) _ 7 _ (tri_seg W.drew _ _ _ rfl 7 (by omega)) (by simp)).mono ?_
  rintro e w3 ⟨rfl, m3⟩
  rw [HR.out]
  go_wp2_with fail
  go_ret
  exact ⟨rfl, (Hm.out.drew.alloc _).trans m3⟩

/-- What a config of AM has. -/
def Cfg.amT (c : Cfg) : List Tri := [(c.window, 1, 2 ^ (c.bits.toNat - 1)), (c.reorder, 1, 1000), (c.c4, 1, 1000), (c.c5, 0, 1000), (c.c6, 1, 1000), (c.c7, 1, 20000), (c.c8, 1, 32)]
def Cfg.am (c : Cfg) : Bool := decide (c.bits = 10 ∨ c.bits = 16) && !(c.amT.any Tri.out)

theorem pdu_isUM (c : Cfg) (w : World) : Calls Try.prog 83 #[.agg #[.int .i64 c.mode, .int .i64 c.bits, .int .i64 c.window, .int .i64 c.reorder, .int .i64 c.c4, .int .i64 c.c5, .int .i64 c.c6, .int .i64 c.c7, .int .i64 c.c8, .int .i64 c.bytes]] w fun e w' => e = .returned (.bool c.um) ∧ Mod Nil w w' := by
  by_cases h5 : c.bits = 5
  · have e : c.um = (c.umB && !([(c.window, 1, 16), (c.reorder, 1, 1000)].any Tri.out : Bool)) := by simp [Cfg.um, Cfg.umT, h5]
    rw [e, h5]; exact pdu_isUM_5 c w
  · by_cases h10 : c.bits = 10
    · have e : c.um = (c.umB && !([(c.window, 1, 512), (c.reorder, 1, 1000)].any Tri.out : Bool)) := by simp [Cfg.um, Cfg.umT, h10]
      rw [e, h10]; exact pdu_isUM_10 c w
    · have e : c.um = false := by simp [Cfg.um, h5, h10]
      rw [e]; exact pdu_isUM_bits c w h5 h10
theorem pdu_isAM (c : Cfg) (w : World) : Calls Try.prog 84 #[.agg #[.int .i64 c.mode, .int .i64 c.bits, .int .i64 c.window, .int .i64 c.reorder, .int .i64 c.c4, .int .i64 c.c5, .int .i64 c.c6, .int .i64 c.c7, .int .i64 c.c8, .int .i64 c.bytes]] w fun e w' => e = .returned (.bool c.am) ∧ Mod Nil w w' := by
  by_cases h5 : c.bits = 10
  · have e : c.am = (!([(c.window, 1, 512), (c.reorder, 1, 1000), (c.c4, 1, 1000), (c.c5, 0, 1000), (c.c6, 1, 1000), (c.c7, 1, 20000), (c.c8, 1, 32)].any Tri.out : Bool)) := by simp [Cfg.am, Cfg.amT, h5]
    rw [e, h5]; exact pdu_isAM_10 c w
  · by_cases h10 : c.bits = 16
    · have e : c.am = (!([(c.window, 1, 32768), (c.reorder, 1, 1000), (c.c4, 1, 1000), (c.c5, 0, 1000), (c.c6, 1, 1000), (c.c7, 1, 20000), (c.c8, 1, 32)].any Tri.out : Bool)) := by simp [Cfg.am, Cfg.amT, h10]
      rw [e, h10]; exact pdu_isAM_16 c w
    · have e : c.am = false := by simp [Cfg.am, h5, h10]
      rw [e]; exact pdu_isAM_bits c w h5 h10

/-- Of its mode, is a config right but for the bytes that may wait? -/
def Cfg.ofMode (c : Cfg) : Bool := if c.mode = 0 then c.tm else if c.mode = 1 then c.um else c.am
/-- What pdu.Check tells. -/
def Cfg.check (c : Cfg) : Nat := if c.mode = 0 ∨ c.mode = 1 ∨ c.mode = 2 then (if (c.ofMode && !(Tri.out (c.bytes, 1, 20000))) = true then 0 else 1) else 9

theorem pdu_Check_ok (c : Cfg) (w : World) (f : FuncId) (B : Bool) (hm : c.mode = 0 ∧ f = 82 ∨ c.mode = 1 ∧ f = 83 ∨ c.mode = 2 ∧ f = 84)
    (hf : ∀ w, Calls Try.prog f #[.agg #[.int .i64 c.mode, .int .i64 c.bits, .int .i64 c.window, .int .i64 c.reorder, .int .i64 c.c4, .int .i64 c.c5, .int .i64 c.c6, .int .i64 c.c7, .int .i64 c.c8, .int .i64 c.bytes]] w fun e w' => e = .returned (.bool B) ∧ Mod Nil w w') :
    Calls Try.prog 37 #[.agg #[.int .i64 c.mode, .int .i64 c.bits, .int .i64 c.window, .int .i64 c.reorder, .int .i64 c.c4, .int .i64 c.c5, .int .i64 c.c6, .int .i64 c.c7, .int .i64 c.c8, .int .i64 c.bytes]] w fun e w' => e = .returned (.int .i64 ((if (B && !(Tri.out (c.bytes, 1, 20000))) = true then 0 else 1 : Nat) : Int)) ∧ Mod Nil w w' := by
  obtain ⟨O, hO⟩ : ∃ O, Tri.out (c.bytes, 1, 20000) = O := ⟨_, rfl⟩
  rw [hO]
  have HO := Lib.hid hO; clear hO
  have Hf := Lib.hid hf; clear hf
  have hmd : (c.mode == 0) = true ∧ f = 82 ∨ ((c.mode == 0) = false ∧ (c.mode == 1) = true ∧ f = 83) ∨ ((c.mode == 0) = false ∧ (c.mode == 1) = false ∧ (c.mode == 2) = true ∧ f = 84) := by
    rcases hm with ⟨h, rfl⟩ | ⟨h, rfl⟩ | ⟨h, rfl⟩ <;> simp [h]
  clear hm
  rcases hmd with ⟨m0, rfl⟩ | ⟨m0, m1, rfl⟩ | ⟨m0, m1, m2, rfl⟩
  all_goals
    go_enter Try.func37, Try.ntmps37
    go_wp2_with fail
    refine (Hf.out _).mono ?_
    rintro e w1 ⟨rfl, n1⟩
    have hb1 := (Blk.new w #[.int .i64 c.mode, .int .i64 c.bits, .int .i64 c.window, .int .i64 c.reorder, .int .i64 c.c4, .int .i64 c.c5, .int .i64 c.c6, .int .i64 c.c7, .int .i64 c.c8, .int .i64 c.bytes] 23).mod n1 (fun h => h)
    have a9 : w1.cell? ⟨w.heap.size, 9, none⟩ = some (.int .i64 c.bytes) := hb1.cell 9
    have hl := hb1.lt
    have hn1 := n1.of_alloc (F := Nil)
    have N1 := Lib.hid hn1
    clear hb1 hn1 n1
    cases B with
    | false =>
      go_wp2_with fail
      go_ret
      exact ⟨rfl, N1.out⟩
    | true =>
      go_wp2_with fail
      refine (within_all [(c.bytes, 1, 20000)] (From w1.heap.size) _ 1 _ (tri_seg w1 _ _ _ rfl 1 (by omega)) (by simp)).mono ?_
      rintro e w3 ⟨rfl, m3⟩
      have e1 : ([(c.bytes, 1, 20000)] : List Tri).any Tri.out = O := by rw [← HO.out]; simp
      rw [e1]
      have n3 := (N1.out.alloc (.cells #[.int .i64 c.bytes, .int .i64 1, .int .i64 20000] 150)).trans m3
      have N3 := Lib.hid n3
      clear n3 m3
      cases O
      all_goals
        go_wp2_with fail
        go_ret
        exact ⟨rfl, N3.out⟩
theorem pdu_Check (c : Cfg) (w : World) : Calls Try.prog 37 #[.agg #[.int .i64 c.mode, .int .i64 c.bits, .int .i64 c.window, .int .i64 c.reorder, .int .i64 c.c4, .int .i64 c.c5, .int .i64 c.c6, .int .i64 c.c7, .int .i64 c.c8, .int .i64 c.bytes]] w fun e w' => e = .returned (.int .i64 (c.check : Nat)) ∧ Mod Nil w w' := by
  by_cases h0 : c.mode = 0
  · have := pdu_Check_ok c w 82 c.tm (.inl ⟨h0, rfl⟩) (fun w => pdu_isTM c w)
    unfold Cfg.check Cfg.ofMode
    rw [if_pos (.inl h0), if_pos h0]; exact this
  by_cases h1 : c.mode = 1
  · have := pdu_Check_ok c w 83 c.um (.inr (.inl ⟨h1, rfl⟩)) (fun w => pdu_isUM c w)
    unfold Cfg.check Cfg.ofMode
    rw [if_pos (.inr (.inl h1)), if_neg h0, if_pos h1]; exact this
  by_cases h2 : c.mode = 2
  · have := pdu_Check_ok c w 84 c.am (.inr (.inr ⟨h2, rfl⟩)) (fun w => pdu_isAM c w)
    unfold Cfg.check Cfg.ofMode
    rw [if_pos (.inr (.inr h2)), if_neg h0, if_neg h1]; exact this
  have e : c.check = 9 := by unfold Cfg.check; rw [if_neg (by omega)]
  rw [e]
  have m0 : (c.mode == 0) = false := by simpa using h0
  have m1 : (c.mode == 1) = false := by simpa using h1
  have m2 : (c.mode == 2) = false := by simpa using h2
  clear e h0 h1 h2
  go_enter Try.func37, Try.ntmps37
  go_wp2_with fail
  go_ret
  exact ⟨rfl, (Mod.refl Nil w).alloc _⟩
end Go.Proofs.Ytgokmkceplkngaa

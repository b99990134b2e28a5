import Derived.Test.YtgokmkceplkngaaUmtx3
import Derived.Deep.RegionHeld3
import Derived.Test.YtgokmkceplkngaaHeld
set_option maxRecDepth 100000
set_option maxHeartbeats 4000000
set_option linter.unusedVariables false
set_option linter.unusedSimpArgs false
namespace Go.Proofs.Ytgokmkceplkngaa
open Go Go.RowKit

theorem umtx_New_bad (c : Cfg) (w : World) (h : c.check ≠ 0 ∨ c.mode ≠ 1) : Calls Try.prog 8 #[.agg #[.int .i64 c.mode, .int .i64 c.bits, .int .i64 c.window, .int .i64 c.reorder, .int .i64 c.c4, .int .i64 c.c5, .int .i64 c.c6, .int .i64 c.c7, .int .i64 c.c8, .int .i64 c.bytes]] w fun e w' =>
    e = .returned (.tuple #[.pointer none, .int .i64 ((if c.check ≠ 0 then c.check else 9 : Nat) : Int)]) ∧ Mod Nil w w' := by
  obtain ⟨K0, hK0⟩ : ∃ K0, c.check = K0 := ⟨_, rfl⟩
  have hC := pdu_Check c
  rw [hK0] at hC h ⊢
  have HC := Lib.hid hC; clear hC hK0
  by_cases h0 : K0 = 0
  · subst h0
    have h1 : (c.mode != 1) = true := by simpa using h
    have h2 : (c.mode == 1) = false := by simpa using h
    clear h
    go_enter Try.func8, Try.ntmps8
    go_wp2_with fail
    refine (HC.out _).mono ?_
    rintro e w1 ⟨rfl, n1⟩
    have hb1 := (Blk.new w #[.int .i64 c.mode, .int .i64 c.bits, .int .i64 c.window, .int .i64 c.reorder, .int .i64 c.c4, .int .i64 c.c5, .int .i64 c.c6, .int .i64 c.c7, .int .i64 c.c8, .int .i64 c.bytes] 23).mod n1 (fun h => h)
    have a0 : w1.cell? ⟨w.heap.size, 0, none⟩ = some (.int .i64 c.mode) := hb1.cell 0
    have hl := hb1.lt
    have N1 := Lib.hid (n1.of_alloc (F := Nil))
    clear hb1 n1
    go_wp2_with fail
    go_ret2
    exact ⟨rfl, N1.out⟩
  · have h1 : ((K0 : Int) == 0) = false := by simp only [beq_eq_false_iff_ne]; omega
    have h2 : ((K0 : Int) != 0) = true := by simp only [bne_iff_ne]; omega
    have H0 := Lib.hid h0
    clear h h0
    go_enter Try.func8, Try.ntmps8
    go_wp2_with fail
    refine (HC.out _).mono ?_
    rintro e w1 ⟨rfl, n1⟩
    have N1 := Lib.hid (n1.of_alloc (F := Nil))
    clear n1
    go_wp2_with fail
    go_ret2
    exact ⟨rfl, N1.out⟩

theorem Cfg.check_um {c : Cfg} (h : c.check = 0) (h1 : c.mode = 1) : (c.bits = 5 ∨ c.bits = 10) ∧ 1 ≤ c.bytes ∧ c.bytes ≤ 20000 ∧ 1 ≤ c.window ∧ c.window ≤ 2 ^ (c.bits.toNat - 1) ∧ 1 ≤ c.reorder ∧ c.reorder ≤ 1000 := by
  unfold Cfg.check Cfg.ofMode at h
  rw [if_pos (show c.mode = 0 ∨ c.mode = 1 ∨ c.mode = 2 by omega), if_neg (show ¬ c.mode = 0 by omega), if_pos h1] at h
  have h2 : (c.um && !Tri.out (c.bytes, 1, 20000)) = true := by
    by_cases h3 : (c.um && !Tri.out (c.bytes, 1, 20000)) = true
    · exact h3
    · rw [if_neg h3] at h; cases h
  simp [Cfg.um, Cfg.umT, Tri.out] at h2
  obtain ⟨⟨a, b, c1, d⟩, e, f⟩ := h2
  refine ⟨a, by omega, by omega, by omega, ?_, by omega, by omega⟩
  exact c1.2

theorem umtx_New_ok (c : Cfg) (w : World) (h : c.check = 0) (h1 : c.mode = 1) : Calls Try.prog 8 #[.agg #[.int .i64 c.mode, .int .i64 c.bits, .int .i64 c.window, .int .i64 c.reorder, .int .i64 c.c4, .int .i64 c.c5, .int .i64 c.c6, .int .i64 c.c7, .int .i64 c.c8, .int .i64 c.bytes]] w fun e w' =>
    ∃ s p, e = .returned (.tuple #[.pointer (some ⟨s, 0, none⟩), .int .i64 0]) ∧ Mod Nil w w' ∧ w.heap.size ≤ s ∧ w.heap.size ≤ p ∧ Snd w' s p Nil c 0 ⟨c.bytes.toNat, 0, 0, []⟩ := by
  obtain ⟨hbits, hb1, hb2, _⟩ := Cfg.check_um h h1
  obtain ⟨n, hn⟩ := Int.eq_ofNat_of_zero_le (show 0 ≤ c.bytes by omega)
  have hn1 : 1 ≤ n := by omega
  have hn2 : n ≤ 20000 := by omega
  have hC := pdu_Check c
  rw [h] at hC
  have HC := Lib.hid hC; clear hC h hbits hb1 hb2
  have m1 : (c.mode != 1) = false := by simpa using h1
  have m2 : (c.mode == 1) = true := by simpa using h1
  have Hn := Lib.hid hn
  clear h1 hn
  go_enter Try.func8, Try.ntmps8
  go_wp2_with fail
  refine (HC.out _).mono ?_
  rintro e w1 ⟨rfl, n1⟩
  have hb1 := (Blk.new w #[.int .i64 c.mode, .int .i64 c.bits, .int .i64 c.window, .int .i64 c.reorder, .int .i64 c.c4, .int .i64 c.c5, .int .i64 c.c6, .int .i64 c.c7, .int .i64 c.c8, .int .i64 c.bytes] 23).mod n1 (fun h => h)
  have a0 : w1.cell? ⟨w.heap.size, 0, none⟩ = some (.int .i64 c.mode) := hb1.cell 0
  have a9 : w1.cell? ⟨w.heap.size, 9, none⟩ = some (.int .i64 c.bytes) := hb1.cell 9
  have hl := hb1.lt
  have N1 := Lib.hid (n1.of_alloc (F := Nil))
  have HB1 := Lib.hid hb1
  clear hb1 n1
  go_wp2_with fail
  rw [Hn.out]
  refine (queue_New n w1 hn1 hn2).mono ?_
  rintro e w2 ⟨rfl, n2, hq⟩
  have hb2 := HB1.out.mod n2 (fun h => h)
  have b0 : w2.cell? ⟨w.heap.size, 0, none⟩ = some (.int .i64 c.mode) := hb2.cell 0
  have b1 : w2.cell? ⟨w.heap.size, 1, none⟩ = some (.int .i64 c.bits) := hb2.cell 1
  have b2 : w2.cell? ⟨w.heap.size, 2, none⟩ = some (.int .i64 c.window) := hb2.cell 2
  have b3 : w2.cell? ⟨w.heap.size, 3, none⟩ = some (.int .i64 c.reorder) := hb2.cell 3
  have b4 : w2.cell? ⟨w.heap.size, 4, none⟩ = some (.int .i64 c.c4) := hb2.cell 4
  have b5 : w2.cell? ⟨w.heap.size, 5, none⟩ = some (.int .i64 c.c5) := hb2.cell 5
  have b6 : w2.cell? ⟨w.heap.size, 6, none⟩ = some (.int .i64 c.c6) := hb2.cell 6
  have b7 : w2.cell? ⟨w.heap.size, 7, none⟩ = some (.int .i64 c.c7) := hb2.cell 7
  have b8 : w2.cell? ⟨w.heap.size, 8, none⟩ = some (.int .i64 c.c8) := hb2.cell 8
  have b9 : w2.cell? ⟨w.heap.size, 9, none⟩ = some (.int .i64 c.bytes) := hb2.cell 9
  have hl2 := hb2.lt
  have hs1 := N1.out.size
  have hs2 := n2.size
  have Hq := Lib.hid hq
  have N2 := Lib.hid (N1.out.trans n2)
  clear a0 a9 hb2 hq n2
  go_wp2_with fail
  go_ret2
  have hql := Hq.out.lt
  refine ⟨w2.heap.size, w1.heap.size, rfl, N2.out.alloc _, by omega, by omega, Blk.new w2 _ _, ?_, by omega, fun h => h⟩
  have e : c.bytes.toNat = n := by rw [Hn.out]; rfl
  rw [e]
  exact Hq.out.mod ((Mod.refl Nil w2).alloc _) (fun h => h) (fun _ _ _ h => h)
end Go.Proofs.Ytgokmkceplkngaa

import Derived.Test.YtgokmkceplkngaaQueue4
import Derived.Lib.AppendZerosOnto
import Derived.Lib.AppendZeros
import Derived.Lib.SliceRun
set_option maxRecDepth 100000
set_option maxHeartbeats 2000000
set_option linter.unusedVariables false
set_option linter.unusedSimpArgs false
namespace Go.Proofs.Ytgokmkceplkngaa
open Go Go.RowKit

theorem growTxt (n : Nat) (w : World) (hn : n ≤ 64) :
    Calls Try.prog 148 #[.slice none 0 0, .int .i64 (n : Int)] w fun e w' => ∃ v, e = .returned v ∧ Mod Nil w w' ∧ w'.ownsRow w.heap.size 166 2 v 0 [] := by
  obtain ⟨i0, hi, hz0, hz1, hz2⟩ := info_parts Try.infoTxt
  by_cases h0 : n = 0
  · subst h0
    go_enter Try.func148, Try.ntmps148
    go_wp2_with fail
    go_ret
    exact ⟨_, rfl, Mod.refl _ _, World.ownsRow_nil _ _ _ _⟩
  · obtain ⟨G, hG⟩ : ∃ G, G = grownCap w (0 + n) 0 166 := ⟨_, rfl⟩
    have hrun := Lib.run_append_grow_zeros (P := Try.prog) w 162 3 162 166 i0 (.agg #[.int .u64 0, .slice none 0 0]) .i64 .i64 Try.underlying162 Try.underlying3 hi hz0
      none 0 0 [] (run_firstCells_none w.drew i0.size 0 0 0) n (by omega) (by rw [hz1]; decide) (by omega) (by omega) (by rw [hz2]; omega) (growslice_fits (by omega) (by rw [hz2]; omega))
    rw [← hG] at hrun
    have hG1 : n ≤ G := by have := grownCap_ge w (0 + n) 0 166; omega
    have hG2 : G ≤ maxLen := by rw [hG]; exact grownCap_le_maxLen w (0 + n) 0 166 (by unfold maxLen; omega)
    have hG3 : G ≤ 9223372036854775807 := by unfold maxLen at hG2; omega
    simp only [Nat.zero_add] at hrun
    have hcur : ((([] : List Value).toArray ++ Builtin.zeroCells (Value.agg #[.int .u64 0, .slice none 0 0]).cells n ++ Builtin.zeroCells (Value.agg #[.int .u64 0, .slice none 0 0]).cells (G - n))).size = G * 2 := by
      rw [Array.size_append, Array.size_append, size_zeroCells, size_zeroCells]
      show 0 + n * 2 + (G - n) * 2 = G * 2
      omega
    have HG := Lib.hid hG; have HG2 := Lib.hid hG2
    obtain ⟨CS, hCS⟩ : ∃ CS, ([] : List Value).toArray ++ Builtin.zeroCells (Value.agg #[.int .u64 0, .slice none 0 0]).cells n ++ Builtin.zeroCells (Value.agg #[.int .u64 0, .slice none 0 0]).cells (G - n) = CS := ⟨_, rfl⟩
    rw [hCS] at hrun hcur
    have Hcs := Lib.hid hcur
    clear hG hcur hCS hG2
    go_enter Try.func148, Try.ntmps148
    go_wp2_with (at_builtin; refine Lib.wpList_append_run _ rfl _ _ _ _ rfl _ _ rfl rfl _ _ hrun ?_)
    go_ret
    exact ⟨_, rfl, ((Mod.refl Nil w).alloc _).drew, rfl, .inr ⟨w.heap.size, G, CS, rfl, Nat.le_refl _, heap_alloc_new w _, Nat.zero_le _, HG2.out, Hcs.out, by simp⟩⟩

theorem txt_one_append {l1 l2 : List Value} (h1 : ∀ u ∈ l1, u.oneCell' = true) (h2 : ∀ u ∈ l2, u.oneCell' = true) : ∀ u ∈ l1 ++ l2, u.oneCell' = true := by
  intro u hu
  rcases List.mem_append.1 hu with h | h
  · exact h1 u h
  · exact h2 u h

theorem concatTxt (T : Nat → Prop) (g : Nat) (ao1 ao2 : Option Addr) (n1 n2 k1 k2 : Nat) (cs1 cs2 : List Value) (w : World) (c0 : w.cell? ⟨g, 0, none⟩ = some (.slice ao1 n1 k1)) (c1 : w.cell? ⟨g, 1, none⟩ = some (.slice ao2 n2 k2))
    (h1 : Seg w T ao1 n1 k1 cs1) (h2 : Seg w T ao2 n2 k2 cs2) (l1 : cs1.length = n1 * 2) (l2 : cs2.length = n2 * 2) (o1 : ∀ u ∈ cs1, u.oneCell' = true) (o2 : ∀ u ∈ cs2, u.oneCell' = true) (hn : n1 + n2 ≤ 64) :
    Calls Try.prog 103 #[.slice (some ⟨g, 0, none⟩) 2 2] w fun e w' => ∃ v, e = .returned v ∧ Mod Nil w w' ∧ w'.ownsRow w.heap.size 166 2 v (n1 + n2) (cs1 ++ cs2) := by
  obtain ⟨i0, hi, hz0, hz1, hz2⟩ := info_parts Try.infoTxt
  have L1 := Lib.hid l1; have L2 := Lib.hid l2; have O1 := Lib.hid o1; have O2 := Lib.hid o2
  have hg := World.block_lt_of_cell? w _ c0
  clear l1 l2 o1 o2
  have e1 : IntKind.i64.wrap ((0 : Int) + (n1 : Int)) = (n1 : Int) := by rw [Int.zero_add]; exact IntWalk.i64_in _ (by omega)
  have e2 : IntKind.i64.wrap ((n1 : Int) + (n2 : Int)) = ((n1 + n2 : Nat) : Int) := by rw [← Int.natCast_add]; exact IntWalk.i64_in _ (by omega)
  go_enter Try.func103, Try.ntmps103
  go_wp2_with fail
  go_loopw [3, 11] (fun s i wr => wr = w ∧ ((i = .int .i64 0 ∧ s = .int .i64 0) ∨ (i = .int .i64 1 ∧ s = .int .i64 (n1 : Int)) ∨ (i = .int .i64 2 ∧ s = .int .i64 ((n1 + n2 : Nat) : Int)))) (fun _ i _ => 2 - (intOf i).toNat)
  case atStart => exact ⟨rfl, .inl ⟨rfl, rfl⟩⟩
  case round =>
    obtain ⟨hw, hrel⟩ := hrel
    have hw2 := hw.symm
    clear hw
    subst hw2
    rcases hrel with ⟨rfl, rfl⟩ | ⟨rfl, rfl⟩ | ⟨rfl, rfl⟩
    · go_wp2_with fail
      exact ⟨⟨trivial, .inr (.inl ⟨rfl, rfl⟩)⟩, by simp [intOf]⟩
    · go_wp2_with fail
      exact ⟨⟨trivial, .inr (.inr ⟨rfl, rfl⟩)⟩, by simp [intOf]⟩
    · go_wp2_with fail
      refine (growTxt (n1 + n2) w hn).mono ?_
      rintro e w3 ⟨v3, rfl, m3, hown3⟩
      have d0 : w3.cell? ⟨g, 0, none⟩ = some (.slice ao1 n1 k1) := by rw [m3.cell hg (fun h => h)]; exact c0
      have d1 : w3.cell? ⟨g, 1, none⟩ = some (.slice ao2 n2 k2) := by rw [m3.cell hg (fun h => h)]; exact c1
      have hs1 := h1.mod m3 (fun _ _ _ h => h)
      have hs2 := h2.mod m3 (fun _ _ _ h => h)
      have hsz := m3.size
      go_wp2_with fail
      go_loopw [6, 27] (fun s i w4 => Mod Nil w w4 ∧ ((i = .int .i64 0 ∧ w4.ownsRow w.heap.size 166 2 s 0 []) ∨ (i = .int .i64 1 ∧ w4.ownsRow w.heap.size 166 2 s n1 cs1) ∨ (i = .int .i64 2 ∧ w4.ownsRow w.heap.size 166 2 s (n1 + n2) (cs1 ++ cs2)))) (fun _ i _ => 2 - (intOf i).toNat)
      case atStart => exact ⟨m3, .inl ⟨rfl, hown3⟩⟩
      case round =>
        clear d0 d1 hs1 hs2 hsz m3 hown3
        obtain ⟨m4, hrel⟩ := hrel
        have hsz := m4.size
        have d0 : wr.cell? ⟨g, 0, none⟩ = some (.slice ao1 n1 k1) := by rw [m4.cell hg (fun h => h)]; exact c0
        have d1 : wr.cell? ⟨g, 1, none⟩ = some (.slice ao2 n2 k2) := by rw [m4.cell hg (fun h => h)]; exact c1
        have hs1 := h1.mod m4 (fun _ _ _ h => h)
        have hs2 := h2.mod m4 (fun _ _ _ h => h)
        have hgw : g < wr.heap.size := by omega
        rcases hrel with ⟨rfl, hown⟩ | ⟨rfl, hown⟩ | ⟨rfl, hown⟩
        · go_wp2_with (at_builtin; refine wpList_app _ rfl _ _ 162 rfl w.heap.size 166 i0 _ 2 32 Try.underlying162 hi hz0 hz1 hz2 rfl (by decide) _ 0 [] rfl hown T ao1 n1 k1 cs1 rfl hs1 L1.out O1.out (by unfold maxLen; omega) (by omega) hsz ?_)
          intro v5 w5 hown5 hgr5
          have m5 := m4.trans' (Mod.of_grown hgr5) (fun i hi h => by have := (hown.lt i h).1; omega)
          have M5 := Lib.hid m5; have O5 := Lib.hid hown5
          clear hgr5 hown5 m5 hown
          go_wp2_with fail
          exact ⟨⟨M5.out, .inr (.inl ⟨rfl, by have := O5.out; simpa using this⟩)⟩, by simp [intOf]⟩
        · go_wp2_with (at_builtin; refine wpList_app _ rfl _ _ 162 rfl w.heap.size 166 i0 _ 2 32 Try.underlying162 hi hz0 hz1 hz2 rfl (by decide) _ n1 cs1 rfl hown T ao2 n2 k2 cs2 rfl hs2 L2.out O2.out (by unfold maxLen; omega) (by omega) hsz ?_)
          intro v5 w5 hown5 hgr5
          have m5 := m4.trans' (Mod.of_grown hgr5) (fun i hi h => by have := (hown.lt i h).1; omega)
          have M5 := Lib.hid m5; have O5 := Lib.hid hown5
          clear hgr5 hown5 m5 hown
          go_wp2_with fail
          exact ⟨⟨M5.out, .inr (.inr ⟨rfl, O5.out⟩)⟩, by simp [intOf]⟩
        · have Ho := Lib.hid hown
          clear hown
          go_wp2_with fail
          go_ret
          exact ⟨_, rfl, m4, Ho.out⟩
end Go.Proofs.Ytgokmkceplkngaa

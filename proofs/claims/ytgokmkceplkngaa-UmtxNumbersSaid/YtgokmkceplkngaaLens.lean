import Derived.Test.YtgokmkceplkngaaRd2
import Derived.Test.YtgokmkceplkngaaSeqnum
set_option maxRecDepth 100000
set_option maxHeartbeats 1000000
set_option linter.unusedVariables false
set_option linter.unusedSimpArgs false
namespace Go.Proofs.Ytgokmkceplkngaa
open Go Go.RowKit
theorem Try.infoInt : (Try.prog.info? 3).map (fun i => (i.zero, i.size, i.bytes)) = some (some (.int .i64 0), 1, 8) := by kernel_rfl

/-- A whole number from 0 on as an int. -/
abbrev VI (n : Nat) : Value := .int .i64 (n : Int)
theorem vi_one (zs : List Nat) : ∀ u ∈ zs.map VI, u.oneCell' = true := by
  intro u hu; obtain ⟨c, _, rfl⟩ := List.mem_map.1 hu; rfl

/-- How many bytes n lengths of W bits have. -/
def lsz (n W : Nat) : Nat := if 1 ≤ n ∧ n ≤ 23 then (n * (W + 1) + 7) / 8 else 0
/-- Lengths as bits: ahead of each: does another one follow? -/
def lenBits (W : Nat) : List Nat → List Bool
  | [] => []
  | n :: l => (!l.isEmpty) :: (bitsN W n ++ lenBits W l)

theorem lens_isWidth (W : Nat) (hW : W = 11 ∨ W = 15) (w : World) : Calls Try.prog 117 #[.int .i64 (W : Nat)] w fun e w' => e = .returned (.bool true) ∧ w = w' := by
  rcases hW with rfl | rfl
  all_goals
    go_enter Try.func117, Try.ntmps117
    go_wp2_with fail
    go_ret
    exact ⟨rfl, rfl⟩

theorem lens_Size (n W : Nat) (hW : W = 11 ∨ W = 15) (hn : n ≤ 9223372036854775807) (w : World) : Calls Try.prog 106 #[.int .i64 (n : Nat), .int .i64 (W : Nat)] w fun e w' => e = .returned (.int .i64 (lsz n W : Nat)) ∧ w = w' := by
  go_enter Try.func106, Try.ntmps106
  go_wp2_with (go_at_call 117; refine (lens_isWidth W hW _).mono ?_)
  rintro e w1 ⟨rfl, rfl⟩
  by_cases h1 : 1 ≤ n
  · by_cases h2 : n ≤ 23
    · rcases hW with rfl | rfl
      all_goals
        go_wp2_with fail
        go_ret
        refine ⟨ret_int ?_, rfl⟩
        unfold lsz; rw [if_pos ⟨h1, h2⟩]; omega
    · go_wp2_with fail
      go_ret
      refine ⟨ret_int ?_, rfl⟩
      unfold lsz; rw [if_neg (by omega)]; rfl
  · go_wp2_with fail
    go_ret
    refine ⟨ret_int ?_, rfl⟩
    unfold lsz; rw [if_neg (by omega)]; rfl

theorem lenBits_snoc (W : Nat) (l : List Nat) (n : Nat) : lenBits W (l ++ [n]) = (l.flatMap fun m => true :: bitsN W m) ++ (false :: bitsN W n) := by
  induction l with
  | nil => simp [lenBits]
  | cons m l ih => simp [lenBits, ih]
/-- The first j of lengths, as bits. -/
def lenBitsTo (W : Nat) (l : List Nat) (j : Nat) : List Bool := (List.range j).flatMap fun i => (decide (i + 1 < l.length)) :: bitsN W (l.getD i 0)
theorem lenBitsTo_succ (W : Nat) (l : List Nat) (j : Nat) : lenBitsTo W l (j + 1) = lenBitsTo W l j ++ ([decide (j + 1 < l.length)] ++ bitsN W (l.getD j 0)) := by
  simp [lenBitsTo, List.range_succ]
theorem lenBitsTo_all (W : Nat) (l : List Nat) : lenBitsTo W l l.length = lenBits W l := by
  induction l with
  | nil => rfl
  | cons n l ih =>
    simp only [lenBitsTo, lenBits, List.length_cons, List.range_succ_eq_map, List.flatMap_cons, List.flatMap_map] at *
    rw [← ih]
    cases l <;> simp
theorem lenBitsTo_length (W : Nat) (l : List Nat) (j : Nat) : (lenBitsTo W l j).length = j * (W + 1) := by
  induction j with
  | zero => simp [lenBitsTo]
  | succ j ih => rw [lenBitsTo_succ]; simp [ih, Nat.add_mul]

theorem lens_Write (W : Nat) (hW : W = 11 ∨ W = 15) (T : Nat → Prop) (ao : Option Addr) (cap : Nat) (l : List Nat) (w : World) (hs : Seg w T ao l.length cap (l.map VI)) (h1 : 1 ≤ l.length) (h2 : l.length ≤ 23) (hl : ∀ n ∈ l, 1 ≤ n ∧ n < 2 ^ W) (hT : ∀ k, k < w.heap.size → T k → k < w.heap.size) :
    Calls Try.prog 111 #[.slice ao l.length cap, .int .i64 (W : Nat)] w fun e w' => ∃ v bs, e = .returned (.tuple #[v, .int .i64 0]) ∧ Mod Nil w w' ∧ w'.ownsRow w.heap.size 5 1 v bs.length (bs.map V8) ∧ Packs bs (lenBits W l) := by
  obtain ⟨b, off, rfl, _, hlt, hcells⟩ := hs.get (j := 0) (by rw [List.length_map]; omega)
  have Hc := Lib.hid hcells; clear hcells
  have Hl := Lib.hid hl; clear hl
  go_enter Try.func111, Try.ntmps111
  go_wp2_with (first | (go_at_call 117; refine (lens_isWidth W hW _).mono ?_; rintro e w1 ⟨rfl, rfl⟩) | (go_at_call 108; refine (New_wr _).mono ?_))
  rintro e w1 ⟨p, rfl, hm, hw⟩
  go_wp2_with fail
  go_loopw [25] (fun i wr => ∃ j : Nat, j ≤ l.length ∧ i = .int .i64 (j : Nat) ∧ Mod Nil w wr ∧ Wr wr p w.heap.size (lenBitsTo W l j)) (fun i _ => l.length - (intOf i).toNat)
  case atStart => exact ⟨0, Nat.zero_le _, rfl, hm, hw⟩
  case round =>
    obtain ⟨j, hj, rfl, hmr, hwr⟩ := hrel
    have hbl := lenBitsTo_length W l j
    by_cases hlt : j < l.length
    · have hge := hmr.size
      have d0 : wr.cell? ⟨b, off + j, none⟩ = some (VI (l.getD j 0)) := by
        rw [hmr.cell (by assumption) (fun h => h)]
        exact Hc.out _ _ (by rw [List.getElem?_map, List.getD_eq_getElem?_getD, List.getElem?_eq_getElem hlt]; rfl)
      obtain ⟨n, hn⟩ : ∃ n, l.getD j 0 = n := ⟨_, rfl⟩
      rw [hn] at d0
      have hnl : 1 ≤ n ∧ n < 2 ^ W := by
        rw [← hn, List.getD_eq_getElem?_getD, List.getElem?_eq_getElem hlt]
        exact Hl.out _ (List.getElem_mem hlt)
      have hlen : (lenBitsTo W l j).length ≤ 400 := by
        rw [hbl]
        have : j * (W + 1) ≤ 23 * 16 := Nat.mul_le_mul (by omega) (by omega)
        omega
      have hnext := lenBitsTo_succ W l j
      rw [hn] at hnext
      have Hnext := Lib.hid hnext
      clear hbl hnext hn
      have Hnl := Lib.hid hnl; clear hnl
      have hn0 : 1 ≤ (n : Int) := by have := Hnl.out; omega
      have hnM : (n : Int) < 32768 := by
        have := Hnl.out.2
        have h2 : 2 ^ W ≤ 2 ^ 15 := Nat.pow_le_pow_right (by decide) (by omega)
        omega
      have hsh := wrap_pow_16 W (by omega)
      have hge2 : decide (wrap64 ((2 : Int) ^ W) ≤ (n : Int)) = false := by
        rw [hsh]; exact decide_eq_false (by have := Hnl.out.2; omega)
      have huw : IntKind.u64.wrap (n : Int) = (n : Int) := IntWalk.u64_in _ (by omega)
      clear hnM
      have hW0 : (W : Int) ≤ 15 := by omega
      have Hlen := Lib.hid hlen; clear hlen
      have Hw := Lib.hid hW; clear hW hsh
      by_cases hlast : j + 1 < l.length
      · have Hlast := Lib.hid hlast
        go_wp2_with fail
        refine (Put_any p w.heap.size _ 1 1 wr hwr (by omega) (by omega) (by have := Hlen.out; omega)).mono ?_
        rintro e w2 ⟨rfl, hm2, hw2⟩
        go_wp2_with fail
        refine (Put_any p w.heap.size _ n W w2 hw2 (by omega) Hnl.out.2 (by have := Hlen.out; simp only [List.length_append, bitsN_length]; omega)).mono ?_
        rintro e w3 ⟨rfl, hm3, hw3⟩
        go_wp2_with fail
        go_roundw
        case rel =>
          refine ⟨j + 1, by omega, by go_num, hmr.trans' (hm2.trans hm3) (fun i hi h => absurd h (by unfold From; omega)), ?_⟩
          rw [Hnext.out, ← List.append_assoc, show decide (j + 1 < l.length) = true by simpa using Hlast.out]
          exact hw3
        case measure => simp [intOf]; omega
      · have Hlast := Lib.hid hlast
        go_wp2_with fail
        refine (Put_any p w.heap.size _ 0 1 wr hwr (by omega) (by omega) (by have := Hlen.out; omega)).mono ?_
        rintro e w2 ⟨rfl, hm2, hw2⟩
        go_wp2_with fail
        refine (Put_any p w.heap.size _ n W w2 hw2 (by omega) Hnl.out.2 (by have := Hlen.out; simp only [List.length_append, bitsN_length]; omega)).mono ?_
        rintro e w3 ⟨rfl, hm3, hw3⟩
        go_wp2_with fail
        go_roundw
        case rel =>
          refine ⟨j + 1, by omega, by go_num, hmr.trans' (hm2.trans hm3) (fun i hi h => absurd h (by unfold From; omega)), ?_⟩
          rw [Hnext.out, ← List.append_assoc, show decide (j + 1 < l.length) = false by simpa using Hlast.out]
          exact hw3
        case measure => simp [intOf]; omega
    · obtain rfl : j = l.length := by omega
      go_wp2_with fail
      refine (Bytes_any p w.heap.size _ wr hwr (by rw [hbl]; have : l.length * (W + 1) ≤ 23 * 16 := Nat.mul_le_mul (by omega) (by omega); omega)).mono ?_
      rintro e w2 ⟨v, bs, rfl, hm2, hown, hpk⟩
      go_wp2_with fail
      go_ret2
      rw [lenBitsTo_all] at hpk
      exact ⟨v, bs, rfl, hmr.trans hm2, own_mono hown hmr.size, hpk⟩
end Go.Proofs.Ytgokmkceplkngaa

import Derived.Test.YtgokmkceplkngaaUmd2
set_option maxRecDepth 100000
set_option maxHeartbeats 1000000
set_option linter.unusedVariables false
set_option linter.unusedSimpArgs false
namespace Go.Proofs.Ytgokmkceplkngaa
open Go Go.RowKit

/-- What umd.Size tells. -/
def uSize (b h : Nat) (fi sn : Int) (fs : List (List UInt8)) : Nat := if 0 ≤ fi ∧ fi ≤ 3 ∧ 0 ≤ sn ∧ sn < (2 ^ b : Nat) then sizeOf h 11 fs else 0

theorem umd_Size (fi sn : Int) (b h : Nat) (hb : b = 5 ∧ h = 1 ∨ b = 10 ∧ h = 2) (T : Nat → Prop) (ao : Option Addr) (cap : Nat) (fs : List (List UInt8)) (w : World) (hr : Rows w T ao cap fs) (hl : ∀ j, j < fs.length → (fs.getD j []).length ≤ 9223372036854770000) :
    Calls Try.prog 150 #[.agg #[.int .i64 fi, .int .i64 sn, .slice ao fs.length cap], .int .i64 (b : Nat)] w fun e w' => e = .returned (.int .i64 (uSize b h fi sn fs : Nat)) ∧ Mod Nil w w' := by
  have hb' : b = 5 ∨ b = 10 := by omega
  have hb1 : 1 ≤ b ∧ b ≤ 16 := by omega
  obtain ⟨R, hR⟩ : ∃ R, uSize b h fi sn fs = R := ⟨_, rfl⟩
  rw [hR]
  have HR := Lib.hid hR; clear hR
  have Hl := Lib.hid hl; clear hl
  go_enter Try.func150, Try.ntmps150
  by_cases h1 : 0 ≤ fi
  · by_cases h2 : fi ≤ 3
    · go_wp2_with (go_at_call 54; refine (umd_isWidth b hb' _).mono ?_; rintro e w1 ⟨rfl, rfl⟩)
      refine (Is_any b sn _ hb1.1 hb1.2).mono ?_
      rintro e w1 ⟨rfl, hm⟩
      have hm0 : Mod Nil w w1 := hm.of_alloc.of_alloc
      have c0 : w1.cell? ⟨w.heap.size, 0, none⟩ = some (.int .i64 fi) := hm.of_alloc.boxed (fun h => h) 0
      have c1 : w1.cell? ⟨w.heap.size, 1, none⟩ = some (.int .i64 sn) := hm.of_alloc.boxed (fun h => h) 1
      have c2 : w1.cell? ⟨w.heap.size, 2, none⟩ = some (.slice ao fs.length cap) := hm.of_alloc.boxed (fun h => h) 2
      obtain ⟨t, ht⟩ : ∃ t, decide (0 ≤ sn ∧ sn < ((2 ^ b : Nat) : Int)) = t := ⟨_, rfl⟩
      rw [ht]
      have Ht := Lib.hid ht; clear ht hm
      cases t with
      | true =>
        go_wp2_with fail
        refine (umd_size fi sn b h hb T ao cap fs w1 (hr.mod hm0 (fun _ _ _ h => h)) Hl.out).mono ?_
        rintro e w2 ⟨rfl, hm2⟩
        go_wp2_with fail
        go_ret
        refine ⟨ret_int ?_, hm0.trans hm2⟩
        rw [← HR.out, uSize, if_pos ⟨h1, h2, of_decide_eq_true Ht.out⟩]
      | false =>
        go_wp2_with fail
        go_ret
        refine ⟨ret_int ?_, hm0⟩
        rw [← HR.out, uSize, if_neg (fun hx => of_decide_eq_false Ht.out hx.2.2)]; rfl
    · go_wp2_with (go_at_call 54; refine (umd_isWidth b hb' _).mono ?_; rintro e w1 ⟨rfl, rfl⟩)
      go_ret
      refine ⟨ret_int ?_, ((Mod.refl _ _).alloc _).alloc _⟩
      rw [← HR.out, uSize, if_neg (by omega)]; rfl
  · go_wp2_with (go_at_call 54; refine (umd_isWidth b hb' _).mono ?_; rintro e w1 ⟨rfl, rfl⟩)
    go_ret
    refine ⟨ret_int ?_, ((Mod.refl _ _).alloc _).alloc _⟩
    rw [← HR.out, uSize, if_neg (by omega)]; rfl

theorem umd_Right (fi sn : Int) (b h : Nat) (hb : b = 5 ∧ h = 1 ∨ b = 10 ∧ h = 2) (T : Nat → Prop) (ao : Option Addr) (cap : Nat) (fs : List (List UInt8)) (w : World) (hr : Rows w T ao cap fs) (hl : ∀ j, j < fs.length → (fs.getD j []).length ≤ 9223372036854770000) :
    Calls Try.prog 107 #[.agg #[.int .i64 fi, .int .i64 sn, .slice ao fs.length cap], .int .i64 (b : Nat)] w fun e w' => e = .returned (.bool (decide (0 < uSize b h fi sn fs))) ∧ Mod Nil w w' := by
  obtain ⟨R, hR⟩ : ∃ R, uSize b h fi sn fs = R := ⟨_, rfl⟩
  rw [hR]
  have HR := Lib.hid hR; clear hR
  go_enter Try.func107, Try.ntmps107
  go_wp2_with fail
  refine (umd_Size fi sn b h hb T ao cap fs _ (hr.mod ((Mod.refl Nil _).alloc _) (fun _ _ _ h => h)) hl).mono ?_
  rintro e w1 ⟨rfl, hm⟩
  rw [HR.out]
  go_wp2_with fail
  go_ret
  exact ⟨by simp, hm.of_alloc⟩

/-- umd.lengths: how long all fields but the last are. -/
theorem umd_lengths (T : Nat → Prop) (ao : Option Addr) (cap : Nat) (fs : List (List UInt8)) (w : World) (hr : Rows w T ao cap fs) (h1 : 1 ≤ fs.length) (h2 : fs.length ≤ 24) :
    Calls Try.prog 112 #[.slice ao fs.length cap] w fun e w' => ∃ v, e = .returned v ∧ Mod Nil w w' ∧ w'.ownsRow w.heap.size 3 1 v (fs.length - 1) ((fs.dropLast.map List.length).map VI) := by
  obtain ⟨i0, hi, hz0, hz1, hz2⟩ := info_parts Try.infoInt
  obtain ⟨bb, off, rfl, _, hblt, hcells⟩ := hr.get (i := 0) (by omega)
  have hlen := hr.len
  obtain ⟨n, hn⟩ : ∃ n, fs.length = n + 1 := ⟨fs.length - 1, by omega⟩
  have e1 : (fs.length : Int) - 1 = (n : Int) := by omega
  have hnc : (n : Int) ≤ (cap : Int) := by omega
  have Hc := Lib.hid hcells; clear hcells
  have hn23 : n ≤ 23 := by omega
  have Hn := Lib.hid hn; clear hn
  go_enter Try.func112, Try.ntmps112
  go_wp2_with fail
  go_loopw [3, 12] (fun v i wr => ∃ j : Nat, j ≤ n ∧ i = .int .i64 (j : Nat) ∧ Mod Nil w wr ∧ wr.ownsRow w.heap.size 3 1 v j (((fs.take j).map List.length).map VI)) (fun _ i _ => n - (intOf i).toNat)
  case atStart => exact ⟨0, Nat.zero_le _, rfl, Mod.refl _ _, World.ownsRow_nil _ _ _ _⟩
  case round =>
    obtain ⟨j, hj, rfl, hm, hown⟩ := hrel
    by_cases hlt : j < n
    · obtain ⟨aj, cj, hcell, hseg⟩ := Hc.out j (by have := Hn.out; omega)
      obtain ⟨f, hf⟩ : ∃ f, (fs.getD j []).length = f := ⟨_, rfl⟩
      rw [hf] at hcell
      have hcell' : wr.cell? ⟨bb, off + j, none⟩ = some (.slice aj f cj) := by rw [hm.cell (by assumption) (fun h => h)]; exact hcell
      have hsz := hm.size
      have Hf := Lib.hid hf; clear hf hseg hcell
      go_wp2_with (at_builtin; refine wpList_app _ rfl _ _ 61 rfl w.heap.size 3 i0 (.int .i64 0) 1 8 Try.underlying61 hi hz0 hz1 hz2 rfl (by decide) _ _ _ rfl (hown.alloc _) (From wr.heap.size) (some ⟨wr.heap.size, 0, none⟩) 1 1 [VI f] rfl (seg_new wr #[VI f] 3 1 (by omega)) rfl (vi_one [f]) (by unfold maxLen; omega) (by omega) (by simp; omega) ?_)
      intro v1 w4 hown4 hgrow
      have hmg := hm.trans' (((Mod.refl (BlockOf u3) wr).alloc _).trans (Mod.of_grown hgrow)) (fun i hi h => by have := (hown.lt i h).1; omega)
      have hown5 : w4.ownsRow w.heap.size 3 1 v1 (j + 1) (((fs.take (j + 1)).map List.length).map VI) := by
        have hjl : j < fs.length := by have := Hn.out; omega
        rw [List.take_add_one, List.map_append, List.map_append, List.getElem?_eq_getElem hjl]
        have h5 := Hf.out
        rw [List.getD_eq_getElem?_getD, List.getElem?_eq_getElem hjl] at h5
        simp only [Option.getD_some] at h5
        simp only [Option.toList_some, List.map_cons, List.map_nil, h5]
        simpa using hown4
      clear hown4 hgrow
      have Hm := Lib.hid hmg; have Ho := Lib.hid hown5
      clear hmg hown5
      go_wp2_with fail
      first
      | (go_roundw
         case rel => exact ⟨j + 1, by omega, by go_num, Hm.out, Ho.out⟩
         case measure => simp [intOf]; omega)
      | exact ⟨⟨j + 1, by omega, by go_num, Hm.out, Ho.out⟩, by simp [intOf]; omega⟩
    · obtain rfl : j = n := by omega
      go_wp2_with fail
      go_ret
      have h3 : fs.take j = fs.dropLast := by rw [List.dropLast_eq_take, Hn.out]; rfl
      rw [h3] at hown
      exact ⟨_, rfl, hm, by rw [Hn.out]; exact hown⟩
end Go.Proofs.Ytgokmkceplkngaa

import Derived.Test.YtgokmkceplkngaaUmd3
set_option maxRecDepth 100000
set_option maxHeartbeats 2000000
set_option linter.unusedVariables false
set_option linter.unusedSimpArgs false
namespace Go.Proofs.Ytgokmkceplkngaa
open Go Go.RowKit

theorem umd_Write_bad (fi sn : Int) (b h : Nat) (hb : b = 5 ∧ h = 1 ∨ b = 10 ∧ h = 2) (T : Nat → Prop) (ao : Option Addr) (cap : Nat) (fs : List (List UInt8)) (w : World) (hr : Rows w T ao cap fs) (hl : ∀ j, j < fs.length → (fs.getD j []).length ≤ 9223372036854770000) (h0 : uSize b h fi sn fs = 0) :
    Calls Try.prog 52 #[.agg #[.int .i64 fi, .int .i64 sn, .slice ao fs.length cap], .int .i64 (b : Nat)] w fun e w' => e = .returned (.tuple #[.slice none 0 0, .int .i64 3]) ∧ Mod Nil w w' := by
  have hb' : b = 5 ∨ b = 10 := by omega
  have Hl := Lib.hid hl; clear hl
  have H0 := Lib.hid h0; clear h0
  go_enter Try.func52, Try.ntmps52
  go_wp2_with (go_at_call 54; refine (umd_isWidth b hb' _).mono ?_; rintro e w1 ⟨rfl, rfl⟩)
  refine (umd_Right fi sn b h hb T ao cap fs _ (hr.mod ((Mod.refl Nil _).alloc _) (fun _ _ _ h => h)) Hl.out).mono ?_
  rintro e w1 ⟨rfl, hm⟩
  rw [H0.out]
  go_wp2_with fail
  go_ret2
  exact ⟨rfl, hm.of_alloc⟩

/-- The head's bits. -/
def uHead (b h fi sn n : Nat) : List Bool := bitsN (8 * h - 3 - b) 0 ++ bitsN 2 fi ++ [decide (1 < n)] ++ bitsN b sn

theorem umd_Write (fi sn : Nat) (b h : Nat) (hb : b = 5 ∧ h = 1 ∨ b = 10 ∧ h = 2) (T : Nat → Prop) (ao : Option Addr) (cap : Nat) (fs : List (List UInt8)) (w : World) (hr : Rows w T ao cap fs) (hl : ∀ j, j < fs.length → (fs.getD j []).length ≤ 9223372036854770000)
    (hfi : fi ≤ 3) (hsn : sn < 2 ^ b) (h1 : 1 ≤ fs.length) (h2 : fs.length ≤ 24) (hok : ∀ f ∈ fs.dropLast, 1 ≤ f.length ∧ f.length ≤ 2047) (hsum : fieldsSum fs ≤ 4000) (hpos : 0 < uSize b h fi sn fs) :
    Calls Try.prog 52 #[.agg #[.int .i64 (fi : Nat), .int .i64 (sn : Nat), .slice ao fs.length cap], .int .i64 (b : Nat)] w fun e w' => ∃ v hd ls, e = .returned (.tuple #[v, .int .i64 0]) ∧ Mod Nil w w' ∧ w'.ownsRow w.heap.size 5 1 v (hd ++ ls ++ fs.flatten).length ((hd ++ ls ++ fs.flatten).map V8) ∧
      bitsOf hd = uHead b h fi sn fs.length ∧ Packs ls (lenBits 11 (fs.dropLast.map List.length)) := by
  have hb' : b = 5 ∨ b = 10 := by omega
  have Hl := Lib.hid hl; clear hl
  have hpos' : decide (0 < uSize b h fi sn fs) = true := by simpa using hpos
  have Hpos := Lib.hid hpos'; clear hpos hpos'
  have Hok := Lib.hid hok; clear hok
  have hbw : ((8 * h - 3 - b : Nat) : Int) = 8 * (h : Int) - 3 - b := by omega
  have Hbw := Lib.hid hbw; clear hbw
  have hfi4 : fi < 2 ^ 2 := by omega
  have Hfi4 := Lib.hid hfi4; clear hfi4
  have hsn1024 : sn < 1024 := Nat.lt_of_lt_of_le hsn (by rcases hb' with rfl | rfl <;> decide)
  have Hsn := Lib.hid hsn; clear hsn
  have hconv1 : IntKind.u64.wrap (fi : Int) = (fi : Int) := IntWalk.u64_in _ (by omega)
  have hconv2 : IntKind.u64.wrap (sn : Int) = (sn : Int) := IntWalk.u64_in _ (by omega)
  obtain ⟨i0, hi, hz0, hz1, hz2⟩ := info_parts Try.infoU8
  go_enter Try.func52, Try.ntmps52
  go_wp2_with (go_at_call 54; refine (umd_isWidth b hb' _).mono ?_; rintro e w1 ⟨rfl, rfl⟩)
  refine (umd_Right fi sn b h hb T ao cap fs _ (hr.mod ((Mod.refl Nil _).alloc _) (fun _ _ _ h => h)) Hl.out).mono ?_
  rintro e w1 ⟨rfl, hm⟩
  rw [Hpos.out]
  go_wp2_with fail
  refine (New_wr w1).mono ?_
  rintro e w2 ⟨p, rfl, hm2, hw2⟩
  have hm20 := hm.trans hm2
  have hs1 := hm.size
  have c2 : w2.cell? ⟨w.heap.size, 2, none⟩ = some (.slice ao fs.length cap) := hm20.boxed (fun h => h) 2
  obtain ⟨m, hm01⟩ : ∃ m : Nat, m ≤ 1 ∧ (m = 1 ↔ 1 < fs.length) := ⟨if 1 < fs.length then 1 else 0, by split <;> omega, by split <;> omega⟩
  have e1 : min ((fs.length : Int) - 1) 1 = (m : Int) := by omega
  have e2 : IntKind.u64.wrap (m : Int) = (m : Int) := IntWalk.u64_in _ (by omega)
  have hbm : bitsN 1 m = [decide (1 < fs.length)] := by
    have h3 : m = 0 ∨ m = 1 := by omega
    rcases h3 with rfl | rfl
    · have : ¬ 1 < fs.length := by omega
      simp [this, bitsN]
    · have : 1 < fs.length := by omega
      simp [this, bitsN]
  have Hbm := Lib.hid hbm
  have Hm01 := Lib.hid hm01
  clear hm01 hbm
  go_wp2_with (go_at_call 55; refine (umd_head b h hb _).mono ?_; rintro e w1 ⟨rfl, rfl⟩)
  rw [← Hbw.out]
  refine (Put_any p w1.heap.size [] 0 (8 * h - 3 - b) w2 hw2 (by omega) (Nat.two_pow_pos _) (by simp; omega)).mono ?_
  rintro e w3 ⟨rfl, hm3, hw3⟩
  have hm30 : Mod Nil (w.alloc (.cells #[.int .i64 (fi : Int), .int .i64 (sn : Int), .slice ao fs.length cap] 42)) w3 := hm20.trans' hm3 (fun i hi h => by unfold From at h; omega)
  have d0 : w3.cell? ⟨w.heap.size, 0, none⟩ = some (.int .i64 (fi : Int)) := hm30.boxed (fun h => h) 0
  clear c2
  go_wp2_with fail
  refine (Put_any p w1.heap.size _ fi 2 w3 hw3 (by omega) Hfi4.out (by simp; omega)).mono ?_
  rintro e w4 ⟨rfl, hm4, hw4⟩
  have hm40 := hm30.trans' hm4 (fun i hi h => by unfold From at h; omega)
  clear d0
  go_wp2_with fail
  refine (Put_any p w1.heap.size _ m 1 w4 hw4 (by omega) (by have := Hm01.out; omega) (by simp; omega)).mono ?_
  rintro e w5 ⟨rfl, hm5, hw5⟩
  have hm50 := hm40.trans' hm5 (fun i hi h => by unfold From at h; omega)
  have d1 : w5.cell? ⟨w.heap.size, 1, none⟩ = some (.int .i64 (sn : Int)) := hm50.boxed (fun h => h) 1
  go_wp2_with fail
  refine (Put_any p w1.heap.size _ sn b w5 hw5 (by omega) Hsn.out (by simp; omega)).mono ?_
  rintro e w6 ⟨rfl, hm6, hw6⟩
  have hm60 := hm50.trans' hm6 (fun i hi h => by unfold From at h; omega)
  clear d1
  go_wp2_with fail
  refine (Bytes_any p w1.heap.size _ w6 hw6 (by simp; omega)).mono ?_
  rintro e w7 ⟨v7, hd, rfl, hm7, hown7, hpk⟩
  have hm70 := hm60.trans hm7
  have hs6 := hm60.size
  have hs7 := hm7.size
  rw [World.size_alloc] at hs6
  have hhl : hd.length ≤ 2 := by
    have := hpk.length
    simp at this; omega
  have hhd : bitsOf hd = uHead b h fi sn fs.length := by
    unfold Packs at hpk
    rw [hpk, Hbm.out]
    have : pad (([] : List Bool) ++ bitsN (8 * h - 3 - b) 0 ++ bitsN 2 fi ++ [decide (1 < fs.length)] ++ bitsN b sn).length = [] := by
      have h9 : (([] : List Bool) ++ bitsN (8 * h - 3 - b) 0 ++ bitsN 2 fi ++ [decide (1 < fs.length)] ++ bitsN b sn).length % 8 = 0 := by simp; omega
      unfold pad padN; rw [h9]; rfl
    rw [this]; simp [uHead]
  have Hhd := Lib.hid hhd
  clear hpk hhd hw2 hw3 hw4 hw5 hw6 hm2 hm3 hm4 hm5 hm6 hm7 hm20 hm30 hm40 hm50 hm60
  have d2 : w7.cell? ⟨w.heap.size, 2, none⟩ = some (.slice ao fs.length cap) := hm70.boxed (fun h => h) 2
  have hr7 := hr.mod (F := Nil) (hm70.of_alloc) (fun _ _ _ h => h)
  have hfl : fs.flatten.length ≤ 4000 := by
    have : fs.flatten.length = fieldsSum fs := by simp [fieldsSum]
    omega
  obtain ⟨fl, hfe⟩ : ∃ fl, fs.flatten = fl := ⟨_, rfl⟩
  rw [hfe] at hfl
  have Hfe := Lib.hid hfe; clear hfe
  go_wp2_with fail
  · have hmm : 1 < fs.length := by
      have h8 : (m : Int) = 1 := by simp_all
      exact Hm01.out.2.1 (by omega)
    obtain ⟨L, hL⟩ : ∃ L, fs.dropLast.map List.length = L := ⟨_, rfl⟩
    have hLl : L.length = fs.length - 1 := by rw [← hL]; simp
    refine (umd_lengths T ao cap fs w7 hr7 h1 h2).mono ?_
    rintro e w8 ⟨v8, rfl, hm8, hown8⟩
    rw [hL, ← hLl] at hown8
    obtain ⟨ao8, cap8, rfl, hs8⟩ := own_seg hown8
    have hLok : ∀ n ∈ L, 1 ≤ n ∧ n < 2 ^ 11 := by
      intro n hn
      rw [← hL] at hn
      obtain ⟨f, hf, rfl⟩ := List.mem_map.1 hn
      have := Hok.out f hf
      omega
    have hw := lens_Write 11 (.inl rfl) _ ao8 cap8 L w8 hs8 (by omega) (by omega) hLok (fun _ h _ => h)
    have HL := Lib.hid hL; have HLl := Lib.hid hLl; have Hw := Lib.hid hw
    clear hL hLl hLok hw hown8 hs8
    go_wp2_with fail
    refine Hw.out.mono ?_
    rintro e w9 ⟨v9, ls, rfl, hm9, hown9, hpk9⟩
    have hown7' := own_mod hown7 (hm8.trans hm9) (fun _ _ _ h => h)
    have hs8' := hm8.size
    have hs9' := hm9.size
    obtain ⟨ao9, cap9, rfl, hs9⟩ := own_seg hown9
    have hm90 := hm70.trans (hm8.trans hm9)
    have hll : ls.length ≤ 46 := by
      have h9 := hpk9.length
      rw [← lenBitsTo_all, lenBitsTo_length] at h9
      have h10 : L.length * (11 + 1) ≤ 23 * 12 := Nat.mul_le_mul (by have := HLl.out; omega) (by omega)
      omega
    have Hpk9 := Lib.hid hpk9
    clear hm8 hm9 hown9 hpk9 hown7 hr7
    go_wp2_with (at_builtin; refine wpList_app _ rfl _ _ 30 rfl w6.heap.size 5 i0 (.int .u8 0) 1 1 Try.underlying30 hi hz0 hz1 hz2 rfl (by decide) _ _ _ rfl hown7' _ ao9 ls.length cap9 (ls.map V8) rfl hs9 (by simp) (v8_one ls) (by unfold maxLen; omega) (by omega) (by omega) ?_)
    intro v10 w10 hown10 hgrow
    have hmg := hm90.trans' (Mod.of_grown hgrow) (fun i hi h => by have := (hown7'.lt i h).1; rw [World.size_alloc] at hi; omega)
    rw [← List.map_append, ← List.length_append] at hown10
    have hs10 := hgrow.size
    have d3 : w10.cell? ⟨w.heap.size, 2, none⟩ = some (.slice ao fs.length cap) := hmg.boxed (fun h => h) 2
    clear hgrow hown7' d2 hs9 hm90
    obtain ⟨hl, hhl2⟩ : ∃ hl, hd ++ ls = hl := ⟨_, rfl⟩
    rw [hhl2] at hown10
    have hhll : hl.length ≤ 48 := by rw [← hhl2]; simp; omega
    have Hhl2 := Lib.hid hhl2; clear hhl2
    go_wp2_with fail
    have hj := join_any T ao cap fs w10 (hr.mod (F := Nil) hmg.of_alloc (fun _ _ _ h => h)) (by omega) (by omega)
    rw [Hfe.out] at hj
    refine hj.mono ?_
    clear hj
    rintro e w11 ⟨v11, rfl, hm11, ao11, cap11, rfl, hs11⟩
    have hown11 := own_mod hown10 hm11 (fun _ _ _ h => h)
    have hs11' := hm11.size
    have hmg2 := hmg.trans hm11
    clear hown10 hm11 hmg
    go_wp2_with (at_builtin; refine wpList_app _ rfl _ _ 30 rfl w6.heap.size 5 i0 (.int .u8 0) 1 1 Try.underlying30 hi hz0 hz1 hz2 rfl (by decide) _ _ _ rfl hown11 _ ao11 fl.length cap11 (fl.map V8) rfl hs11 (by simp) (v8_one fl) (by unfold maxLen; omega) (by omega) (by omega) ?_)
    intro v12 w12 hown12 hgrow2
    have hmg3 := hmg2.trans' (Mod.of_grown hgrow2) (fun i hi h => by have := (hown11.lt i h).1; rw [World.size_alloc] at hi; omega)
    rw [← List.map_append, ← List.length_append] at hown12
    have Hown12 := Lib.hid hown12
    clear hgrow2 hown11 hown12 hs11
    go_wp2_with fail
    go_ret2
    refine ⟨_, hd, ls, rfl, hmg3.of_alloc, ?_, Hhd.out, by rw [HL.out]; exact Hpk9.out⟩
    rw [Hhl2.out, Hfe.out]
    exact own_mono Hown12.out (by omega)
  · have hmm : ¬ 1 < fs.length := by
      intro hx
      have := Hm01.out.2.2 hx
      simp_all
    have hj := join_any T ao cap fs w7 hr7 (by omega) (by omega)
    rw [Hfe.out] at hj
    refine hj.mono ?_
    clear hj
    rintro e w11 ⟨v11, rfl, hm11, ao11, cap11, rfl, hs11⟩
    have hown11 := own_mod hown7 hm11 (fun _ _ _ h => h)
    have hs11' := hm11.size
    have hmg2 := hm70.trans hm11
    clear hown7 hm11 hm70 hr7
    go_wp2_with (at_builtin; refine wpList_app _ rfl _ _ 30 rfl w6.heap.size 5 i0 (.int .u8 0) 1 1 Try.underlying30 hi hz0 hz1 hz2 rfl (by decide) _ _ _ rfl hown11 _ ao11 fl.length cap11 (fl.map V8) rfl hs11 (by simp) (v8_one fl) (by unfold maxLen; omega) (by omega) (by omega) ?_)
    intro v12 w12 hown12 hgrow2
    have hmg3 := hmg2.trans' (Mod.of_grown hgrow2) (fun i hi h => by have := (hown11.lt i h).1; rw [World.size_alloc] at hi; omega)
    rw [← List.map_append, ← List.length_append] at hown12
    have Hown12 := Lib.hid hown12
    clear hgrow2 hown11 hown12 hs11
    go_wp2_with fail
    go_ret2
    have hdl : fs.dropLast = [] := List.eq_nil_of_length_eq_zero (by simp; omega)
    refine ⟨_, hd, [], rfl, hmg3.of_alloc, ?_, Hhd.out, by rw [hdl]; exact Packs.nil⟩
    rw [List.append_nil, Hfe.out]
    exact own_mono Hown12.out (by omega)
end Go.Proofs.Ytgokmkceplkngaa

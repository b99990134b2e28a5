import Derived.Test.YtgokmkceplkngaaLens
set_option maxRecDepth 100000
set_option maxHeartbeats 1000000
set_option linter.unusedVariables false
set_option linter.unusedSimpArgs false
namespace Go.Proofs.Ytgokmkceplkngaa
open Go Go.RowKit
/-- Lengths out of bits, from a place on, f more of them at most: the error, and the lengths. -/
def lensGo (W : Nat) (bs : List Bool) : Nat → Nat → List Nat → Nat × List Nat
  | 0, _, _ => (2, [])
  | f + 1, k, acc =>
    if bs.length < k + 1 then (8, []) else
    if bs.length < k + 1 + W then (8, []) else
    if ofBits ((bs.drop (k + 1)).take W) = 0 then (3, []) else
    if ofBits ((bs.drop k).take 1) = 1 then lensGo W bs f (k + 1 + W) (acc ++ [ofBits ((bs.drop (k + 1)).take W)])
    else if ofBits ((bs.drop (k + 1 + W)).take (toByte (k + 1 + W))) ≠ 0 then (3, []) else (0, acc ++ [ofBits ((bs.drop (k + 1)).take W)])
/-- What lens.Read tells of bytes. -/
def lensRead (W : Nat) (bs : List UInt8) : Nat × List Nat := lensGo W (bitsOf (bs.take (lsz 23 W))) 23 0 []

theorem lens_Read (W : Nat) (hW : W = 11 ∨ W = 15) (T : Nat → Prop) (ao : Option Addr) (cap : Nat) (bs : List UInt8) (w : World) (hs : Seg w T ao bs.length cap (bs.map V8)) :
    Calls Try.prog 58 #[.slice ao bs.length cap, .int .i64 (W : Nat)] w fun e w' => ∃ lv, e = .returned (.tuple #[lv, .int .i64 (lsz (lensRead W bs).2.length W : Nat), .int .i64 ((lensRead W bs).1 : Nat)]) ∧ Mod Nil w w' ∧
      w'.ownsRow w.heap.size 3 1 lv (lensRead W bs).2.length ((lensRead W bs).2.map VI) := by
  obtain ⟨R, hR⟩ : ∃ R, lensRead W bs = R := ⟨_, rfl⟩
  rw [hR]
  have hle := hs.le
  have hmx := hs.max
  have hsz : lsz 23 W ≤ 46 := by rcases hW with rfl | rfl <;> decide
  obtain ⟨k, hk⟩ : ∃ k, min bs.length (lsz 23 W) = k := ⟨_, rfl⟩
  have hmin : min (bs.length : Int) ((lsz 23 W : Nat) : Int) = (k : Int) := by omega
  have hkl : k ≤ bs.length := by omega
  have hpre := hs.pre k (by simp) hkl
  rw [← List.map_take] at hpre
  have htk : bs.take k = bs.take (lsz 23 W) := by
    rw [← hk]
    by_cases h : bs.length ≤ lsz 23 W
    · rw [Nat.min_eq_left h, List.take_of_length_le (Nat.le_refl _), List.take_of_length_le h]
    · rw [Nat.min_eq_right (by omega)]
  unfold lensRead at hR
  rw [← htk] at hR
  obtain ⟨cs, hcs⟩ : ∃ cs, bs.take k = cs := ⟨_, rfl⟩
  rw [hcs] at hpre hR
  have hcl : cs.length = k := by rw [← hcs, List.length_take]; omega
  subst hcl
  have hcs46 : cs.length ≤ 46 := by omega
  obtain ⟨bits, hbits⟩ : ∃ bits, bitsOf cs = bits := ⟨_, rfl⟩
  rw [hbits] at hR
  have hbl : bits.length = 8 * cs.length := by rw [← hbits]; simp
  have HR := Lib.hid hR; have Hb := Lib.hid hbits; have Hbl := Lib.hid hbl
  have hk0 : 0 ≤ (cs.length : Int) := by omega
  have hk1 : (cs.length : Int) ≤ (cap : Int) := by omega
  clear hR hbits hbl hk htk hcs
  obtain ⟨i0, hi, hz0, hz1, hz2⟩ := info_parts Try.infoInt
  go_enter Try.func58, Try.ntmps58
  go_wp2_with fail
  refine wp_scope_one 0 (fun a' w' => ∃ (p k : Nat) (acc : List Nat) (T' : Nat → Prop) (ov : Value), w.heap.size ≤ p ∧ (∀ i, T' i → w.heap.size ≤ i ∧ i < p) ∧ acc.length < 23 ∧ k ≤ 400 ∧ k = acc.length * (W + 1) ∧ Hid (lensGo W bits (23 - acc.length) k acc = R) ∧ Mod Nil w w' ∧ Rd w' p T' cs k ∧ w'.ownsRow (p + 1) 3 1 ov acc.length (acc.map VI) ∧
      (∃ u0 u2 u3 u4 u5 u6 u9 u10 u11 u12 u13 u14 u15 u16 u17 u18 u19 u20 u21 u22 u23 u24 u25 u26 u27 u28 u29 u30 u31 u32 u33 u34 u35 u36 u37 u38 u39 u40 u41 u42 u43 u44 u45 u46 u47 u48 u49 u50 u51 u52 u53 u54 u55 u56 u57 u58 u59 u60 u61 u62 u63 u64 u65 u66 u67 u68 : Value, a' = { tmps := #[u0, .int .i64 (W : Nat), u2, u3, u4, u5, u6, ov, .pointer (some ⟨p, 0, none⟩), u9, u10, u11, u12, u13, u14, u15, u16, u17, u18, u19, u20, u21, u22, u23, u24, u25, u26, u27, u28, u29, u30, u31, u32, u33, u34, u35, u36, u37, u38, u39, u40, u41, u42, u43, u44, u45, u46, u47, u48, u49, u50, u51, u52, u53, u54, u55, u56, u57, u58, u59, u60, u61, u62, u63, u64, u65, u66, u67, u68], defers := [] }))
    (fun a' w' => 23 - (sliceLen (a'.tmps.getD 7 undef))) rfl ?_ ?_
  · rintro a' w' ⟨p, k, acc, T', ov, hp, hT', hac, hk400, hkacc, hgo, hm, hrd, hown, ⟨u0, u2, u3, u4, u5, u6, u9, u10, u11, u12, u13, u14, u15, u16, u17, u18, u19, u20, u21, u22, u23, u24, u25, u26, u27, u28, u29, u30, u31, u32, u33, u34, u35, u36, u37, u38, u39, u40, u41, u42, u43, u44, u45, u46, u47, u48, u49, u50, u51, u52, u53, u54, u55, u56, u57, u58, u59, u60, u61, u62, u63, u64, u65, u66, u67, u68, rfl⟩⟩
    have hbl := Hbl.out
    have hrd' := hrd
    obtain ⟨_, _, _, _, _, hcs8, hTp⟩ := hrd'
    obtain ⟨f, hf⟩ : ∃ f, 23 - acc.length = f + 1 := ⟨22 - acc.length, by omega⟩
    have hgo' := hgo.out
    rw [hf] at hgo'
    unfold lensGo at hgo'
    have Hgo := Lib.hid hgo'; have Hf := Lib.hid hf; have Hov := Lib.hid (own_len hown); clear hgo hgo' hf
    by_cases h1 : bits.length < k + 1
    · have hR := Hgo.out
      rw [if_pos h1] at hR
      subst hR
      go_wp2_with fail
      refine (Get_short p T' cs k 1 w' hrd (by omega) (by omega)).mono ?_
      rintro e w2 ⟨rfl, d, rfl⟩
      go_wp2_with fail
      simp only [Exit.jumps]
      go_ret3
      exact ⟨_, rfl, hm.drewN d, World.ownsRow_nil _ _ _ _⟩
    · have hbits := Hb.out
      go_wp2_with fail
      refine (Get_any p T' cs k 1 w' hrd (by omega) (by omega)).mono ?_
      rintro e w2 ⟨rfl, hm2, hrd2⟩
      rw [hbits]
      obtain ⟨m, hmv⟩ : ∃ m, ofBits ((bits.drop k).take 1) = m := ⟨_, rfl⟩
      rw [hmv]
      have hm1 : m ≤ 1 := by
        have := ofBits_lt ((bits.drop k).take 1)
        rw [hmv, List.length_take] at this
        have h2 : 2 ^ (min 1 (bits.drop k).length) ≤ 2 ^ 1 := Nat.pow_le_pow_right (by decide) (by omega)
        omega
      have Hm := Lib.hid hmv; clear hmv hbits
      by_cases h2 : bits.length < k + 1 + W
      · have hR := Hgo.out
        rw [if_neg h1, if_pos h2] at hR
        subst hR
        go_wp2_with fail
        refine (Get_short p T' cs (k + 1) W w2 hrd2 (by omega) (by omega)).mono ?_
        rintro e w3 ⟨rfl, d, rfl⟩
        go_wp2_with fail
        simp only [Exit.jumps]
        go_ret3
        exact ⟨_, rfl, (hm.trans' hm2 (fun i hi h => by cases h; omega)).drewN d, World.ownsRow_nil _ _ _ _⟩
      · go_wp2_with fail
        refine (Get_any p T' cs (k + 1) W w2 hrd2 (by omega) (by omega)).mono ?_
        rintro e w3 ⟨rfl, hm3, hrd3⟩
        rw [Hb.out]
        obtain ⟨n, hn⟩ : ∃ n, ofBits ((bits.drop (k + 1)).take W) = n := ⟨_, rfl⟩
        have hnlt : n < 2 ^ 15 := by
          have h3 := ofBits_lt ((bits.drop (k + 1)).take W)
          rw [hn, List.length_take] at h3
          have h4 : 2 ^ (min W (bits.drop (k + 1)).length) ≤ 2 ^ 15 := Nat.pow_le_pow_right (by decide) (by omega)
          omega
        have hconv : IntKind.i64.wrap (n : Int) = (n : Int) := IntWalk.i64_in _ (by omega)
        have hgo2 := Hgo.out
        rw [if_neg h1, if_neg h2, hn, Hm.out] at hgo2
        rw [hn]
        have Hgo2 := Lib.hid hgo2
        have hm3' : Mod Nil w w3 := hm.trans' (hm2.trans hm3) (fun i hi h => by cases h; omega)
        have hown3 := own_mod hown (hm2.trans hm3) (fun g _ hg h => by cases h; omega)
        clear hn hgo2 Hgo hnlt
        by_cases hn0 : n = 0
        · subst hn0
          have hR := Hgo2.out
          rw [if_pos (by trivial)] at hR
          subst hR
          go_wp2_with fail
          simp only [Exit.jumps]
          go_ret3
          exact ⟨_, rfl, hm3', World.ownsRow_nil _ _ _ _⟩
        · have hn0' : ¬ (n : Int) = 0 := by omega
          have hpsz : p + 1 ≤ w3.heap.size := hrd3.lt
          have hgo3 := Hgo2.out
          rw [if_neg hn0] at hgo3
          have Hgo3 := Lib.hid hgo3
          clear hgo3 Hgo2 hm hrd hown hrd2 hm2 hm3
          go_wp2_with (at_builtin; refine wpList_app _ rfl _ _ 61 rfl (p + 1) 3 i0 (.int .i64 0) 1 8 Try.underlying61 hi hz0 hz1 hz2 rfl (by decide) _ _ _ rfl (hown3.alloc _) (From w3.heap.size) (some ⟨w3.heap.size, 0, none⟩) 1 1 [VI n] rfl (seg_new w3 #[VI n] 3 1 (by omega)) rfl (vi_one [n]) (by unfold maxLen; omega) (by omega) (by simp; omega) ?_)
          intro v1 w4 hown4 hgrow
          have hmg := ((Mod.refl (BlockOf ov) w3).alloc _).trans (Mod.of_grown hgrow)
          have hm4 : Mod Nil w w4 := hm3'.trans' hmg (fun i hi h => by have := (hown3.lt i h).1; omega)
          have hrd4 := hrd3.mod hmg (fun h => by have := (hown3.lt p h).1; omega) (fun i _ hi h => by have h1 := (hown3.lt i h).1; have h2 := (hT' i hi).2; omega)
          have hl4 : (acc ++ [n]).length = acc.length + 1 := by simp
          have hown5 : w4.ownsRow (p + 1) 3 1 v1 (acc ++ [n]).length ((acc ++ [n]).map VI) := by rw [hl4, List.map_append]; exact hown4
          obtain ⟨ao5, cap5, rfl, hsg5⟩ := own_seg hown5
          rw [hl4]
          have Hl4 := Lib.hid hl4
          clear hgrow hmg hrd3 hown4 hl4
          have hkk : k + 1 + W = (acc.length + 1) * (W + 1) := by rw [hkacc, Nat.add_mul]; omega
          have Hkk := Lib.hid hkk
          have Hkacc := Lib.hid hkacc
          clear hkk hkacc
          by_cases hm1' : m = 1
          · subst hm1'
            by_cases hlast : acc.length = 22
            · have hlast' : (acc.length : Int) + 1 = 23 := by omega
              have Hlast := Lib.hid hlast
              have hlen23 : ((acc.length + 1 : Nat) : Int) == 23 := by simp; omega
              clear hlast hlast'
              go_wp2_with fail
              simp only [Exit.jumps]
              go_ret3
              have hR := Hgo3.out
              rw [if_pos (by trivial)] at hR
              obtain rfl : f = 0 := by have := Hf.out; have := Hlast.out; omega
              subst hR
              exact ⟨_, rfl, hm4, World.ownsRow_nil _ _ _ _⟩
            · have hne23 : ¬ (acc.length : Int) + 1 = 23 := by omega
              go_wp2_with fail
              go_step3
              have hgo4 := Hgo3.out
              rw [if_pos (by trivial)] at hgo4
              have hl5 := Hl4.out
              refine ⟨rfl, ⟨p, k + 1 + W, acc ++ [n], T', _, hp, hT', by omega, ?_, ?_, ?_, hm4, hrd4, hown5, ?_⟩, ?_⟩
              · rw [Hkk.out]
                have : (acc.length + 1) * (W + 1) ≤ 23 * 16 := Nat.mul_le_mul (by omega) (by omega)
                omega
              · rw [Hkk.out, hl5]
              · show lensGo W bits (23 - (acc ++ [n]).length) (k + 1 + W) (acc ++ [n]) = R
                rw [show 23 - (acc ++ [n]).length = f by have := Hf.out; omega]; exact hgo4
              · rw [hl5]
                repeat apply Exists.intro
                rfl
              · have := Hov.out
                show 23 - (acc.length + 1) < 23 - sliceLen ov
                omega
          · have hm0 : m = 0 := by omega
            subst hm0
            go_wp2_with fail
            refine (Rest_any p T' cs (k + 1 + W) w4 hrd4).mono ?_
            rintro e w5 ⟨hm5, hres⟩
            have hm6 : Mod Nil w w5 := hm4.trans' hm5 (fun i hi h => by cases h; omega)
            have hR := Hgo3.out
            rw [if_neg (by first | omega | simp)] at hR
            rw [Hb.out] at hres
            rcases hres with ⟨hne, rfl⟩ | ⟨heq, v5, rfl, _⟩
            · rw [if_pos hne] at hR
              have HR5 := Lib.hid hR
              clear hne hR HR
              go_wp2_with fail
              simp only [Exit.jumps]
              go_ret3
              have hR := HR5.out
              subst hR
              exact ⟨_, rfl, hm6, World.ownsRow_nil _ _ _ _⟩
            · rw [if_neg (by simpa using heq)] at hR
              have HR5 := Lib.hid hR
              clear heq hR HR
              have hown6 := own_mod hown5 hm5 (fun g _ hg h => by cases h; omega)
              have Hown6 := Lib.hid hown6
              clear hown6 hown5
              go_wp2_with fail
              have hsz2 := lens_Size (acc.length + 1) W hW (by omega) w5
              refine hsz2.mono ?_
              rintro e w6 ⟨rfl, rfl⟩
              go_wp2_with fail
              simp only [Exit.jumps]
              go_ret3
              have hR := HR5.out
              subst hR
              have hl5 := Hl4.out
              refine ⟨_, ?_, hm6, own_mono Hown6.out (by omega)⟩
              simp only [hl5]
              rfl
  · intro fall
    have Fall := Lib.hid fall; clear fall
    go_wp2_with (go_at_call 117; refine (lens_isWidth W hW _).mono ?_; rintro e w1 ⟨rfl, rfl⟩)
    refine (lens_Size 23 W hW (by omega) _).mono ?_
    rintro e w1 ⟨rfl, rfl⟩
    go_wp2_with fail
    all_goals
      first
      | rw [show lsz 23 W = cs.length by omega]
      | rw [show bs.length = cs.length by omega]
      refine (Read_any T ao cap cs w hpre).mono ?_
      rintro e w1 ⟨p, rfl, hm, hp, T', hT', hrd⟩
      rw [List.take_of_length_le (by omega)] at hrd
      go_wp2_with fail
      go_step3
      go_step
      go_step
      refine Fall.out _ _ ?_
      refine ⟨p, 0, [], T', .slice none 0 0, hp, hT', by simp, by omega, by simp, HR, hm, hrd, World.ownsRow_nil _ _ _ _, ?_⟩
      repeat apply Exists.intro
      rfl
end Go.Proofs.Ytgokmkceplkngaa

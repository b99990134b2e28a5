import Derived.Test.YtgokmkceplkngaaProg
import Derived.Test.YtgokmkceplkngaaSeg
set_option maxRecDepth 100000
set_option maxHeartbeats 1000000
set_option linter.unusedVariables false
set_option linter.unusedSimpArgs false
namespace Go.Proofs.Ytgokmkceplkngaa
open Go Go.RowKit

theorem Right_any (b : Nat) (w : World) (h1 : 1 ≤ b) (h2 : b ≤ 16) : Calls Try.prog 153 #[.agg #[.int .i64 (b : Nat)]] w fun e w' => e = .returned (.bool true) ∧ Mod Nil w w' := by
  have h0 : ¬ (b : Int) = 0 := by omega
  have h1' : 1 ≤ (b : Int) := by omega
  have h2' : (b : Int) ≤ 16 := by omega
  go_enter Try.func153, Try.ntmps153
  go_wp2
  go_ret
  exact ⟨rfl, (Mod.refl _ _).alloc _⟩

theorem two_pow_16 (b : Nat) (h : b ≤ 16) : 2 ^ b ≤ 65536 := Nat.pow_le_pow_right (by decide) h
theorem wrap_pow_16 (b : Nat) (h : b ≤ 16) : wrap64 ((2 : Int) ^ b) = ((2 ^ b : Nat) : Int) := by
  have hp := two_pow_16 b h
  have : ((2 : Int) ^ b) = ((2 ^ b : Nat) : Int) := by simp
  rw [this]; generalize 2 ^ b = x at hp; unfold wrap64; omega

theorem Size_any (b : Nat) (w : World) (h1 : 1 ≤ b) (h2 : b ≤ 16) : Calls Try.prog 115 #[.agg #[.int .i64 (b : Nat)]] w fun e w' => e = .returned (.int .i64 (2 ^ b : Nat)) ∧ Mod Nil w w' := by
  have hw := Lib.hid (wrap_pow_16 b h2)
  go_enter Try.func115, Try.ntmps115
  go_wp2_with (go_at_call 153; refine (Right_any _ _ h1 h2).mono ?_)
  rintro e w1 ⟨rfl, hm⟩
  have c0 : w1.cell? ⟨w.heap.size, 0, none⟩ = some (.int .i64 (b : Nat)) := hm.boxed (fun h => h) 0
  go_wp2_with fail
  go_ret
  exact ⟨ret_int hw.out, hm.of_alloc⟩

theorem Is_any (b : Nat) (n : Int) (w : World) (h1 : 1 ≤ b) (h2 : b ≤ 16) : Calls Try.prog 154 #[.agg #[.int .i64 (b : Nat)], .int .i64 n] w fun e w' => e = .returned (.bool (decide (0 ≤ n ∧ n < (2 ^ b : Nat)))) ∧ Mod Nil w w' := by
  go_enter Try.func154, Try.ntmps154
  by_cases hn : 0 ≤ n
  · go_wp2_with (go_at_call 115; refine (Size_any _ _ h1 h2).mono ?_)
    rintro e w1 ⟨rfl, hm⟩
    go_wp2_with fail
    go_ret
    exact ⟨by simp [hn], hm.of_alloc⟩
  · go_wp2_with fail
    go_ret
    exact ⟨by simp; omega, (Mod.refl _ _).alloc _⟩

/-- Are numbers all of a space? -/
def allIn (b : Nat) (zs : List Int) : Bool := zs.all fun n => decide (0 ≤ n ∧ n < (2 ^ b : Nat))
theorem ask_any (b : Nat) (T : Nat → Prop) (ao : Option Addr) (cap : Nat) (zs : List Int) (w : World) (h1 : 1 ≤ b) (h2 : b ≤ 16) (hs : Seg w T ao zs.length cap (zs.map (Value.int .i64))) :
    Calls Try.prog 114 #[.agg #[.int .i64 (b : Nat)], .slice ao zs.length cap] w fun e w' => e = .returned (.int .i64 (if allIn b zs then 0 else 1)) ∧ Mod Nil w w' := by
  have hmax := hs.max
  have hle := hs.le
  go_enter Try.func114, Try.ntmps114
  go_wp2_with fail
  refine wp_scope_one 0 (fun a' w' => ∃ j : Nat, j ≤ zs.length ∧ allIn b (zs.take j) = true ∧ Mod Nil w w' ∧ w'.cell? ⟨w.heap.size, 0, none⟩ = some (.int .i64 (b : Nat)) ∧ (∃ u0 u3 u6 u7 u8 u9 u10 u11 u12 u13 u14 u15 u16 u17 u18 u19 u20 u21 : Value, a' = { tmps := #[u0, .slice ao zs.length cap, .pointer (some ⟨w.heap.size, 0, none⟩), u3, .int .i64 0, .int .i64 (j : Nat), u6, u7, u8, u9, u10, u11, u12, u13, u14, u15, u16, u17, u18, u19, u20, u21], defers := [] }))
    (fun a' _ => zs.length - (intOf (a'.tmps.getD 5 undef)).toNat) rfl ?_ ?_
  · rintro a' w' ⟨j, hj, hall, hm, hc, ⟨u0, u3, u6, u7, u8, u9, u10, u11, u12, u13, u14, u15, u16, u17, u18, u19, u20, u21, rfl⟩⟩
    by_cases hpos : j < zs.length
    · obtain ⟨bb, off, rfl, _, hlt, hcells⟩ := (hs.mod hm (fun _ _ _ h => h)).get (j := j) (by simpa using hpos)
      obtain ⟨x, hx⟩ : ∃ x, zs[j]? = some x := ⟨_, List.getElem?_eq_getElem hpos⟩
      have d0 : w'.cell? ⟨bb, off + j, none⟩ = some (.int .i64 x) := hcells _ _ (by rw [List.getElem?_map, hx]; rfl)
      have Hx := Lib.hid hx
      clear hcells hx
      have e1 : 0 ≤ (j : Int) := by omega
      have e2 : (j : Int) < (zs.length : Int) := by omega
      have Hall := Lib.hid hall; clear hall
      go_wp2_with fail
      refine wp_region_still_tail 5 (by kernel_rfl) (by kernel_rfl) ?_
      simp only [List.take_succ_cons, List.take_zero, List.drop_succ_cons, List.drop_zero]
      change wpStill _ _ w'.drew _ _ _
      repeat (refine wpStill_step (fun K hK => ?_); go_simp; refine hK _ ?_; clear hK K)
      refine wpStill_nil ?_
      change wpList _ _ _ _ _ w'.drew
      go_wp2_with fail
      refine (Is_any b x _ h1 h2).mono ?_
      rintro e w2 ⟨rfl, hm2⟩
      have hxall : allIn b (zs.take (j + 1)) = decide (0 ≤ x ∧ x < (2 ^ b : Nat)) := by
        have := Hall.out
        unfold allIn at this ⊢
        rw [List.take_add_one, Hx.out, List.all_append, this]; simp
      have Hxall := Lib.hid hxall; clear hxall
      obtain ⟨t, ht⟩ : ∃ t, decide (0 ≤ x ∧ x < ((2 ^ b : Nat) : Int)) = t := ⟨_, rfl⟩
      rw [ht]
      have Ht := Lib.hid ht; clear ht
      have hm3 := hm.drew.trans hm2
      have c2 : w2.cell? ⟨w.heap.size, 0, none⟩ = some (.int .i64 (b : Nat)) := by
        rw [hm2.cell (w := w'.drew) (World.block_lt_of_cell? w' _ hc) (fun h => h)]; exact hc
      cases t with
      | true =>
        go_wp2_with fail
        go_step3
        refine ⟨rfl, ⟨j + 1, by omega, by rw [Hxall.out, Ht.out], hm3, c2, ?_⟩, ?_⟩
        · repeat apply Exists.intro
          rfl
        · simp [intOf]; omega
      | false =>
        go_wp2_with fail
        simp only [Exit.jumps]
        go_ret
        refine ⟨ret_int ?_, hm3⟩
        have : allIn b zs = false := by
          have h3 := Hxall.out
          rw [Ht.out] at h3
          unfold allIn at h3 ⊢
          rw [← List.take_append_drop (j + 1) zs, List.all_append, h3]; rfl
        rw [this]; rfl
    · obtain rfl : j = zs.length := by omega
      have Hall := Lib.hid hall; clear hall
      go_wp2_with fail
      simp only [Exit.jumps]
      go_ret
      have := Hall.out
      rw [List.take_length] at this
      exact ⟨ret_int (by rw [this]; rfl), hm⟩
  · intro fall
    go_wp2_with (go_at_call 153; refine (Right_any _ _ h1 h2).mono ?_)
    rintro e w1 ⟨rfl, hm⟩
    go_wp2_with fail
    go_step3
    go_step
    go_step
    refine fall _ _ ?_
    refine ⟨0, Nat.zero_le _, rfl, hm.of_alloc, hm.boxed (fun h => h) 0, ?_⟩
    repeat apply Exists.intro
    rfl

theorem mask_i64 (x : Int) (i : Nat) (hi : i ≤ 62) : bits .and .i64 x (((2 ^ i : Nat) : Int) - 1) = x % ((2 ^ i : Nat) : Int) := by
  have hpos : 0 < 2 ^ i := Nat.two_pow_pos i
  have hlt : 2 ^ i ≤ 2 ^ 62 := Nat.pow_le_pow_right (by decide) hi
  have hc : (((2 ^ i : Nat) : Int) - 1) = ((2 ^ i - 1 : Nat) : Int) := by omega
  have hdvd : ((2 ^ i : Nat) : Int) ∣ ((2 ^ 64 : Nat) : Int) := by
    have : (2 ^ i : Nat) ∣ 2 ^ 64 := Nat.pow_dvd_pow 2 (by omega)
    exact_mod_cast this
  have h1 : (BitVec.ofInt 64 (((2 ^ i : Nat) : Int) - 1)).toNat = 2 ^ i - 1 := by
    rw [hc, BitVec.ofInt_natCast, BitVec.toNat_ofNat]; exact Nat.mod_eq_of_lt (by omega)
  have h2 : (BitVec.ofInt 64 x).toNat = (x % ((2 ^ 64 : Nat) : Int)).toNat := BitVec.toNat_ofInt x
  have h3 : 0 ≤ x % ((2 ^ 64 : Nat) : Int) := Int.emod_nonneg _ (by decide)
  have h4 : (((x % ((2 ^ 64 : Nat) : Int)).toNat % 2 ^ i : Nat) : Int) = x % ((2 ^ i : Nat) : Int) := by
    rw [Int.natCast_emod, Int.toNat_of_nonneg h3, Int.emod_emod_of_dvd _ hdvd]
  have h5 : 0 ≤ x % ((2 ^ i : Nat) : Int) := Int.emod_nonneg _ (by omega)
  have h6 : x % ((2 ^ i : Nat) : Int) < ((2 ^ i : Nat) : Int) := Int.emod_lt_of_pos _ (by omega)
  show IntKind.i64.wrap (((BitVec.ofInt 64 x &&& BitVec.ofInt 64 (((2 ^ i : Nat) : Int) - 1)).toNat : Nat) : Int) = _
  rw [BitVec.toNat_and, h1, h2, Nat.and_two_pow_sub_one_eq_mod, h4]
  exact IntWalk.i64_in _ (by omega)

/-- A list that buildSlice has laid. -/
theorem seg_new (w : World) (cs : Array Value) (t : TypeId) (n : Nat) (hn : n ≤ 9223372036854775807) : Seg (w.alloc (.cells cs t)) (From w.heap.size) (some ⟨w.heap.size, 0, none⟩) n n cs.toList :=
  ⟨Nat.le_refl _, hn, by simp, fun _ => ⟨w.heap.size, 0, rfl, Nat.le_refl _, fun j u hu => by rw [Nat.zero_add, World.cell?_alloc_new]; simpa using hu⟩⟩

theorem far_val (x : Int) (b : Nat) (hb : b ≤ 16) : bits .and .i64 x (wrap64 ((2 : Int) ^ b - 1)) = x % ((2 ^ b : Nat) : Int) := by
  have hp := two_pow_16 b hb
  have h1 : 0 < 2 ^ b := Nat.two_pow_pos b
  have : wrap64 ((2 : Int) ^ b - 1) = ((2 ^ b : Nat) : Int) - 1 := by
    have e : ((2 : Int) ^ b) = ((2 ^ b : Nat) : Int) := by simp
    rw [e]; generalize 2 ^ b = y at hp h1; unfold wrap64; omega
  rw [this]; exact mask_i64 x b (by omega)
theorem go_val (x : Int) (b : Nat) (hb : b ≤ 16) : bits .and .i64 (x + 65536) (wrap64 ((2 : Int) ^ b - 1)) = x % ((2 ^ b : Nat) : Int) := by
  rw [far_val _ b hb]
  have hdvd : ((2 ^ b : Nat) : Int) ∣ 65536 := by
    have : (2 ^ b : Nat) ∣ 65536 := Nat.pow_dvd_pow 2 hb
    exact Int.natCast_dvd_natCast.2 this
  obtain ⟨c, hc⟩ := hdvd
  rw [hc, Int.add_mul_emod_self_left]

theorem Go_any (b n : Nat) (by_ : Int) (w : World) (h1 : 1 ≤ b) (h2 : b ≤ 16) (hn : n < 2 ^ b) (hb1 : -65536 ≤ by_) (hb2 : by_ ≤ 65536) :
    Calls Try.prog 53 #[.agg #[.int .i64 (b : Nat)], .int .i64 (n : Nat), .int .i64 by_] w fun e w' => e = .returned (.tuple #[.int .i64 ((n + by_) % (2 ^ b : Nat)), .int .i64 0]) ∧ Mod Nil w w' := by
  have hp := two_pow_16 b h2
  have hall : allIn b [(n : Int)] = true := by simp [allIn]; exact_mod_cast hn
  have Hall := Lib.hid hall; clear hall
  have hmask := Lib.hid (go_val ((n : Int) + by_) b h2)
  have hn' : (n : Int) ≤ 65536 := by omega
  have Hn := Lib.hid hn; clear hn
  go_enter Try.func53, Try.ntmps53
  go_wp2_with fail
  have hask := ask_any b _ _ _ [(n : Int)] _ h1 h2 (seg_new (w.alloc (.cells #[.int .i64 (b : Nat)] 119)) #[.int .i64 (n : Nat)] 3 1 (by omega))
  simp only [World.size_alloc, List.length_cons, List.length_nil, Nat.zero_add] at hask
  refine hask.mono ?_
  rintro e w1 ⟨rfl, hm⟩
  rw [Hall.out]
  have hm0 := hm.of_alloc
  have c0 : w1.cell? ⟨w.heap.size, 0, none⟩ = some (.int .i64 (b : Nat)) := hm0.boxed (fun h => h) 0
  go_wp2_with fail
  refine (Size_any b _ h1 h2).mono ?_
  rintro e w2 ⟨rfl, hm2⟩
  go_wp2_with fail
  go_ret2
  rw [hmask.out]
  exact ⟨rfl, hm0.of_alloc.trans hm2⟩

theorem Far_any (b x y : Nat) (w : World) (h1 : 1 ≤ b) (h2 : b ≤ 16) (hx : x < 2 ^ b) (hy : y < 2 ^ b) :
    Calls Try.prog 141 #[.agg #[.int .i64 (b : Nat)], .int .i64 (x : Nat), .int .i64 (y : Nat)] w fun e w' => e = .returned (.tuple #[.int .i64 (((y : Int) - x) % (2 ^ b : Nat)), .int .i64 0]) ∧ Mod Nil w w' := by
  have hp := two_pow_16 b h2
  have hall : allIn b [(x : Int), (y : Int)] = true := by simp [allIn]; exact ⟨by exact_mod_cast hx, by exact_mod_cast hy⟩
  have Hall := Lib.hid hall; clear hall
  have hmask := Lib.hid (far_val ((y : Int) - x) b h2)
  have hx' : (x : Int) ≤ 65536 := by omega
  have hy' : (y : Int) ≤ 65536 := by omega
  clear hx hy
  go_enter Try.func141, Try.ntmps141
  go_wp2_with fail
  have hask := ask_any b _ _ _ [(x : Int), (y : Int)] _ h1 h2 (seg_new (w.alloc (.cells #[.int .i64 (b : Nat)] 119)) #[.int .i64 (x : Nat), .int .i64 (y : Nat)] 3 2 (by omega))
  simp only [World.size_alloc, List.length_cons, List.length_nil, Nat.zero_add] at hask
  refine hask.mono ?_
  rintro e w1 ⟨rfl, hm⟩
  rw [Hall.out]
  have hm0 := hm.of_alloc
  have c0 : w1.cell? ⟨w.heap.size, 0, none⟩ = some (.int .i64 (b : Nat)) := hm0.boxed (fun h => h) 0
  go_wp2_with fail
  refine (Size_any b _ h1 h2).mono ?_
  rintro e w2 ⟨rfl, hm2⟩
  go_wp2_with fail
  go_ret2
  rw [hmask.out]
  exact ⟨rfl, hm0.of_alloc.trans hm2⟩
end Go.Proofs.Ytgokmkceplkngaa

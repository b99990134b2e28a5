import Derived.Test.YtgokmkceplkngaaProg
import Derived.Test.YtgokmkceplkngaaBase
import Derived.Test.YtgokmkceplkngaaPbits
set_option maxRecDepth 100000
set_option maxHeartbeats 1000000
set_option linter.unusedVariables false
set_option linter.unusedSimpArgs false
namespace Go.Proofs.Ytgokmkceplkngaa
open Go Go.RowKit
theorem Try.infoU8 : (Try.prog.info? 5).map (fun i => (i.zero, i.size, i.bytes)) = some (some (.int .u8 0), 1, 1) := by kernel_rfl

/-- A byte as a value. -/
abbrev V8 (c : UInt8) : Value := .int .u8 (c.toNat : Int)

/-- A writer at p, of these bits; what it owns lies from base on. -/
def Wr (w : World) (p base : Nat) (l : List Bool) : Prop :=
  ∃ (sv : Value) (bs : List UInt8), Blk w p #[sv, .int .i64 (l.length : Nat)] 217 ∧ w.ownsRow base 5 1 sv bs.length (bs.map V8) ∧ sv.ownBlock ≠ some p ∧ Packs bs l ∧ base ≤ p

theorem bitsOr8 (x y : Nat) (hx : x < 256) (hy : y < 256) : bits .or .u8 (x : Int) (y : Int) = ((x ||| y : Nat) : Int) :=
  (bits_nat .u8 8 (by decide) wraps_u8 x y (by omega) (by omega)).2

/-- What an owned row of bytes is, where it is not empty. -/
theorem own8 {w : World} {base n : Nat} {v : Value} {bs : List UInt8} (h : w.ownsRow base 5 1 v n (bs.map V8)) (hn : n ≠ 0) :
    ∃ g cap cur, v = .slice (some ⟨g, 0, none⟩) n cap ∧ base ≤ g ∧ Blk w g cur 5 ∧ n ≤ cap ∧ cap ≤ 9223372036854775807 ∧ cur.size = cap ∧ cur.toList.take n = bs.map V8 := by
  obtain ⟨h1, h2⟩ := h
  rcases h2 with ⟨_, h2⟩ | ⟨g, cap, cur, hv, hg, hh, r1, r2, r3, r4⟩
  · exact absurd h2 hn
  · exact ⟨g, cap, cur, hv, hg, hh, r1, by unfold maxLen at r2; omega, by simpa using r3, by simpa using r4⟩
theorem own8_mk {w : World} {base n g cap : Nat} {cur : Array Value} {bs : List UInt8} (hg : base ≤ g) (hb : Blk w g cur 5) (h1 : n ≤ cap) (h2 : cap ≤ 9223372036854775807) (h3 : cur.size = cap) (h4 : cur.toList.take n = bs.map V8) (h5 : bs.length = n) :
    w.ownsRow base 5 1 (.slice (some ⟨g, 0, none⟩) n cap) n (bs.map V8) :=
  ⟨by simp [h5], .inr ⟨g, cap, cur, rfl, hg, hb, h1, by unfold maxLen; omega, by simpa using h3, by simpa using h4⟩⟩

/-- What the walk asks of the numbers in 'one'. -/
theorem one_nums (n m : Nat) (hm : n / 8 < m) (hn : n ≤ 65536) : IntKind.i64.wrap ((n : Int) / 8) = (n : Int) / 8 ∧ 0 ≤ (n : Int) / 8 ∧ (n : Int) / 8 < (m : Int) ∧ ((n : Int) / 8).toNat = n / 8 ∧ (n : Int).tmod 8 = (n : Int) % 8 ∧
    7 - (n : Int) % 8 ≤ 8 ∧ IntKind.i64.wrap (7 - (n : Int) % 8) = 7 - (n : Int) % 8 ∧ 0 ≤ 7 - (n : Int) % 8 :=
  ⟨IntWalk.i64_in _ (by omega), by omega, by omega, by omega, Int.tmod_eq_emod_of_nonneg (by omega), by omega, IntWalk.i64_in _ (by omega), by omega⟩
theorem one_shift (n x bit : Nat) (hb1 : bit ≤ 1) (hx : x < 256) : bits .or .u8 (x : Int) ((bit : Int) * 2 ^ (7 - n % 8) % 256) = ((x ||| bit * 2 ^ (7 - n % 8) : Nat) : Int) ∧ (x ||| bit * 2 ^ (7 - n % 8)) < 256 := by
  have hsh : bit * 2 ^ (7 - n % 8) < 256 := by
    have h1 : 2 ^ (7 - n % 8) ≤ 2 ^ 7 := Nat.pow_le_pow_right (by decide) (by omega)
    have h2 : bit * 2 ^ (7 - n % 8) ≤ 1 * 2 ^ 7 := Nat.mul_le_mul hb1 h1
    omega
  have hcast : ((bit : Int) * 2 ^ (7 - n % 8) % 256) = ((bit * 2 ^ (7 - n % 8) : Nat) : Int) := by
    rw [Int.emod_eq_of_lt]
    · simp
    · exact_mod_cast Nat.zero_le _
    · exact_mod_cast hsh
  exact ⟨by rw [hcast]; exact bitsOr8 x _ hx hsh, Nat.or_lt_two_pow (n := 8) (by omega) (by omega)⟩

/-- 'one' where the byte is there. -/
theorem one_there (p g m cap : Nat) (cur : Array Value) (n : Nat) (x bit : Nat) (w : World) (hn : n ≤ 65536) (hm : n / 8 < m)
   (hb1 : bit ≤ 1) (hx : x < 256) (hb : Blk w p #[.slice (some ⟨g, 0, none⟩) m cap, .int .i64 (n : Nat)] 217) (hg : Blk w g cur 5) (hc : cur[n / 8]? = some (.int .u8 (x : Nat))) (hne : g ≠ p) (h8 : ¬ n % 8 = 0) :
   Calls Try.prog 151 #[.pointer (some ⟨p, 0, none⟩), .int .u8 (bit : Nat)] w fun e w' => e = .returned (.tuple #[]) ∧
     w' = ((w.setCell ⟨g, n / 8, none⟩ (.int .u8 ((x ||| bit * 2 ^ (7 - n % 8) : Nat) : Int))).setCell ⟨p, 1, none⟩ (.int .i64 ((n : Int) + 1))).drew := by
  have c0 : w.cell? ⟨p, 0, none⟩ = some (.slice (some ⟨g, 0, none⟩) m cap) := hb.cell 0
  have c1 : w.cell? ⟨p, 1, none⟩ = some (.int .i64 n) := hb.cell 1
  have f1 : w.frozen? ⟨p, 1, none⟩ = false := hb.free 1
  have cg : w.cell? ⟨g, n / 8, none⟩ = some (.int .u8 (x : Nat)) := by rw [hg.cell]; exact hc
  have fg : w.frozen? ⟨g, n / 8, none⟩ = false := hg.free _
  have hplt := hb.lt
  have hor := Lib.hid (one_shift n x bit hb1 hx).1
  clear hc
  go_enter Try.func151, Try.ntmps151
  go_wp2_with fail
  obtain ⟨e1, e2, e3, e4, e5, e6, e7, e8⟩ := one_nums n m hm hn
  refine wp_region_still_tail 21 (by kernel_rfl) (by kernel_rfl) ?_
  simp only [List.take_succ_cons, List.take_zero, List.drop_succ_cons, List.drop_zero]
  change wpStill _ _ w.drew _ _ _
  repeat (refine wpStill_step (fun K hK => ?_); go_simp; refine hK _ ?_; clear hK K)
  refine wpStill_nil ?_
  change wpList _ _ _ _ _ w.drew
  go_wp2_with fail
  go_end0
  refine ⟨rfl, ?_⟩
  rw [← hor.out]

/-- 'one' where the byte is new. -/
theorem one_new (p base m : Nat) (sv : Value) (bs : List UInt8) (n : Nat) (bit : Nat) (w : World) (hn : n ≤ 65536) (hm : n / 8 = bs.length)
   (hb1 : bit ≤ 1) (hb : Blk w p #[sv, .int .i64 (n : Nat)] 217) (ho : w.ownsRow base 5 1 sv bs.length (bs.map V8)) (hne : sv.ownBlock ≠ some p) (hbase : base ≤ p) (h8 : n % 8 = 0) :
   Calls Try.prog 151 #[.pointer (some ⟨p, 0, none⟩), .int .u8 (bit : Nat)] w fun e w' => e = .returned (.tuple #[]) ∧ Mod (From base) w w' ∧
     ∃ sv', Blk w' p #[sv', .int .i64 (n + 1 : Nat)] 217 ∧ w'.ownsRow base 5 1 sv' (bs.length + 1) ((bs ++ [UInt8.ofNat (bit * 128)]).map V8) ∧ sv'.ownBlock ≠ some p := by
  have c0 : w.cell? ⟨p, 0, none⟩ = some sv := hb.cell 0
  have c1 : w.cell? ⟨p, 1, none⟩ = some (.int .i64 n) := hb.cell 1
  have f0 : w.frozen? ⟨p, 0, none⟩ = false := hb.free 0
  have f1 : w.frozen? ⟨p, 1, none⟩ = false := hb.free 1
  have hplt := hb.lt
  obtain ⟨i0, hi, hz0, hz1, hz2⟩ := info_parts Try.infoU8
  have Hm := Lib.hid hm; clear hm
  go_enter Try.func151, Try.ntmps151
  go_wp2_with (at_builtin; refine wpList_append_own _ rfl _ _ 30 rfl base 5 i0 (.int .u8 0) 1 1 Try.underlying30 hi hz0 hz1 hz2 rfl (by decide) _ _ _ rfl (ho.alloc _) ⟨w.heap.size, 0, none⟩ 1 1 [.int .u8 0] rfl rfl ?c1 ?c2 ?c3 ?c4 ?c5 ?_)
  case c1 => exact cell_one_new w _ _
  case c2 => simp [Value.oneCell']
  case c3 => unfold maxLen; have := Hm.out; omega
  case c4 => have := Hm.out; omega
  case c5 => simp; omega
  intro v' w1 hown1 hgrow _
  have hb1' := (hb.alloc (.cells #[.int .u8 0] 5)).grown hgrow (fun h => hne h.symm)
  obtain ⟨g, cap, cur, rfl, hg1, hg2, hg3, hg4, hg5, hg6⟩ := own8 (bs := bs ++ [0]) (by rw [List.map_append]; exact hown1) (by omega)
  have hgp : g ≠ p := by
    intro h; subst h
    have h1 := hg2.symm.trans hb1'
    simp at h1
  have d0 : w1.cell? ⟨p, 0, none⟩ = some sv := hb1'.cell 0
  have d1 : w1.cell? ⟨p, 1, none⟩ = some (.int .i64 n) := hb1'.cell 1
  have d2 : w1.frozen? ⟨p, 0, none⟩ = false := hb1'.free 0
  have d3 : w1.frozen? ⟨p, 1, none⟩ = false := hb1'.free 1
  have hcur : cur[n / 8]? = some (.int .u8 0) := by
    have h1 : (cur.toList.take (bs.length + 1))[bs.length]? = cur[bs.length]? := by rw [List.getElem?_take_of_lt (by omega)]; simp
    rw [Hm.out, ← h1, hg6]; simp
  have d4 : w1.cell? ⟨g, n / 8, none⟩ = some (.int .u8 0) := by rw [hg2.cell]; exact hcur
  have d5 : w1.frozen? ⟨g, n / 8, none⟩ = false := hg2.free _
  have hplt1 := hb1'.lt
  have hgne : (⟨p, 0, none⟩ : Addr) ≠ ⟨g, n / 8, none⟩ := fun h => hgp (by injection h with h1; exact h1.symm)
  have hm1 : Mod (From base) w w1 := ((Mod.refl _ w).alloc _).grown hgrow (fun k hk hlt => (ho.lt k hk).1)
  have Hs := Lib.hid hown1
  clear hgrow hcur c0 c1 f0 f1 hb ho hi hz0 hz1 hz2 hne hown1 hplt
  go_wp2_with fail
  obtain ⟨e1, e2, e3, e4, e5, e6, e7, e8⟩ := one_nums n (bs.length + 1) (by have := Hm.out; omega) hn
  have e3' : (n : Int) / 8 < (bs.length : Int) + 1 := by have := Hm.out; omega
  refine wp_region_still_tail 21 (by kernel_rfl) (by kernel_rfl) ?_
  simp only [List.take_succ_cons, List.take_zero, List.drop_succ_cons, List.drop_zero]
  change wpStill _ _ (w1.setCell _ _).drew _ _ _
  repeat (refine wpStill_step (fun K hK => ?_); go_simp; refine hK _ ?_; clear hK K)
  refine wpStill_nil ?_
  change wpList _ _ _ _ _ (w1.setCell _ _).drew
  go_wp2_with fail
  go_end0
  have hv : bits .or .u8 0 ((bit : Int) * 128 % 256) = ((UInt8.ofNat (bit * 128)).toNat : Int) := by
    have : bit = 0 ∨ bit = 1 := by omega
    rcases this with rfl | rfl <;> decide
  rw [hv]
  have k1 := (((hb1'.setCell 0 (.slice (some ⟨g, 0, none⟩) (bs.length + 1) cap)).setCell_other (p := ⟨g, n / 8, none⟩) (fun h => hgp h.symm) (V8 (UInt8.ofNat (bit * 128)))).setCell 1 (.int .i64 ((n : Int) + 1))).drew
  have k2 := (((hg2.setCell_other (p := ⟨p, 0, none⟩) hgp (.slice (some ⟨g, 0, none⟩) (bs.length + 1) cap)).setCell (n / 8) (V8 (UInt8.ofNat (bit * 128)))).setCell_other (p := ⟨p, 1, none⟩) hgp (.int .i64 ((n : Int) + 1))).drew
  refine ⟨rfl, ?_, _, k1, ?_, fun h => hgp (by simpa [Value.ownBlock] using h)⟩
  · exact (((hm1.setCell (p := ⟨p, 0, none⟩) (fun _ => hbase) _).setCell (p := ⟨g, n / 8, none⟩) (fun _ => hg1) _).setCell (p := ⟨p, 1, none⟩) (fun _ => hbase) _).drew
  · refine own8_mk hg1 k2 hg3 hg4 (by simp [hg5]) ?_ (by simp)
    rw [Hm.out]
    simp only [Array.toList_setIfInBounds, List.map_append, List.map_cons, List.map_nil]
    rw [List.take_set, hg6]
    simp
theorem one_wr (p base : Nat) (l : List Bool) (b : Bool) (w : World) (h : Wr w p base l) (hl : l.length ≤ 65535) :
    Calls Try.prog 151 #[.pointer (some ⟨p, 0, none⟩), .int .u8 (b.toNat : Nat)] w fun e w' => e = .returned (.tuple #[]) ∧ Mod (From base) w w' ∧ Wr w' p base (l ++ [b]) := by
  obtain ⟨sv, bs, hb, ho, hne, hpk, hbase⟩ := h
  have hlen := hpk.length
  have hbit : b.toNat ≤ 1 := by cases b <;> simp
  by_cases h8 : l.length % 8 = 0
  · refine (one_new p base 0 sv bs l.length b.toNat w (by omega) (by omega) hbit hb ho hne hbase h8).mono ?_
    rintro e w' ⟨he, hm, sv', k1, k2, k3⟩
    refine ⟨he, hm, sv', bs ++ [UInt8.ofNat (b.toNat * 128)], by simpa using k1, by simpa using k2, k3, hpk.new h8 b, hbase⟩
  · obtain ⟨g, cap, cur, rfl, hg1, hg2, hg3, hg4, hg5, hg6⟩ := own8 ho (by omega)
    have hgp : g ≠ p := fun h => hne (by simp [Value.ownBlock, h])
    have hi : l.length / 8 < bs.length := by omega
    have hcur : cur[l.length / 8]? = some (.int .u8 ((bs.getD (l.length / 8) 0).toNat : Nat)) := by
      have h1 : (cur.toList.take bs.length)[l.length / 8]? = cur[l.length / 8]? := by rw [List.getElem?_take_of_lt hi]; simp
      rw [← h1, hg6, List.getElem?_map, List.getD_eq_getElem?_getD, List.getElem?_eq_getElem hi]; simp
    refine (one_there p g bs.length cap cur l.length _ b.toNat w (by omega) hi hbit (UInt8.toNat_lt _) hb hg2 hcur hgp h8).mono ?_
    rintro e w' ⟨he, rfl⟩
    obtain ⟨_, hx⟩ := one_shift l.length (bs.getD (l.length / 8) 0).toNat b.toNat hbit (UInt8.toNat_lt _)
    generalize hxx : ((bs.getD (l.length / 8) 0).toNat ||| b.toNat * 2 ^ (7 - l.length % 8)) = x at hx ⊢
    have hxu : (UInt8.ofNat x).toNat = x := by simp; omega
    have hv : (Value.int .u8 (x : Int)) = V8 (UInt8.ofNat x) := by simp only [V8, hxu]
    rw [hv]
    have k1 := ((hb.setCell_other (p := ⟨g, l.length / 8, none⟩) (fun h => hgp h.symm) (V8 (UInt8.ofNat x))).setCell 1 (.int .i64 ((l.length : Int) + 1))).drew
    have k2 := ((hg2.setCell (l.length / 8) (V8 (UInt8.ofNat x))).setCell_other (p := ⟨p, 1, none⟩) hgp (.int .i64 ((l.length : Int) + 1))).drew
    refine ⟨he, (((Mod.refl _ w).setCell (p := ⟨g, l.length / 8, none⟩) (fun _ => hg1) _).setCell (p := ⟨p, 1, none⟩) (fun _ => hbase) _).drew, _, bs.set (l.length / 8) (UInt8.ofNat x), ?_, ?_, hne, ?_, hbase⟩
    · simpa using k1
    · rw [List.length_set]
      refine own8_mk hg1 k2 hg3 hg4 (by simp [hg5]) ?_ (by simp)
      rw [Array.toList_setIfInBounds, List.take_set, hg6, List.map_set]
    · exact hpk.more h8 b _ (by rw [hxu, ← hxx])

theorem Wr.lt {w : World} {p base : Nat} {l : List Bool} (h : Wr w p base l) : p < w.heap.size := by
  obtain ⟨sv, bs, hb, _⟩ := h; exact hb.lt
theorem Wr.base {w : World} {p base : Nat} {l : List Bool} (h : Wr w p base l) : base ≤ p := by
  obtain ⟨sv, bs, hb, _, _, _, h⟩ := h; exact h

theorem and_bit (v k : Nat) (hv : v < 2 ^ 64) : bits .and .u64 ((v : Int) / 2 ^ k) 1 % 256 = ((v.testBit k).toNat : Int) := by
  have h : bits .and .u64 ((v : Int) / 2 ^ k) 1 = ((v / 2 ^ k &&& 1 : Nat) : Int) := by
    have := bits_and_u64_nat (v / 2 ^ k) 1 (Nat.lt_of_le_of_lt (Nat.div_le_self _ _) hv) (by decide)
    simpa using this
  rw [h, Nat.and_one_is_mod, Nat.testBit_eq_decide_div_mod_eq]
  have h2 : v / 2 ^ k % 2 = 0 ∨ v / 2 ^ k % 2 = 1 := by omega
  rcases h2 with h2 | h2 <;> simp [h2]

theorem Put_any (p base : Nat) (l : List Bool) (v n : Nat) (w : World) (h : Wr w p base l) (hn : n ≤ 64) (hv : v < 2 ^ n) (hl : l.length + n ≤ 65536) :
    Calls Try.prog 109 #[.pointer (some ⟨p, 0, none⟩), .int .u64 (v : Nat), .int .i64 (n : Nat)] w fun e w' => e = .returned (.int .i64 0) ∧ Mod (From base) w w' ∧ Wr w' p base (l ++ bitsN n v) := by
  have hc1 : w.cell? ⟨p, 1, none⟩ = some (.int .i64 (l.length : Nat)) := by obtain ⟨sv, bs, hb, _⟩ := h; exact hb.cell 1
  have hv0 : (v : Int) / 2 ^ n = 0 := by exact_mod_cast Nat.div_eq_of_lt hv
  have H := Lib.hid h; clear h
  go_enter Try.func109, Try.ntmps109
  go_wp2_with fail
  refine wp_scope_one 0 (fun a' w' => ∃ j : Nat, j ≤ n ∧ Mod (From base) w w' ∧ Wr w' p base (l ++ bitsN (n - j) (v / 2 ^ j)) ∧ (∃ u2 u3 u4 u5 u8 u9 u10 u11 u12 u13 u14 u15 u16 u17 u18 u19 u20 u21 u22 u23 u24 u25 u26 u27 u28 u29 u30 u31 u32 u33 u34 u35 u36 u37 u38 u39 u40 u41 u42 u43 u44 u45 u46 u47 : Value, a' = { tmps := #[.pointer (some ⟨p, 0, none⟩), .int .u64 (v : Nat), u2, u3, u4, u5, .int .i64 0, .int .i64 (j : Nat), u8, u9, u10, u11, u12, u13, u14, u15, u16, u17, u18, u19, u20, u21, u22, u23, u24, u25, u26, u27, u28, u29, u30, u31, u32, u33, u34, u35, u36, u37, u38, u39, u40, u41, u42, u43, u44, u45, u46, u47], defers := [] }))
    (fun a' _ => (intOf (a'.tmps.getD 7 undef)).toNat) rfl ?_ ?_
  · rintro a' w' ⟨j, hj, hm, hw, ⟨u2, u3, u4, u5, u8, u9, u10, u11, u12, u13, u14, u15, u16, u17, u18, u19, u20, u21, u22, u23, u24, u25, u26, u27, u28, u29, u30, u31, u32, u33, u34, u35, u36, u37, u38, u39, u40, u41, u42, u43, u44, u45, u46, u47, rfl⟩⟩
    by_cases hpos : 0 < j
    · obtain ⟨k, rfl⟩ : ∃ k, j = k + 1 := ⟨j - 1, by omega⟩
      have hbit := Lib.hid (and_bit v k (Nat.lt_of_lt_of_le hv (Nat.pow_le_pow_right (by decide) hn)))
      go_wp2_with fail
      rw [hbit.out]
      refine (one_wr p base _ _ _ hw (by simp; omega)).mono ?_
      rintro e w2 ⟨rfl, hm2, hw2⟩
      go_wp2_with fail
      go_step3
      refine ⟨rfl, ⟨k, by omega, hm.trans hm2, ?_, ?_⟩, ?_⟩
      · have e1 : n - k = n - (k + 1) + 1 := by omega
        rw [e1, bitsN_snoc, Nat.div_div_eq_div_mul, ← Nat.pow_succ, ← List.append_assoc, Nat.testBit_div_two_pow, Nat.zero_add]
        exact hw2
      · repeat apply Exists.intro
        rfl
      · simp [intOf]
    · obtain rfl : j = 0 := by omega
      go_wp2_with fail
      simp only [Exit.jumps]
      go_ret
      exact ⟨rfl, hm, by simpa using hw⟩
  · intro fall
    go_wp2_with fail
    all_goals
      go_step3
      go_step
      go_step
      refine fall _ _ ?_
      refine ⟨n, Nat.le_refl _, Mod.refl _ _, by simpa [bitsN] using H.out, ?_⟩
      repeat apply Exists.intro
      rfl
end Go.Proofs.Ytgokmkceplkngaa

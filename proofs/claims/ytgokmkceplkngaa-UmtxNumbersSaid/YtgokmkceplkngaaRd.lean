import Derived.Test.YtgokmkceplkngaaBits
import Derived.Test.YtgokmkceplkngaaSeg
set_option maxRecDepth 100000
set_option maxHeartbeats 1000000
set_option linter.unusedVariables false
set_option linter.unusedSimpArgs false
namespace Go.Proofs.Ytgokmkceplkngaa
open Go Go.RowKit

theorem v8_one (bs : List UInt8) : ∀ u ∈ bs.map V8, u.oneCell' = true := by
  intro u hu; obtain ⟨c, _, rfl⟩ := List.mem_map.1 hu; rfl

/-- slices.Clone at bytes. -/
theorem clone8 (T : Nat → Prop) (ao : Option Addr) (cap : Nat) (bs : List UInt8) (w : World) (h : Seg w T ao bs.length cap (bs.map V8)) (hb : bs.length ≤ 140737488355328) :
    Calls Try.prog 74 #[.slice ao bs.length cap] w fun e w' => ∃ v, e = .returned v ∧ Mod Nil w w' ∧ w'.ownsRow w.heap.size 5 1 v bs.length (bs.map V8) := by
  obtain ⟨i0, hi, hz0, hz1, hz2⟩ := info_parts Try.infoU8
  have hnil := Lib.run_eql_slice_nil (P := Try.prog)
  go_enter Try.func74, Try.ntmps74
  cases ao with
  | none =>
    have hc := h.nil rfl
    have hl : bs.length = 0 := by have := h.le; omega
    have hbs : bs = [] := List.eq_nil_of_length_eq_zero hl
    subst hbs; subst hc
    go_wp2_with fail
    go_ret
    exact ⟨_, rfl, Mod.refl _ _, World.ownsRow_nil _ _ _ _⟩
  | some ad =>
    go_wp2_with (at_builtin; refine wpList_app _ rfl _ _ 30 rfl w.heap.size 5 i0 (.int .u8 0) 1 1 Try.underlying30 hi hz0 hz1 hz2 rfl (by decide) _ 0 [] rfl (World.ownsRow_made w #[] 0 (Nat.le_refl _) (by unfold maxLen; omega) rfl) T (some ad) bs.length cap (bs.map V8) rfl (h.alloc _) (by simp) (v8_one bs) (by unfold maxLen; omega) (by omega) (by simp) ?_)
    intro v' w1 hown hgrow
    go_wp2_with fail
    go_ret
    refine ⟨_, rfl, ((Mod.refl _ w).alloc _).grown hgrow (fun k hk hlt => ?_), by simpa using hown⟩
    simp [Value.ownBlock] at hk; omega

theorem New_wr (w : World) : Calls Try.prog 108 #[] w fun e w' => ∃ p, e = .returned (.pointer (some ⟨p, 0, none⟩)) ∧ Mod Nil w w' ∧ Wr w' p w.heap.size [] := by
  go_enter Try.func108, Try.ntmps108
  go_wp2_with fail
  go_ret
  refine ⟨w.heap.size, rfl, (Mod.refl _ w).alloc _, .slice none 0 0, [], Blk.new w _ _, World.ownsRow_nil _ _ _ _, by simp [Value.ownBlock], Packs.nil, Nat.le_refl _⟩

theorem Bytes_any (p base : Nat) (l : List Bool) (w : World) (h : Wr w p base l) (hl : l.length ≤ 65536) :
    Calls Try.prog 110 #[.pointer (some ⟨p, 0, none⟩)] w fun e w' => ∃ v bs, e = .returned v ∧ Mod Nil w w' ∧ w'.ownsRow w.heap.size 5 1 v bs.length (bs.map V8) ∧ Packs bs l := by
  obtain ⟨sv, bs, hb, ho, hne, hpk, hbase⟩ := h
  have hlen := hpk.length
  have hbl : bs.length ≤ 140737488355328 := by omega
  obtain ⟨ao, cap, rfl, hs⟩ := own_seg ho
  have c0 : w.cell? ⟨p, 0, none⟩ = some (.slice ao bs.length cap) := hb.cell 0
  clear hlen
  go_enter Try.func110, Try.ntmps110
  go_wp2_with fail
  refine (clone8 _ ao cap bs w hs hbl).mono ?_
  rintro e w1 ⟨v, rfl, hm, hown⟩
  go_wp2_with fail
  go_ret
  exact ⟨_, bs, rfl, hm, hown, hpk⟩
/-- A reader at p, of bytes that lie in T, at a place. -/
def Rd (w : World) (p : Nat) (T : Nat → Prop) (bs : List UInt8) (at_ : Nat) : Prop :=
  ∃ ao cap, Blk w p #[.slice ao bs.length cap, .int .i64 (at_ : Nat)] 179 ∧ Seg w T ao bs.length cap (bs.map V8) ∧ at_ ≤ 8 * bs.length ∧ bs.length ≤ 8192 ∧ ¬ T p

theorem Rd.lt {w : World} {p : Nat} {T : Nat → Prop} {bs : List UInt8} {k : Nat} (h : Rd w p T bs k) : p < w.heap.size := by
  obtain ⟨_, _, hb, _⟩ := h; exact hb.lt
theorem Rd.mod {w w' : World} {p : Nat} {T F : Nat → Prop} {bs : List UInt8} {k : Nat} (h : Rd w p T bs k) (m : Mod F w w') (hp : ¬ F p) (hT : ∀ b, b < w.heap.size → T b → ¬ F b) : Rd w' p T bs k := by
  obtain ⟨ao, cap, hb, hs, r⟩ := h
  exact ⟨ao, cap, hb.mod m hp, hs.mod m hT, r⟩

theorem Read_any (T : Nat → Prop) (ao : Option Addr) (cap : Nat) (bs : List UInt8) (w : World) (h : Seg w T ao bs.length cap (bs.map V8)) :
    Calls Try.prog 56 #[.slice ao bs.length cap] w fun e w' => ∃ p, e = .returned (.pointer (some ⟨p, 0, none⟩)) ∧ Mod Nil w w' ∧ w.heap.size ≤ p ∧ ∃ T', (∀ k, T' k → w.heap.size ≤ k ∧ k < p) ∧ Rd w' p T' (bs.take 8192) 0 := by
  have hle := h.le
  have hmx := h.max
  by_cases h8 : bs.length ≤ 8192
  · have hs := Seg.take h 1 bs.length (by simp) (Nat.le_refl _)
    rw [Nat.mul_one, ← List.map_take, List.take_of_length_le (Nat.le_refl _)] at hs
    have hres : bs.take 8192 = bs := List.take_of_length_le h8
    have Hres := Lib.hid hres; clear hres
    go_enter Try.func56, Try.ntmps56
    go_wp2_with (go_at_call 74; refine (clone8 T ao bs.length bs w hs (by omega)).mono ?_)
    rintro e w1 ⟨v, rfl, hm, hown⟩
    obtain ⟨ao', cap', rfl, hs'⟩ := own_seg hown
    go_wp2_with fail
    go_ret
    rw [Hres.out]
    refine ⟨w1.heap.size, rfl, hm.alloc _, hm.size, fun k => w.heap.size ≤ k ∧ k < w1.heap.size, fun k hk => hk, ao', cap', Blk.new w1 _ _, ?_, by omega, h8, by omega⟩
    exact (hs'.mono (fun k hk hk2 => ⟨hk2, hk⟩)).alloc _
  · have hlen : (bs.take 8192).length = 8192 := by rw [List.length_take]; omega
    have hs := Seg.take h 1 8192 (by simp) (by omega)
    rw [Nat.mul_one, ← List.map_take] at hs
    obtain ⟨cs, hcs⟩ : ∃ cs, bs.take 8192 = cs := ⟨_, rfl⟩
    rw [hcs] at hs hlen ⊢
    have hmin : min (bs.length : Int) 8192 = 8192 := by omega
    have Hlen := Lib.hid hlen
    have hcl := clone8 T ao 8192 cs w (by rw [hlen]; exact hs) (by omega)
    rw [hlen] at hcl
    have Hcl := Lib.hid hcl
    clear hlen hcs hcl hs
    go_enter Try.func56, Try.ntmps56
    go_wp2_with (go_at_call 74; refine Hcl.out.mono ?_)
    rintro e w1 ⟨v, rfl, hm, hown⟩
    obtain ⟨ao', cap', rfl, hs'⟩ := own_seg hown
    go_wp2_with fail
    go_ret
    have hlen := Hlen.out
    refine ⟨w1.heap.size, rfl, hm.alloc _, hm.size, fun k => w.heap.size ≤ k ∧ k < w1.heap.size, fun k hk => hk, ao', cap', ?_, ?_, by omega, by omega, by omega⟩
    · rw [hlen]; exact Blk.new w1 _ _
    · rw [hlen]; exact (hs'.mono (fun k hk hk2 => ⟨hk2, hk⟩)).alloc _

theorem Left_any (p : Nat) (T : Nat → Prop) (bs : List UInt8) (k : Nat) (w : World) (h : Rd w p T bs k) :
    Calls Try.prog 116 #[.pointer (some ⟨p, 0, none⟩)] w fun e w' => e = .returned (.int .i64 (8 * bs.length - k : Int)) ∧ ∃ d, w' = w.drewN d := by
  obtain ⟨ao, cap, hb, hs, hk, hl, hp⟩ := h
  have c0 : w.cell? ⟨p, 0, none⟩ = some (.slice ao bs.length cap) := hb.cell 0
  have c1 : w.cell? ⟨p, 1, none⟩ = some (.int .i64 (k : Nat)) := hb.cell 1
  have e1 : IntKind.i64.wrap ((bs.length : Int) * 8) = (bs.length : Int) * 8 := IntWalk.i64_in _ (by omega)
  have e2 : IntKind.i64.wrap ((bs.length : Int) * 8 - k) = (bs.length : Int) * 8 - k := IntWalk.i64_in _ (by omega)
  go_enter Try.func116, Try.ntmps116
  go_wp2_with fail
  go_quiet (fail)
  go_wp2_with fail
  go_ret
  exact ⟨ret_int (by omega), _, rfl⟩
theorem and_bit8 (x : UInt8) (s : Nat) : bits .and .u8 ((x.toNat : Int) / 2 ^ s) 1 = ((x.toNat.testBit s).toNat : Int) := by
  have h := (bits_nat .u8 8 (by decide) wraps_u8 (x.toNat / 2 ^ s) 1 (Nat.lt_of_le_of_lt (Nat.div_le_self _ _) (by have := x.toNat_lt; omega)) (by decide)).1
  have h' : bits .and .u8 ((x.toNat : Int) / 2 ^ s) 1 = ((x.toNat / 2 ^ s &&& 1 : Nat) : Int) := by simpa using h
  rw [h', Nat.and_one_is_mod, Nat.testBit_eq_decide_div_mod_eq]
  have h2 : x.toNat / 2 ^ s % 2 = 0 ∨ x.toNat / 2 ^ s % 2 = 1 := by omega
  rcases h2 with h2 | h2 <;> simp [h2]
theorem shl_or (v : Nat) (b : Bool) (hv : v < 2 ^ 63) : bits .or .u64 ((v : Int) * 2 % 18446744073709551616) ((b.toNat : Nat) : Int) = ((2 * v + b.toNat : Nat) : Int) := by
  have hb : b.toNat ≤ 1 := by cases b <;> simp
  have h1 : ((v : Int) * 2 % 18446744073709551616) = ((2 * v : Nat) : Int) := by omega
  rw [h1, bits_or_u64_nat (2 * v) b.toNat (by omega) (by omega)]
  congr 1
  have := Nat.two_pow_add_eq_or_of_lt (i := 1) (b := b.toNat) (by omega) v
  rw [← this]
theorem get_step (v : Nat) (x : UInt8) (s : Nat) (hv : v < 2 ^ 63) : bits .or .u64 (IntKind.u64.wrap ((v : Int) * 2)) (IntKind.u64.wrap (bits .and .u8 ((x.toNat : Int) / 2 ^ s) 1)) = ((2 * v + (x.toNat.testBit s).toNat : Nat) : Int) := by
  rw [and_bit8, IntWalk.u64_in _ (by omega), IntWalk.u64_in _ (by cases x.toNat.testBit s <;> simp)]
  have h := shl_or v (x.toNat.testBit s) hv
  rwa [Int.emod_eq_of_lt (by omega) (by omega)] at h
theorem bits_drop_take_succ (bs : List UInt8) (k j : Nat) (h : k + j < 8 * bs.length) :
    ((bitsOf bs).drop k).take (j + 1) = ((bitsOf bs).drop k).take j ++ [(bs.getD ((k + j) / 8) 0).toNat.testBit (7 - (k + j) % 8)] := by
  rw [List.take_add_one, List.getElem?_drop, bitsOf_get _ _ h]; rfl

theorem Get_any (p : Nat) (T : Nat → Prop) (bs : List UInt8) (k n : Nat) (w : World) (h : Rd w p T bs k) (hn : n ≤ 64) (hk : k + n ≤ 8 * bs.length) :
    Calls Try.prog 57 #[.pointer (some ⟨p, 0, none⟩), .int .i64 (n : Nat)] w fun e w' => e = .returned (.tuple #[.int .u64 (ofBits (((bitsOf bs).drop k).take n) : Nat), .int .i64 0]) ∧ Mod (One p) w w' ∧ Rd w' p T bs (k + n) := by
  have H := h
  obtain ⟨ao, cap, hb, hs, _, hl, hp⟩ := h
  have c1 : w.cell? ⟨p, 1, none⟩ = some (.int .i64 (k : Nat)) := hb.cell 1
  have hplt := hb.lt
  have HH := Lib.hid H; clear H
  have Hb := Lib.hid hb; clear hb
  go_enter Try.func57, Try.ntmps57
  go_wp2_with fail
  refine wp_scope_one 0 (fun a' w' => ∃ j : Nat, j ≤ n ∧ Mod (One p) w w' ∧ Rd w' p T bs (k + j) ∧ (∃ u1 u2 u3 u4 u5 u8 u9 u10 u11 u12 u13 u14 u15 u16 u17 u18 u19 u20 u21 u22 u23 u24 u25 u26 u27 u28 u29 u30 u31 u32 u33 u34 u35 u36 u37 u38 u39 u40 u41 u42 u43 u44 u45 u46 u47 u48 u49 u50 u51 u52 u53 u54 u55 u56 u57 u58 u59 u60 u61 u62 u63 u64 u65 : Value, a' = { tmps := #[.pointer (some ⟨p, 0, none⟩), u1, u2, u3, u4, u5, .int .u64 (ofBits (((bitsOf bs).drop k).take j) : Nat), .int .i64 ((k : Int) + n), u8, u9, u10, u11, u12, u13, u14, u15, u16, u17, u18, u19, u20, u21, u22, u23, u24, u25, u26, u27, u28, u29, u30, u31, u32, u33, u34, u35, u36, u37, u38, u39, u40, u41, u42, u43, u44, u45, u46, u47, u48, u49, u50, u51, u52, u53, u54, u55, u56, u57, u58, u59, u60, u61, u62, u63, u64, u65], defers := [] }))
    (fun a' w' => n - (match w'.cell? ⟨p, 1, none⟩ with | some (.int _ x) => x.toNat - k | _ => 0)) rfl ?_ ?_
  · rintro a' w' ⟨j, hj, hm, hw, ⟨u1, u2, u3, u4, u5, u8, u9, u10, u11, u12, u13, u14, u15, u16, u17, u18, u19, u20, u21, u22, u23, u24, u25, u26, u27, u28, u29, u30, u31, u32, u33, u34, u35, u36, u37, u38, u39, u40, u41, u42, u43, u44, u45, u46, u47, u48, u49, u50, u51, u52, u53, u54, u55, u56, u57, u58, u59, u60, u61, u62, u63, u64, u65, rfl⟩⟩
    by_cases hpos : j < n
    · obtain ⟨c, hc⟩ : ∃ c, c = k + j := ⟨_, rfl⟩
      rw [← hc] at hw
      have Hw := Lib.hid hw
      obtain ⟨ao1, cap1, hb1, hs1, _, _, _⟩ := hw
      have hclt : c / 8 < bs.length := by omega
      obtain ⟨b, off, rfl, hTb, hblt, hcells⟩ := hs1.get (j := c / 8) (by simpa using hclt)
      have hbp : b ≠ p := fun h => hp (h ▸ hTb)
      have d0 : w'.cell? ⟨p, 0, none⟩ = some (.slice (some ⟨b, off, none⟩) bs.length cap1) := hb1.cell 0
      have d1 : w'.cell? ⟨p, 1, none⟩ = some (.int .i64 (c : Nat)) := hb1.cell 1
      have d2 : w'.frozen? ⟨p, 1, none⟩ = false := hb1.free 1
      have d3 : w'.cell? ⟨b, off + c / 8, none⟩ = some (V8 (bs.getD (c / 8) 0)) := hcells _ _ (by rw [List.getElem?_map, List.getD_eq_getElem?_getD, List.getElem?_eq_getElem hclt]; rfl)
      obtain ⟨x, hx⟩ : ∃ x, bs.getD (c / 8) 0 = x := ⟨_, rfl⟩
      rw [hx] at d3
      obtain ⟨v, hv⟩ : ∃ v, ofBits (((bitsOf bs).drop k).take j) = v := ⟨_, rfl⟩
      rw [hv]
      have hplt' := hb1.lt
      have hv63 : v < 2 ^ 63 := by
        have := ofBits_lt (((bitsOf bs).drop k).take j)
        rw [hv] at this
        refine Nat.lt_of_lt_of_le this (Nat.pow_le_pow_right (by decide) ?_)
        rw [List.length_take]; omega
      have hsh := Lib.hid (get_step v x (7 - c % 8) hv63)
      have htest : (c : Int) < (k : Int) + n := by omega
      have Hc := Lib.hid hc; have Hx := Lib.hid hx; have Hv := Lib.hid hv
      clear hc hx hv hcells hs1 hv63
      go_wp2_with fail
      obtain ⟨e1, e2, e3, e4, e5, e6, e7, e8⟩ := one_nums c bs.length hclt (by omega)
      go_quiet (fail)
      go_wp2_with fail
      rw [hsh.out]
      go_step3
      have k1 := (hb1.mod ((Mod.refl Nil _).drewN nq) (fun h => h)).setCell 1 (.int .i64 ((c : Int) + 1))
      have hm2 := (hm.drewN nq).setCell (p := ⟨p, 1, none⟩) (fun _ => rfl) (.int .i64 ((c : Int) + 1))
      have hcell : ((w'.drewN nq).setCell ⟨p, 1, none⟩ (.int .i64 ((c : Int) + 1))).cell? ⟨p, 1, none⟩ = some (.int .i64 ((c : Int) + 1)) := k1.cell 1
      have hs3 := Hw.out
      obtain ⟨ao3, cap3, hb3, hs3, _⟩ := hs3
      have hcc := Hc.out
      have k3 := (hb3.mod ((Mod.refl Nil _).drewN nq) (fun h => h)).setCell 1 (.int .i64 ((c : Int) + 1))
      have s3 := hs3.mod (F := One p) ((((Mod.refl (One p) w').drewN nq).setCell (p := ⟨p, 1, none⟩) (fun _ => rfl) (.int .i64 ((c : Int) + 1)))) (fun b _ hTb hbp => hp (by cases hbp; exact hTb))
      refine ⟨rfl, ⟨j + 1, by omega, hm2, ⟨ao3, cap3, ?_, s3, by omega, hl, hp⟩, ?_⟩, ?_⟩
      · have : ((k + (j + 1) : Nat) : Int) = (c : Int) + 1 := by omega
        rw [this]; exact k3
      · rw [bits_drop_take_succ bs k j (by omega), ofBits_snoc, Hv.out, ← hcc, Hx.out]
        repeat apply Exists.intro
        rfl
      · rw [hcell, d1]
        simp only
        omega
    · obtain rfl : j = n := by omega
      have d1 : w'.cell? ⟨p, 1, none⟩ = some (.int .i64 ((k : Int) + j)) := by obtain ⟨_, _, hb', _⟩ := hw; exact hb'.cell 1
      go_wp2_with fail
      simp only [Exit.jumps]
      go_ret2
      exact ⟨rfl, hm, hw⟩
  · intro fall
    go_wp2_with (go_at_call 116; refine (Left_any p T bs k w HH.out).mono ?_; rintro e w' ⟨rfl, d, rfl⟩)
    all_goals
      go_step3
      go_step
      go_step
      refine fall _ _ ?_
      refine ⟨0, Nat.zero_le _, (Mod.refl _ _).drewN _, (HH.out.mod ((Mod.refl Nil _).drewN d) (fun h => h) (fun _ _ _ h => h)), ?_⟩
      repeat apply Exists.intro
      rfl
end Go.Proofs.Ytgokmkceplkngaa

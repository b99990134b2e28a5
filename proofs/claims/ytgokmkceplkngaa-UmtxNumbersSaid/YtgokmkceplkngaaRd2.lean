import Derived.Test.YtgokmkceplkngaaRd
set_option maxRecDepth 100000
set_option maxHeartbeats 1000000
set_option linter.unusedVariables false
set_option linter.unusedSimpArgs false
namespace Go.Proofs.Ytgokmkceplkngaa
open Go Go.RowKit

theorem Get_short (p : Nat) (T : Nat → Prop) (bs : List UInt8) (k n : Nat) (w : World) (h : Rd w p T bs k) (hn : n ≤ 64) (hk : 8 * bs.length < k + n) :
    Calls Try.prog 57 #[.pointer (some ⟨p, 0, none⟩), .int .i64 (n : Nat)] w fun e w' => e = .returned (.tuple #[.int .u64 0, .int .i64 8]) ∧ ∃ d, w' = w.drewN d := by
  go_enter Try.func57, Try.ntmps57
  go_wp2_with fail
  refine wp_scope_straight ?_
  go_wp2_with (go_at_call 116; refine (Left_any p T bs k w h).mono ?_; rintro e w' ⟨rfl, d, rfl⟩)
  all_goals
    try rw [Exit.noGoto_ret]
    go_ret2
    exact ⟨rfl, _, rfl⟩

/-- How many bits are left of the byte at which a reader stands. -/
def toByte (k : Nat) : Nat := (8 - k % 8) % 8
theorem Rest_any (p : Nat) (T : Nat → Prop) (bs : List UInt8) (k : Nat) (w : World) (h : Rd w p T bs k) :
    Calls Try.prog 118 #[.pointer (some ⟨p, 0, none⟩)] w fun e w' => Mod (One p) w w' ∧
      ((ofBits (((bitsOf bs).drop k).take (toByte k)) ≠ 0 ∧ e = .returned (.tuple #[.slice none 0 0, .int .i64 3])) ∨
       (ofBits (((bitsOf bs).drop k).take (toByte k)) = 0 ∧ ∃ v, e = .returned (.tuple #[v, .int .i64 0]) ∧ w'.ownsRow w.heap.size 5 1 v (bs.length - (k + 7) / 8) ((bs.drop ((k + 7) / 8)).map V8))) := by
  have HH := Lib.hid h
  obtain ⟨ao, cap, hb, hs, hk, hl, hp⟩ := h
  have c1 : w.cell? ⟨p, 1, none⟩ = some (.int .i64 (k : Nat)) := hb.cell 1
  have hplt := hb.lt
  have hr : -((k : Int) % 8) % 8 = ((toByte k : Nat) : Int) := by unfold toByte; omega
  have hr64 : toByte k ≤ 7 := by unfold toByte; omega
  have hkr : k + toByte k = 8 * ((k + 7) / 8) := by unfold toByte; omega
  have Hr := Lib.hid hr; have Hkr := Lib.hid hkr
  clear hr hkr
  go_enter Try.func118, Try.ntmps118
  go_wp2_with fail
  rw [Hr.out]
  refine (Get_any p T bs k (toByte k) w HH.out (by omega) (by have := Hkr.out; omega)).mono ?_
  rintro e w1 ⟨rfl, hm, hw1⟩
  obtain ⟨v, hv⟩ : ∃ v, ofBits (((bitsOf bs).drop k).take (toByte k)) = v := ⟨_, rfl⟩
  rw [hv]
  have Hv := Lib.hid hv; clear hv
  obtain ⟨ao1, cap1, hb1, hs1, hk1, _, _⟩ := hw1
  have d0 : w1.cell? ⟨p, 0, none⟩ = some (.slice ao1 bs.length cap1) := hb1.cell 0
  have d1 : w1.cell? ⟨p, 1, none⟩ = some (.int .i64 ((k + toByte k : Nat) : Int)) := hb1.cell 1
  have d2 : w1.frozen? ⟨p, 1, none⟩ = false := hb1.free 1
  have hplt1 := hb1.lt
  obtain ⟨q, hq⟩ : ∃ q, (k + 7) / 8 = q := ⟨_, rfl⟩
  have hkq := Hkr.out
  rw [hq] at hkq
  rw [hkq] at d1
  have Hq := Lib.hid hq
  have hqlen : q ≤ bs.length := by omega
  clear hb hs c1 hk1 hq hkq Hkr Hr HH hk
  by_cases hv0 : v = 0
  · subst hv0
    go_wp2_with fail
    have e1 : IntKind.i64.wrap (q : Int) = (q : Int) := IntWalk.i64_in _ (by omega)
    have e2 : (0 : Int) ≤ q := by omega
    have e3 : (q : Int) ≤ (bs.length : Int) := by omega
    obtain ⟨ao2, hif, hcut⟩ := hs1.from1 q (by simp) hqlen
    refine wp_region_still_tail 10 (by kernel_rfl) (by kernel_rfl) ?_
    simp only [List.take_succ_cons, List.take_zero, List.drop_succ_cons, List.drop_zero]
    change wpStill _ _ w1.drew _ _ _
    repeat (refine wpStill_step (fun K hK => ?_); go_simp; refine hK _ ?_; clear hK K)
    refine wpStill_nil ?_
    change wpList _ _ _ _ _ w1.drew
    go_wp2_with fail
    rw [← List.map_drop] at hcut
    have hdl : (bs.drop q).length = bs.length - q := by simp
    obtain ⟨cs, hcs⟩ : ∃ cs, bs.drop q = cs := ⟨_, rfl⟩
    rw [hcs] at hcut hdl
    rw [← hdl] at hcut ⊢
    have Hcs := Lib.hid hcs; have Hdl := Lib.hid hdl
    clear hcs hdl hs1 e1 hif
    refine (clone8 _ _ _ cs w1.drew hcut.drew (by have := Hdl.out; omega)).mono ?_
    rintro e w2 ⟨v2, rfl, hm2, hown⟩
    have hb2 := hb1.drew.mod hm2 (fun h => h)
    have d0' : w2.cell? ⟨p, 0, none⟩ = some (.slice ao1 bs.length cap1) := hb2.cell 0
    have d2' : w2.frozen? ⟨p, 1, none⟩ = false := hb2.free 1
    have d1' : w2.cell? ⟨p, 1, none⟩ = some (.int .i64 ((k + toByte k : Nat) : Int)) := hb2.cell 1
    clear d0 d1 d2
    go_wp2_with fail
    go_ret2
    have hm3 := ((hm.drew.trans' hm2 (fun _ _ h => h.elim)).setCell (p := ⟨p, 1, none⟩) (fun _ => rfl) (.int .i64 ((bs.length : Int) * 8)))
    refine ⟨hm3, .inr ⟨Hv.out, v2, rfl, ?_⟩⟩
    rw [Hq.out, ← Hdl.out, Hcs.out]
    have hsz : w.heap.size ≤ w1.drew.heap.size := hm.size
    exact ownsRow_setCell_below (a := ⟨p, 1, none⟩) (own_mono hown hsz) hplt _
  · go_wp2_with fail
    go_ret2
    refine ⟨hm.setCell (p := ⟨p, 1, none⟩) (fun _ => rfl) _, .inl ⟨by rw [Hv.out]; exact hv0, rfl⟩⟩
end Go.Proofs.Ytgokmkceplkngaa

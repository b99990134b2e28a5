import Derived.Test.YtgokmkceplkngaaPdu1
set_option maxRecDepth 100000
set_option maxHeartbeats 2000000
set_option linter.unusedVariables false
set_option linter.unusedSimpArgs false
namespace Go.Proofs.Ytgokmkceplkngaa
open Go Go.RowKit
/-- A config's ten numbers, in the order of its fields. -/
structure Cfg where
  mode : Int
  bits : Int
  window : Int
  reorder : Int
  c4 : Int
  c5 : Int
  c6 : Int
  c7 : Int
  c8 : Int
  bytes : Int
/-- A UM sender in memory at block s; its queue at block p, which holds what lies in T. -/
structure Snd (w : World) (s p : Nat) (T : Nat → Prop) (c : Cfg) (next : Nat) (q : Qst) : Prop where
  blk : Blk w s #[.pointer (some ⟨p, 0, none⟩), .int .i64 c.mode, .int .i64 c.bits, .int .i64 c.window, .int .i64 c.reorder, .int .i64 c.c4, .int .i64 c.c5, .int .i64 c.c6, .int .i64 c.c7, .int .i64 c.c8, .int .i64 c.bytes, .int .i64 (next : Int)] 108
  que : Q w p T q
  ne : s ≠ p
  nT : ¬ T s
/-- The two blocks of a sender. -/
def Two (s p : Nat) : Nat → Prop := fun k => k = s ∨ k = p

theorem umtx_queue (s p : Nat) (T : Nat → Prop) (c : Cfg) (next : Nat) (q : Qst) (w : World) (h : Snd w s p T c next q) :
    Calls Try.prog 47 #[.pointer (some ⟨s, 0, none⟩)] w fun e w' => e = .returned (.pointer (some ⟨p, 0, none⟩)) ∧ w = w' := by
  have c0 : w.cell? ⟨s, 0, none⟩ = some (.pointer (some ⟨p, 0, none⟩)) := h.blk.cell 0
  have hlt := h.blk.lt
  clear h
  go_enter Try.func47, Try.ntmps47
  go_wp2_with fail
  go_ret
  exact ⟨rfl, rfl⟩

theorem umtx_Next (s p : Nat) (T : Nat → Prop) (c : Cfg) (next : Nat) (q : Qst) (w : World) (h : Snd w s p T c next q) :
    Calls Try.prog 15 #[.pointer (some ⟨s, 0, none⟩)] w fun e w' => e = .returned (.int .i64 (next : Int)) ∧ w = w' := by
  have c0 : w.cell? ⟨s, 11, none⟩ = some (.int .i64 (next : Int)) := h.blk.cell 11
  have hlt := h.blk.lt
  clear h
  go_enter Try.func15, Try.ntmps15
  go_wp2_with fail
  go_ret
  exact ⟨rfl, rfl⟩

/-- What a call on the queue alone leaves of a sender. -/
theorem Snd.after {w w' : World} {s p : Nat} {T : Nat → Prop} {c : Cfg} {next : Nat} {q q' : Qst} (h : Snd w s p T c next q) (m : Mod (One p) w w') (hq : Q w' p (New T w) q') : Snd w' s p (New T w) c next q' :=
  ⟨h.blk.mod m (fun e => h.ne e), hq, h.ne, by
    rintro (hk | hk)
    · exact h.nT hk
    · have := h.blk.lt; omega⟩

theorem umtx_Push (s p : Nat) (T Tb : Nat → Prop) (c : Cfg) (next : Nat) (q : Qst) (ao : Option Addr) (cap : Nat) (b : List UInt8) (w : World) (h : Snd w s p T c next q) (hs : Seg w Tb ao b.length cap (b.map V8)) (hTb : ∀ k, Tb k → k ≠ p)
    (hb : b.length ≤ 1100) (h5 : q.last < 1000000000) :
    Calls Try.prog 10 #[.pointer (some ⟨s, 0, none⟩), .slice ao b.length cap] w fun e w' =>
      e = .returned (.tuple #[.int .u64 ((q.push b).1 : Int), .int .i64 ((q.push b).2.1 : Int)]) ∧ Mod (One p) w w' ∧ Snd w' s p (New T w) c next (q.push b).2.2 := by
  have H := Lib.hid h; have H5 := Lib.hid h5
  obtain ⟨n1, hn1⟩ : ∃ n1, (q.push b).1 = n1 := ⟨_, rfl⟩
  obtain ⟨n2, hn2⟩ : ∃ n2, (q.push b).2.1 = n2 := ⟨_, rfl⟩
  obtain ⟨q', hq'⟩ : ∃ q', (q.push b).2.2 = q' := ⟨_, rfl⟩
  have hp := queue_Push p T Tb q ao cap b w h.que hs hTb hb h5
  rw [hn1, hn2, hq'] at hp
  rw [hn1, hn2, hq']
  have Hp := Lib.hid hp
  clear hp hn1 hn2 hq' h h5
  go_enter Try.func10, Try.ntmps10
  go_wp2_with (first | (go_at_call 47; refine (umtx_queue s p T c next q w H.out).mono ?_; rintro e w1 ⟨rfl, rfl⟩) | (go_at_call 48; refine Hp.out.mono ?_; rintro e w1 ⟨rfl, m1, hq1⟩))
  go_ret2
  exact ⟨rfl, m1, H.out.after m1 hq1⟩

theorem umtx_Discard (s p : Nat) (T : Nat → Prop) (c : Cfg) (next : Nat) (q : Qst) (id : Nat) (w : World) (h : Snd w s p T c next q) :
    Calls Try.prog 11 #[.pointer (some ⟨s, 0, none⟩), .int .u64 (id : Int)] w fun e w' =>
      e = .returned (.int .i64 ((q.discard id).1 : Int)) ∧ Mod (One p) w w' ∧ Snd w' s p (New T w) c next (q.discard id).2 := by
  have H := Lib.hid h
  obtain ⟨n1, hn1⟩ : ∃ n1, (q.discard id).1 = n1 := ⟨_, rfl⟩
  obtain ⟨q', hq'⟩ : ∃ q', (q.discard id).2 = q' := ⟨_, rfl⟩
  have hp := queue_Discard p T q id w h.que
  rw [hn1, hq'] at hp
  rw [hn1, hq']
  have Hp := Lib.hid hp
  clear hp hn1 hq' h
  go_enter Try.func11, Try.ntmps11
  go_wp2_with (first | (go_at_call 47; refine (umtx_queue s p T c next q w H.out).mono ?_; rintro e w1 ⟨rfl, rfl⟩) | (go_at_call 49; refine Hp.out.mono ?_; rintro e w1 ⟨rfl, m1, hq1⟩))
  go_ret
  exact ⟨rfl, m1, H.out.after m1 hq1⟩

theorem umtx_Reset (s p : Nat) (T : Nat → Prop) (c : Cfg) (next : Nat) (q : Qst) (w : World) (h : Snd w s p T c next q) :
    Calls Try.prog 14 #[.pointer (some ⟨s, 0, none⟩)] w fun e w' => ∃ v, e = .returned v ∧ Mod (Two s p) w w' ∧ w'.ownsRow w.heap.size 33 1 v q.ts.length (idCells q.ts) ∧ Snd w' s p T c 0 q.clear := by
  have H := Lib.hid h
  have hp := queue_Clear p T q w h.que
  have hb := h.blk
  have hne := h.ne
  have Hp := Lib.hid hp
  clear hp h
  go_enter Try.func14, Try.ntmps14
  go_wp2_with (first | (go_at_call 47; refine (umtx_queue s p T c next q w H.out).mono ?_; rintro e w1 ⟨rfl, rfl⟩) | (go_at_call 60; refine Hp.out.mono ?_; rintro e w1 ⟨v, rfl, m1, hown, hq1⟩; have hb1 := hb.mod m1 (fun e => hne e); have f1 : w1.frozen? ⟨s, 11, none⟩ = false := hb1.free 11; have c1 : w1.cell? ⟨s, 11, none⟩ = some (.int .i64 (next : Int)) := hb1.cell 11; have hlt1 := hb1.lt; have Hown := Lib.hid hown; have Hq1 := Lib.hid hq1; clear hown hq1))
  go_ret
  have hs : s < w.heap.size := H.out.blk.lt
  have mm : Mod (One s) w1 (w1.setCell ⟨s, 11, none⟩ (.int .i64 0)) := Mod.setCell (F := One s) (Mod.refl (One s) w1) (p := ⟨s, 11, none⟩) (fun _ => (rfl : s = s)) _
  refine ⟨v, rfl, (m1.mono (fun k _ hk => .inr hk)).trans (mm.mono (fun k _ hk => .inl hk)), own_mod Hown.out mm (fun g _ hg h => by cases h; omega), ?_, ?_, hne, H.out.nT⟩
  · have hb2 := hb1.setCell 11 (.int .i64 0)
    simp only [List.setIfInBounds_toArray, List.set_cons_zero, List.set_cons_succ] at hb2
    exact hb2
  · exact Hq1.out.mod mm (fun h => hne h.symm) (fun k _ hk h => by cases h; exact H.out.nT hk)
end Go.Proofs.Ytgokmkceplkngaa

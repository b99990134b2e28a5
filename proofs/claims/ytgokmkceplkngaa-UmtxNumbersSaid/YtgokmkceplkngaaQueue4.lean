import Derived.Test.YtgokmkceplkngaaQueue3
set_option maxRecDepth 100000
set_option maxHeartbeats 2000000
set_option linter.unusedVariables false
set_option linter.unusedSimpArgs false
namespace Go.Proofs.Ytgokmkceplkngaa
open Go Go.RowKit

theorem queue_Push_bad (p : Nat) (T : Nat → Prop) (q : Qst) (ao : Option Addr) (n cap : Nat) (w : World) (h : Q w p T q) (hn : n ≤ 1100)
    (hbad : n = 0 ∨ 1000 < n ∨ 64 ≤ q.ts.length ∨ q.room < q.bytes + n) :
    Calls Try.prog 48 #[.pointer (some ⟨p, 0, none⟩), .slice ao n cap] w fun e w' =>
      ∃ er : Int, e = .returned (.tuple #[.int .u64 0, .int .i64 er]) ∧ er = (if n = 0 then 1 else if 1000 < n then 2 else 5) ∧ Mod Nil w w' := by
  have H := Lib.hid h
  obtain ⟨aol, capl, vs, hb, hvl, hseg, hbv, hTp, hok⟩ := h
  have hroom := hok.room
  have hby : q.bytes ≤ 64000 := by have := hok.sum; unfold Qst.bytes; omega
  have hl64 := hok.n
  clear hok hseg hbv
  have c0 : w.cell? ⟨p, 0, none⟩ = some (.int .i64 (q.room : Int)) := hb.cell 0
  have c1 : w.cell? ⟨p, 1, none⟩ = some (.slice aol q.ts.length capl) := hb.cell 1
  have c4 : w.cell? ⟨p, 4, none⟩ = some (.int .i64 (q.bytes : Int)) := hb.cell 4
  have hplt := hb.lt
  have e1 : IntKind.i64.wrap ((q.room : Int) - (q.bytes : Int)) = (q.room : Int) - (q.bytes : Int) := IntWalk.i64_in _ (by omega)
  clear hb
  generalize hby' : (q.bytes : Int) = qb at *
  by_cases h0 : n = 0
  · subst h0
    clear hbad hby
    go_enter Try.func48, Try.ntmps48
    go_wp2_with (go_at_call 102; refine (queue_made p T q w H.out).mono ?_; rintro e w1 ⟨rfl, rfl⟩)
    go_ret2
    exact ⟨1, rfl, rfl, Mod.refl _ _⟩
  · have g1 : ((n : Int) == 0) = false := by simp only [beq_eq_false_iff_ne]; omega
    by_cases h1 : 1000 < n
    · have g2 : decide (1000 < (n : Int)) = true := by simp; omega
      obtain ⟨E, hE⟩ : ∃ E : Int, (if n = 0 then (1 : Int) else if 1000 < n then 2 else 5) = E := ⟨_, rfl⟩
      rw [hE]
      rw [if_neg h0, if_pos h1] at hE
      subst hE
      clear hbad hby h0
      go_enter Try.func48, Try.ntmps48
      go_wp2_with (go_at_call 102; refine (queue_made p T q w H.out).mono ?_; rintro e w1 ⟨rfl, rfl⟩)
      go_ret2
      exact ⟨2, rfl, rfl, Mod.refl _ _⟩
    · have g2 : decide (1000 < (n : Int)) = false := by simp; omega
      obtain ⟨E, hE⟩ : ∃ E : Int, (if n = 0 then (1 : Int) else if 1000 < n then 2 else 5) = E := ⟨_, rfl⟩
      rw [hE]
      rw [if_neg h0, if_neg h1] at hE
      subst hE
      by_cases h3 : 64 ≤ q.ts.length
      · have g3 : decide (64 ≤ (q.ts.length : Int)) = true := by simp; omega
        clear hbad hby h0 h1 hvl
        go_enter Try.func48, Try.ntmps48
        go_wp2_with (go_at_call 102; refine (queue_made p T q w H.out).mono ?_; rintro e w1 ⟨rfl, rfl⟩)
        go_quiet (fail)
        go_wp2_with fail
        go_ret2
        exact ⟨5, rfl, rfl, Mod.drewN_nil _ _⟩
      · have g3 : decide (64 ≤ (q.ts.length : Int)) = false := by simp; omega
        have g4 : decide ((q.room : Int) - qb < (n : Int)) = true := by simp; omega
        clear hbad hby h0 h1 hvl
        go_enter Try.func48, Try.ntmps48
        go_wp2_with (go_at_call 102; refine (queue_made p T q w H.out).mono ?_; rintro e w1 ⟨rfl, rfl⟩)
        go_quiet (fail)
        go_wp2_with fail
        go_ret2
        exact ⟨5, rfl, rfl, Mod.drewN_nil _ _⟩

theorem Q.widen {w : World} {p : Nat} {T T' : Nat → Prop} {q : Qst} (h : Q w p T q) (hT : ∀ k, k < w.heap.size → T k → T' k) (hp : ¬ T' p) : Q w p T' q := by
  obtain ⟨ao, cap, vs, hb, h1, h2, h3, h4, h5⟩ := h
  exact ⟨ao, cap, vs, hb, h1, h2.mono hT, fun i v hv => (h3 i v hv).mono hT, hp, h5⟩
theorem Q.nT {w : World} {p : Nat} {T : Nat → Prop} {q : Qst} (h : Q w p T q) : ¬ T p := by
  obtain ⟨ao, cap, vs, hb, h1, h2, h3, h4, h5⟩ := h; exact h4
theorem Q.ok {w : World} {p : Nat} {T : Nat → Prop} {q : Qst} (h : Q w p T q) : q.Ok := by
  obtain ⟨ao, cap, vs, hb, h1, h2, h3, h4, h5⟩ := h; exact h5
/-- Blocks that are new do not matter to a queue. -/
theorem Q.new {w w' : World} {p : Nat} {T : Nat → Prop} {q : Qst} (h : Q w p T q) (m : Mod Nil w w') : Q w' p (New T w) q :=
  (h.mod m (fun h => h) (fun _ _ _ h => h)).widen (fun k _ hk => .inl hk) (by rintro (hk | hk); exact h.nT hk; have := h.lt; omega)

theorem queue_Push (p : Nat) (T Tb : Nat → Prop) (q : Qst) (ao : Option Addr) (cap : Nat) (b : List UInt8) (w : World) (h : Q w p T q) (hs : Seg w Tb ao b.length cap (b.map V8)) (hTb : ∀ k, Tb k → k ≠ p)
    (hb : b.length ≤ 1100) (h5 : q.last < 1000000000) :
    Calls Try.prog 48 #[.pointer (some ⟨p, 0, none⟩), .slice ao b.length cap] w fun e w' =>
      e = .returned (.tuple #[.int .u64 ((q.push b).1 : Int), .int .i64 ((q.push b).2.1 : Int)]) ∧ Mod (One p) w w' ∧ Q w' p (New T w) (q.push b).2.2 := by
  by_cases hbad : b.length = 0 ∨ 1000 < b.length ∨ 64 ≤ q.ts.length ∨ q.room < q.bytes + b.length
  · refine (queue_Push_bad p T q ao b.length cap w h hb hbad).mono ?_
    rintro e w' ⟨er, rfl, her, m⟩
    have hp : q.push b = (0, (if b.length = 0 then 1 else if 1000 < b.length then 2 else 5), q) := by
      unfold Qst.push
      split
      · rfl
      · split
        · rfl
        · rw [if_pos (by omega)]
    rw [hp]
    refine ⟨?_, m.mono (fun _ _ hk => hk.elim), h.new m⟩
    rw [her]
    simp only
    split
    · rfl
    · split <;> rfl
  · refine (queue_Push_ok p T Tb q ao cap b w h hs hTb (by omega) (by omega) (by omega) (by omega) h5).mono ?_
    rintro e w' ⟨rfl, m, hq⟩
    have hp : q.push b = (q.last + 1, 0, { q with last := q.last + 1, ts := q.ts ++ [(q.last + 1, b)] }) := by
      unfold Qst.push
      rw [if_neg (by omega), if_neg (by omega), if_neg (by omega)]
    rw [hp]
    exact ⟨rfl, m, hq⟩

theorem Qst.Ok.front {q : Qst} (hok : q.Ok) (h0 : ¬ q.ts.length = 0) : q.taken < (q.ts.getD 0 (0, [])).2.length ∧ (q.ts.getD 0 (0, [])).2.length ≤ 1000 := by
  have h1 := hok.taken
  have h2 := hok.each
  cases hq : q.ts with
  | nil => rw [hq] at h0; simp at h0
  | cons t ts =>
    rw [hq] at h1 h2
    exact ⟨h1, (h2 t (by simp)).2⟩
/-- Take of nothing: an error, and nothing is changed. -/
theorem queue_Take_zero (p : Nat) (T : Nat → Prop) (q : Qst) (w : World) (h : Q w p T q) :
    Calls Try.prog 65 #[.pointer (some ⟨p, 0, none⟩), .int .i64 0] w fun e w' =>
      e = .returned (.tuple #[.slice none 0 0, .bool false, .int .i64 (if q.ts.length = 0 then 4 else 1)]) ∧ Mod Nil w w' := by
  by_cases h0 : q.ts.length = 0
  · refine (queue_Take_none p T q 0 w h h0).mono ?_
    rintro e w' ⟨rfl, rfl⟩
    rw [if_pos h0]
    exact ⟨rfl, Mod.refl _ _⟩
  obtain ⟨E, hE⟩ : ∃ E : Int, (if q.ts.length = 0 then (4 : Int) else 1) = E := ⟨_, rfl⟩
  rw [hE]; rw [if_neg h0] at hE; subst hE
  have H := Lib.hid h
  obtain ⟨ao, cap, vs, hb, hvl, hseg, hbv, hTp, hok⟩ := h
  obtain ⟨bb, off, rfl, _, hblt, hcells⟩ := hseg.get (j := 0) (by rw [txtCells_length hvl]; omega)
  have hg := txtCells_get hvl 0 (by omega)
  have hv0 : vs[0]? = some vs[0] := List.getElem?_eq_getElem (by omega)
  obtain ⟨aj, cj, hvj, hsj⟩ := hbv 0 _ hv0
  obtain ⟨b, hbq⟩ : ∃ b, (q.ts.getD 0 (0, [])).2 = b := ⟨_, rfl⟩
  rw [hbq] at hvj hsj
  have htk : q.taken < b.length ∧ b.length ≤ 1000 := by have := hok.front h0; rw [hbq] at this; exact this
  have hcj := hsj.le
  have c1 : w.cell? ⟨p, 1, none⟩ = some (.slice (some ⟨bb, off, none⟩) q.ts.length cap) := hb.cell 1
  have c2 : w.cell? ⟨p, 2, none⟩ = some (.int .i64 (q.taken : Int)) := hb.cell 2
  have d1 : w.cell? ⟨bb, off + 1, none⟩ = some (.slice aj b.length cj) := hcells 1 _ (by have h2 := hg.2; rw [hv0, hvj] at h2; exact h2)
  have h0' : ((q.ts.length : Int) == 0) = false := by simp only [beq_eq_false_iff_ne]; omega
  have g1 : 0 ≤ (q.taken : Int) := by omega
  have g2 : (q.taken : Int) ≤ (b.length : Int) := by omega
  have g3 : 0 < q.ts.length := by omega
  obtain ⟨ao2, hif, hcut⟩ := hsj.from1 q.taken (by simp) (by omega)
  have Hif := Lib.hid hif
  clear hif hg hv0 hvj hsj hok hbv hbq hcells htk h0 hcut
  go_enter Try.func65, Try.ntmps65
  go_wp2_with (go_at_call 102; refine (queue_made p T q w H.out).mono ?_; rintro e w1 ⟨rfl, rfl⟩)
  go_quiet (fail)
  go_wp2_with fail
  all_goals (go_ret3; exact ⟨rfl, Mod.drewN_nil _ _⟩)
end Go.Proofs.Ytgokmkceplkngaa

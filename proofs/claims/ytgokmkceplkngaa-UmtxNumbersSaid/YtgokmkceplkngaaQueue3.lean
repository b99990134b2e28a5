import Derived.Test.YtgokmkceplkngaaQueue2
import Derived.Deep.RegionLawGrows
import Derived.Test.YtgokmkceplkngaaHeld
import Derived.Test.YtgokmkceplkngaaSeqnum
import Derived.Deep.RegionHeld3
set_option maxRecDepth 100000
set_option maxHeartbeats 4000000
set_option linter.unusedVariables false
set_option linter.unusedSimpArgs false
namespace Go.Proofs.Ytgokmkceplkngaa
open Go Go.RowKit

section
variable {P : Program} (w : World) {ops : Array Oper} {o : Oper} {a : Act} {K : Act → World → Prop} {Q : Exit → Act → World → Prop} {E : Prop}
/-- append onto a slice without room behind it, as one step of a region that draws. -/
theorem step_app_full (hg : o.guard = none) (s x : Operand) (t : TypeId) (hop : o.op = Op.call { callee := Callee.builtin Builtin.append, args := #[s, x], argTypes := #[t, t] })
    (e : TypeId) (i : TypeInfo) (z : Value) (size bytes : Nat) (h1 : P.underlying t = some (.slice e)) (h2 : P.info? e = some i) (h3 : i.zero = some z) (h4 : i.size = size) (h5 : i.bytes = bytes) (h6 : z.cells.size = size) (h7 : 0 < size)
    (T0 : Nat → Prop) (ao0 : Option Addr) (n : Nat) (xs : List Value) (hs : a.eval s = .slice ao0 n n) (hdst : Seg w T0 ao0 n n xs) (hxs : xs.length = n * size)
    (T : Nat → Prop) (ao : Option Addr) (m c : Nat) (news : List Value) (hx : a.eval x = .slice ao m c) (hsrc : Seg w T ao m c news) (hn : news.length = m * size) (h1c : ∀ u ∈ news, u.oneCell' = true) (hm : 0 < m)
    (b1 : n + m ≤ maxLen) (b2 : (n + m) * bytes ≤ 140737488355328)
    (hK : ∀ v' w', w'.ownsRow w.heap.size e size v' (n + m) (xs ++ news) → w.grownBy w' none → K (a.put o.dst v') w') :
    if Region.wanted o (yielded ops a.tmps) = true then Oper.wp P o a w K Q else E := by
  have hne : news ≠ [] := by
    rintro rfl
    have : m * size = 0 := by simpa using hn.symm
    have := Nat.mul_pos hm h7
    omega
  obtain ⟨b, off, rfl, hb, hcell⟩ := hsrc.at_ hne
  refine step_append_grows hg s x t hop e i z size bytes h1 h2 h3 h4 h5 h6 h7 ao0 n n xs hs (fun h => ?_) hxs (fun b' hb' j u hj => ?_) ⟨b, off, none⟩ m c news hx hn (fun j u hj => by rw [Addr.add_lit]; exact hcell j u hj) h1c (by omega) b1 b2 hK
  · have := hdst.nil h; exact ⟨this, this⟩
  · obtain ⟨b2, off2, e2, _, hcell2⟩ := hdst.at_ (by rintro rfl; simp at hj)
    rw [e2] at hb'
    injection hb' with hb'
    subst hb'
    rw [Addr.add_lit]; exact hcell2 j u hj
end

theorem txtSum_le {ts : List Txt} (h : ∀ t ∈ ts, 1 ≤ t.2.length ∧ t.2.length ≤ 1000) : txtSum ts ≤ 1000 * ts.length := by
  induction ts with
  | nil => simp [txtSum]
  | cons t ts ih =>
    have h1 := ih (fun t ht => h t (by simp [ht]))
    have h2 := h t (by simp)
    simp only [txtSum, List.map_cons, List.sum_cons, List.length_cons] at h1 ⊢
    omega
/-- What Push does. -/
def Qst.push (q : Qst) (b : List UInt8) : Nat × Nat × Qst :=
  if b.length = 0 then (0, 1, q) else if 1000 < b.length then (0, 2, q) else
  if 64 ≤ q.ts.length ∨ q.room < q.bytes + b.length then (0, 5, q) else (q.last + 1, 0, { q with last := q.last + 1, ts := q.ts ++ [(q.last + 1, b)] })

theorem queue_Push_ok (p : Nat) (T Tb : Nat → Prop) (q : Qst) (ao : Option Addr) (cap : Nat) (b : List UInt8) (w : World) (h : Q w p T q) (hs : Seg w Tb ao b.length cap (b.map V8)) (hTb : ∀ k, Tb k → k ≠ p)
    (h1 : 1 ≤ b.length) (h2 : b.length ≤ 1000) (h3 : q.ts.length < 64) (h4 : q.bytes + b.length ≤ q.room) (h5 : q.last < 1000000000) :
    Calls Try.prog 48 #[.pointer (some ⟨p, 0, none⟩), .slice ao b.length cap] w fun e w' => e = .returned (.tuple #[.int .u64 ((q.last + 1 : Nat) : Int), .int .i64 0]) ∧ Mod (One p) w w' ∧
      Q w' p (New T w) { q with last := q.last + 1, ts := q.ts ++ [(q.last + 1, b)] } := by
  have H := Lib.hid h
  obtain ⟨aol, capl, vs, hb, hvl, hseg, hbv, hTp, hok⟩ := h
  have hok' := Lib.hid hok
  have hroom := hok.room
  have c0 : w.cell? ⟨p, 0, none⟩ = some (.int .i64 (q.room : Int)) := hb.cell 0
  have c1 : w.cell? ⟨p, 1, none⟩ = some (.slice aol q.ts.length capl) := hb.cell 1
  have c3 : w.cell? ⟨p, 3, none⟩ = some (.int .u64 (q.last : Int)) := hb.cell 3
  have c4 : w.cell? ⟨p, 4, none⟩ = some (.int .i64 (q.bytes : Int)) := hb.cell 4
  have f1 : w.frozen? ⟨p, 1, none⟩ = false := hb.free 1
  have f3 : w.frozen? ⟨p, 3, none⟩ = false := hb.free 3
  have f4 : w.frozen? ⟨p, 4, none⟩ = false := hb.free 4
  have hplt := hb.lt
  have e1 : IntKind.i64.wrap ((q.room : Int) - (q.bytes : Int)) = (q.room : Int) - (q.bytes : Int) := IntWalk.i64_in _ (by omega)
  have e2 : IntKind.u64.wrap ((q.last : Int) + 1) = (q.last : Int) + 1 := IntWalk.u64_in _ (by omega)
  have g1 : ((b.length : Int) == 0) = false := by simp only [beq_eq_false_iff_ne]; omega
  have g2 : decide (64 ≤ (q.ts.length : Int)) = false := by simp; omega
  have g3 : decide ((q.room : Int) - (q.bytes : Int) < (b.length : Int)) = false := by simp; omega
  have H5 := Lib.hid h5; clear h5
  obtain ⟨i0, hi, hz0, hz1, hz2⟩ := info_parts Try.infoTxt
  go_enter Try.func48, Try.ntmps48
  go_wp2_with (go_at_call 102; refine (queue_made p T q w H.out).mono ?_; rintro e w1 ⟨rfl, rfl⟩)
  go_quiet (fail)
  go_wp2_with fail
  rename_i nq _ _ fl
  have hb2 := (show Blk (w.drewN nq) p _ _ from hb).setCell 3 (.int .u64 ((q.last : Int) + 1))
  have m2 : Mod (One p) w ((w.drewN nq).setCell ⟨p, 3, none⟩ (.int .u64 ((q.last : Int) + 1))) := Mod.setCell (F := One p) ((Mod.refl (One p) w).drewN nq) (p := ⟨p, 3, none⟩) (fun _ => (rfl : p = p)) _
  generalize (w.drewN nq).setCell ⟨p, 3, none⟩ (.int .u64 ((q.last : Int) + 1)) = w2 at hb2 m2
  simp only [List.setIfInBounds_toArray, List.set_cons_zero, List.set_cons_succ] at hb2
  have d1 : w2.cell? ⟨p, 1, none⟩ = some (.slice aol q.ts.length capl) := hb2.cell 1
  have d3 : w2.cell? ⟨p, 3, none⟩ = some (.int .u64 ((q.last : Int) + 1)) := hb2.cell 3
  have d4 : w2.cell? ⟨p, 4, none⟩ = some (.int .i64 (q.bytes : Int)) := hb2.cell 4
  have k1 : w2.frozen? ⟨p, 1, none⟩ = false := hb2.free 1
  have k4 : w2.frozen? ⟨p, 4, none⟩ = false := hb2.free 4
  have b1 : (0 : Int) ≤ (q.ts.length : Int) := by omega
  have b2 : (q.ts.length : Int) ≤ (capl : Int) := by have := hseg.le; omega
  clear c0 c1 c3 c4 f1 f3 f4 g1 g2 g3 e1 hb
  refine wp_region_noPanic (wp_region_headG (fun w' => w'.cell? ⟨p, 1, none⟩ = some (.slice aol q.ts.length capl) ∧ w'.cell? ⟨p, 3, none⟩ = some (.int .u64 ((q.last : Int) + 1)))
    [true, true, true, true, true, true, true, true, true, true, true, true, true, true, true, true, true, true, true, true, true, false, true, false, false] 25 rfl (by kernel_rfl) (by kernel_rfl) (fun _ _ _ _ _ h => h) ⟨d1, d3⟩ ?_)
  simp only [List.take_succ_cons, List.take_zero, List.drop_succ_cons, List.drop_zero]
  repeat (refine goG_take ?_ (by rfl) (fun w' hS => ?_) ?_; rotate_left; (obtain ⟨s1, s3⟩ := hS; go_simp; (try with_reducible rfl)); simp only [Act.put, List.setIfInBounds_toArray, List.set_cons_zero, List.set_cons_succ])
  refine goG_act (fun K hK => ?_)
  go_simp
  go_at_call 74
  refine (clone8 Tb ao cap b w2.drew ((hs.mod m2 (fun k _ hk => hTb k hk)).drew) (by omega)).mono ?_
  rintro e w3 ⟨v, rfl, m3, hown⟩
  obtain ⟨aob, capb, rfl, hsb⟩ := own_seg hown
  have hb3 := hb2.drew.mod m3 (fun h => h)
  try go_simp
  refine hK _ _ ⟨hb3.cell 1, hb3.cell 3⟩ ?_
  clear hK K
  try simp only [Act.put, List.setIfInBounds_toArray, List.set_cons_zero, List.set_cons_succ]
  refine goG_take ?_ (by rfl) (fun w' hS => ?_) ?_
  rotate_left
  · obtain ⟨s1, s3⟩ := hS; go_simp; (try with_reducible rfl)
  simp only [Act.put, List.setIfInBounds_toArray, List.set_cons_zero, List.set_cons_succ]
  refine goG_act (fun K hK => ?_)
  go_simp
  refine hK _ _ ⟨(hb3.alloc _).cell 1, (hb3.alloc _).cell 3⟩ ?_
  clear hK K
  try simp only [Act.put, List.setIfInBounds_toArray, List.set_cons_zero, List.set_cons_succ]
  refine goG_act (fun K hK => ?_)
  have hTp2 : ∀ k, k < w.heap.size → T k → ¬ One p k := fun k _ hk h => by cases h; exact hTp hk
  have hbp := hb2.lt
  have m5 : Mod (One p) w (w3.alloc (.cells #[.int .u64 ((q.last : Int) + 1), .slice aob b.length capb] 166)) := (m2.drew.trans (Mod.nil m3)).alloc _
  have m35 : Mod Nil w3 (w3.alloc (.cells #[.int .u64 ((q.last : Int) + 1), .slice aob b.length capb] 166)) := (Mod.refl _ w3).alloc _
  have hs5 := (hseg.take 2 q.ts.length (txtCells_length hvl) (Nat.le_refl _)).mod m5 hTp2
  rw [List.take_of_length_le (by rw [txtCells_length hvl]; omega)] at hs5
  have hsz3 := m3.size
  rw [show w2.drew.heap.size = w2.heap.size from rfl] at hsz3
  refine step_app_full _ rfl _ _ 162 rfl 166 i0 _ 2 32 Try.underlying162 hi hz0 hz1 hz2 rfl (by decide) T aol q.ts.length _ rfl hs5 (txtCells_length hvl) (From w3.heap.size) (some ⟨w3.heap.size, 0, none⟩) 1 1 _ rfl
    (seg_new w3 #[.int .u64 ((q.last : Int) + 1), .slice aob b.length capb] 166 1 (by omega)) rfl (by intro u hu; simp at hu; rcases hu with rfl | rfl <;> rfl) (by omega) (by unfold maxLen; omega) (by omega) ?_
  intro v6 w6 hown6 hgr6
  obtain ⟨ao6, cap6, rfl, hs6⟩ := own_seg hown6
  have m56 := Mod.of_grown (row := .int .i64 0) (show World.grownBy _ w6 (Value.ownBlock (.int .i64 0)) from hgr6)
  have m56' : Mod Nil (w3.alloc (.cells #[.int .u64 ((q.last : Int) + 1), .slice aob b.length capb] 166)) w6 := m56.mono (fun k _ hk => by cases hk)
  have m36 : Mod Nil w3 w6 := m35.trans m56'
  have hb6 := hb3.mod m36 (fun h => h)
  refine hK _ _ ⟨hb6.cell 1, hb6.cell 3⟩ ?_
  clear hK K
  try simp only [Act.put, List.setIfInBounds_toArray, List.set_cons_zero, List.set_cons_succ]
  refine goG_end ?_
  have t1 : w6.cell? ⟨p, 1, none⟩ = some (.slice aol q.ts.length capl) := hb6.cell 1
  have t4 : w6.cell? ⟨p, 4, none⟩ = some (.int .i64 (q.bytes : Int)) := hb6.cell 4
  have t3 : w6.cell? ⟨p, 3, none⟩ = some (.int .u64 ((q.last : Int) + 1)) := hb6.cell 3
  have r1 : w6.frozen? ⟨p, 1, none⟩ = false := hb6.free 1
  have r4 : w6.frozen? ⟨p, 4, none⟩ = false := hb6.free 4
  have hpl6 := hb6.lt
  have e4 : IntKind.i64.wrap ((q.bytes : Int) + (b.length : Int)) = (q.bytes : Int) + (b.length : Int) := IntWalk.i64_in _ (by omega)
  clear d1 d3 d4 k1 k4 e2
  go_wp2_with fail
  refine NoPanic.normal ?_
  go_wp2_with fail
  go_ret2
  have hmm6 : Mod (One p) w6 ((w6.setCell ⟨p, 1, none⟩ (.slice ao6 (q.ts.length + 1) cap6)).setCell ⟨p, 4, none⟩ (.int .i64 ((q.bytes : Int) + (b.length : Int)))) :=
    ((Mod.refl (One p) w6).setCell (p := ⟨p, 1, none⟩) (fun _ => rfl) _).setCell (p := ⟨p, 4, none⟩) (fun _ => rfl) _
  have m06 : Mod (One p) w w6 := m5.trans (Mod.nil m56')
  have hmm : Mod (One p) w _ := m06.trans hmm6
  have hsz2 := m2.size
  have hsz6 := m36.size
  have hpw := hplt
  refine ⟨by rw [show ((q.last + 1 : Nat) : Int) = (q.last : Int) + 1 by omega]; rfl, hmm, ?_⟩
  refine ⟨ao6, cap6, vs ++ [.slice aob b.length capb], ?_, by simp [hvl], ?_, fun i x hx => ?_, ?_, ?_⟩
  · have k5 := (hb6.setCell 1 (.slice ao6 (q.ts.length + 1) cap6)).setCell 4 (.int .i64 ((q.bytes : Int) + (b.length : Int)))
    have hsum : txtSum (q.ts ++ [(q.last + 1, b)]) = txtSum q.ts + b.length := by simp [txtSum]
    have htk : q.taken ≤ txtSum q.ts := by
      have := hok'.out.taken
      revert this
      cases hq : q.ts with
      | nil => intro h; simp [txtSum]; omega
      | cons t ts => intro h; simp [txtSum]; omega
    have e5 : (({ q with last := q.last + 1, ts := q.ts ++ [(q.last + 1, b)] } : Qst).bytes : Int) = (q.bytes : Int) + (b.length : Int) := by
      unfold Qst.bytes; simp only [hsum]; omega
    simp only [e5, List.length_append, List.length_cons, List.length_nil, Nat.zero_add]
    rw [show ((q.last + 1 : Nat) : Int) = (q.last : Int) + 1 by omega]
    exact k5
  · simp only [List.length_append, List.length_cons, List.length_nil, Nat.zero_add]
    rw [txtCells_append hvl]
    have h8 : txtCells [(q.last + 1, b)] [Value.slice aob b.length capb] = [.int .u64 ((q.last : Int) + 1), .slice aob b.length capb] := by simp [txtCells]
    rw [h8]
    refine (hs6.mod hmm6 (fun k _ hk h => ?_)).mono (fun k _ hk => .inr ?_)
    · cases h; simp [From] at hk; omega
    · simp [From] at hk; omega
  · rw [List.getElem?_append] at hx
    split at hx
    · rename_i hi
      have := ((hbv i x hx).mod hmm (fun k _ hk h => by cases h; exact hTp hk)).mono (T' := New T w) (fun k _ hk => .inl hk)
      simpa [List.getD_eq_getElem?_getD, List.getElem?_append, show i < q.ts.length by omega] using this
    · rename_i hi
      have hi2 : i = vs.length := by
        have := (List.getElem?_eq_some_iff.1 hx).1
        simp at this; omega
      subst hi2
      simp at hx
      subst hx
      simp only [List.getD_eq_getElem?_getD, hvl, List.getElem?_append_right (Nat.le_refl _), Nat.sub_self, List.getElem?_cons_zero, Option.getD_some]
      refine ⟨aob, capb, rfl, ((hsb.mod m36 (fun _ _ _ h => h)).mod hmm6 (fun k _ hk h => ?_)).mono (fun k _ hk => .inr ?_)⟩
      · cases h; simp [From] at hk; have : p < w2.drew.heap.size := hbp; omega
      · simp only [From] at hk; have : w2.drew.heap.size = w2.heap.size := rfl; omega
  · rintro (hk | hk)
    · exact hTp hk
    · omega
  · have ok := hok'.out
    refine ⟨ok.room0, ok.room, by simp; omega, fun t ht => ?_, ?_, ?_, by have := H5.out; simp only; omega⟩
    · simp only [List.mem_append, List.mem_singleton] at ht
      rcases ht with ht | rfl
      · exact ok.each t ht
      · exact ⟨h1, h2⟩
    · have h9 := ok.taken
      revert h9
      cases hq : q.ts with
      | nil => intro h; simp only [List.nil_append]; omega
      | cons t ts => intro h; simpa using h
    · have hs := txtSum_le ok.each
      simp only [txtSum, List.map_append, List.sum_append, List.map_cons, List.map_nil, List.sum_cons, List.sum_nil] at hs ⊢
      omega
end Go.Proofs.Ytgokmkceplkngaa

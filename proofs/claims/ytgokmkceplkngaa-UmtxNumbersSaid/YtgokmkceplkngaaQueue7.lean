import Derived.Test.YtgokmkceplkngaaQueue6
set_option maxRecDepth 100000
set_option maxHeartbeats 2000000
set_option linter.unusedVariables false
set_option linter.unusedSimpArgs false
namespace Go.Proofs.Ytgokmkceplkngaa
open Go Go.RowKit
theorem Try.infoU64 : (Try.prog.info? 33).map (fun i => (i.zero, i.size, i.bytes)) = some (some (.int .u64 0), 1, 8) := by kernel_rfl
/-- A number of a text as a cell. -/
def VU (n : Nat) : Value := .int .u64 (n : Int)
def idCells (ts : List Txt) : List Value := ts.map fun t => VU t.1

theorem queue_IDs (p : Nat) (T : Nat → Prop) (q : Qst) (w : World) (h : Q w p T q) :
    Calls Try.prog 119 #[.pointer (some ⟨p, 0, none⟩)] w fun e w' => ∃ v, e = .returned v ∧ Mod Nil w w' ∧ w'.ownsRow w.heap.size 33 1 v q.ts.length (idCells q.ts) := by
  obtain ⟨i0, hi, hz0, hz1, hz2⟩ := info_parts Try.infoU64
  obtain ⟨ao, cap, vs, hb, hvl, hseg, hbv, hTp, hok⟩ := h
  have hl64 := hok.n
  have c1 : w.cell? ⟨p, 1, none⟩ = some (.slice ao q.ts.length cap) := hb.cell 1
  have hplt := hb.lt
  have Hseg := Lib.hid hseg; have Hbv := Lib.hid hbv; have Hvl := Lib.hid hvl
  clear hok hseg hbv hvl
  go_enter Try.func119, Try.ntmps119
  go_wp2_with fail
  go_loopw [3, 13] (fun v i wr => ∃ j : Nat, j ≤ q.ts.length ∧ i = .int .i64 (j : Nat) ∧ Mod Nil w wr ∧ wr.ownsRow w.heap.size 33 1 v j (idCells (q.ts.take j))) (fun _ i _ => q.ts.length - (intOf i).toNat)
  case atStart => exact ⟨0, Nat.zero_le _, rfl, Mod.refl _ _, World.ownsRow_nil _ _ _ _⟩
  case round =>
    obtain ⟨j, hj, rfl, hm, hown⟩ := hrel
    by_cases hlt : j < q.ts.length
    · obtain ⟨bb, off, rfl, hTbb, hblt, hcells⟩ := Hseg.out.get (j := 2 * j) (by rw [txtCells_length Hvl.out]; omega)
      have hg := txtCells_get Hvl.out j hlt
      have hv0 : vs[j]? = some (vs[j]'(by rw [Hvl.out]; exact hlt)) := List.getElem?_eq_getElem (by rw [Hvl.out]; exact hlt)
      obtain ⟨aj, cj, hvj, hsj⟩ := Hbv.out j _ hv0
      obtain ⟨x, hx⟩ : ∃ x, (q.ts.getD j (0, [])).1 = x := ⟨_, rfl⟩
      obtain ⟨m, hmm⟩ : ∃ m, (q.ts.getD j (0, [])).2.length = m := ⟨_, rfl⟩
      have d0 : wr.cell? ⟨bb, off + j * 2, none⟩ = some (.int .u64 (x : Int)) := by
        rw [hm.cell hblt (fun h => h), Nat.mul_comm]; exact hcells _ _ (by rw [← hx]; exact hg.1)
      have d1 : wr.cell? ⟨bb, off + (j * 2 + 1), none⟩ = some (.slice aj m cj) := by
        rw [hm.cell hblt (fun h => h), Nat.mul_comm]; exact hcells _ _ (by rw [hg.2, hv0, hvj, hmm])
      have d1' : wr.cell? ⟨bb, off + j * 2 + 1, none⟩ = some (.slice aj m cj) := by rw [Nat.add_assoc]; exact d1
      have hsz := hm.size
      have Hx := Lib.hid hx
      have g1 : 0 ≤ (j : Int) := by omega
      have g2 : (j : Int) < (q.ts.length : Int) := by omega
      clear hg hv0 hvj hsj hcells hx hmm
      have hsn := seg_new (wr.alloc (.cells #[.int .u64 (x : Int), .slice aj m cj] 166)) #[VU x] 33 1 (by omega)
      rw [World.size_alloc] at hsn
      go_wp2_with (at_builtin; refine wpList_app _ rfl _ _ 37 rfl w.heap.size 33 i0 (.int .u64 0) 1 8 Try.underlying37 hi hz0 hz1 hz2 rfl (by decide) _ _ _ rfl ((hown.alloc _).alloc _) (From (wr.heap.size + 1)) (some ⟨wr.heap.size + 1, 0, none⟩) 1 1 [VU x] rfl hsn rfl (by intro u hu; simp at hu; subst hu; rfl) (by unfold maxLen; omega) (by omega) (by simp; omega) ?_)
      intro v1 w4 hown4 hgrow
      have hmg := hm.trans' ((((Mod.refl (BlockOf u3) wr).alloc _).alloc _).trans (Mod.of_grown hgrow)) (fun i hi h => by have := (hown.lt i h).1; omega)
      have hown5 : w4.ownsRow w.heap.size 33 1 v1 (j + 1) (idCells (q.ts.take (j + 1))) := by
        rw [List.take_add_one, List.getElem?_eq_getElem hlt]
        have h5 := Hx.out
        rw [List.getD_eq_getElem?_getD, List.getElem?_eq_getElem hlt] at h5
        simp only [Option.getD_some] at h5
        simp only [Option.toList_some, idCells, List.map_append, List.map_cons, List.map_nil, h5]
        exact hown4
      clear hown4 hgrow hown hsn
      have Hm := Lib.hid hmg; have Ho := Lib.hid hown5
      clear hmg hown5
      go_wp2_with fail
      first
      | (go_roundw
         case rel => exact ⟨j + 1, by omega, by go_num, Hm.out, Ho.out⟩
         case measure => simp [intOf]; omega)
      | exact ⟨⟨j + 1, by omega, by go_num, Hm.out, Ho.out⟩, by simp [intOf]; omega⟩
    · obtain rfl : j = q.ts.length := by omega
      have Ho := Lib.hid hown
      clear hown
      go_wp2_with fail
      go_ret
      have h3 : q.ts.take q.ts.length = q.ts := List.take_length
      have h4 := Ho.out
      rw [h3] at h4
      exact ⟨_, rfl, hm, h4⟩

/-- A queue behind Clear. -/
def Qst.clear (q : Qst) : Qst := { q with taken := 0, ts := [] }

theorem queue_Clear (p : Nat) (T : Nat → Prop) (q : Qst) (w : World) (h : Q w p T q) :
    Calls Try.prog 60 #[.pointer (some ⟨p, 0, none⟩)] w fun e w' => ∃ v, e = .returned v ∧ Mod (One p) w w' ∧ w'.ownsRow w.heap.size 33 1 v q.ts.length (idCells q.ts) ∧ Q w' p T q.clear := by
  have H := Lib.hid h
  obtain ⟨ao, cap, vs, hb, hvl, hseg, hbv, hTp, hok⟩ := h
  have Hok := Lib.hid hok
  have hplt := hb.lt
  clear hok hseg hbv hvl
  go_enter Try.func60, Try.ntmps60
  go_wp2_with (go_at_call 119; refine (queue_IDs p T q w H.out).mono ?_; rintro e w1 ⟨v, rfl, m1, hown⟩)
  have H1 : Q w1 p T q := H.out.mod m1 (fun h => h) (fun _ _ _ h => h)
  have hb1 := hb.mod m1 (fun h => h)
  have f1 : w1.frozen? ⟨p, 1, none⟩ = false := hb1.free 1
  have f2 : w1.frozen? ⟨p, 2, none⟩ = false := hb1.free 2
  have f4 : w1.frozen? ⟨p, 4, none⟩ = false := hb1.free 4
  have c1 : w1.cell? ⟨p, 1, none⟩ = some (.slice ao q.ts.length cap) := hb1.cell 1
  have c2 : w1.cell? ⟨p, 2, none⟩ = some (.int .i64 (q.taken : Int)) := hb1.cell 2
  have c4 : w1.cell? ⟨p, 4, none⟩ = some (.int .i64 (q.bytes : Int)) := hb1.cell 4
  have hplt1 := hb1.lt
  have Hown := Lib.hid hown; have H1' := Lib.hid H1
  clear hown H1
  go_wp2_with (go_at_call 102; refine (queue_made p T q w1 H1'.out).mono ?_; rintro e w2 ⟨rfl, rfl⟩)
  go_ret
  have hmm1 : Mod (One p) w1 (((w1.setCell ⟨p, 1, none⟩ (.slice none 0 0)).setCell ⟨p, 2, none⟩ (.int .i64 0)).setCell ⟨p, 4, none⟩ (.int .i64 0)) :=
    (((Mod.refl (One p) w1).setCell (p := ⟨p, 1, none⟩) (fun _ => rfl) _).setCell (p := ⟨p, 2, none⟩) (fun _ => rfl) _).setCell (p := ⟨p, 4, none⟩) (fun _ => rfl) _
  have hb4 := ((hb1.setCell 1 (.slice none 0 0)).setCell 2 (.int .i64 0)).setCell 4 (.int .i64 0)
  refine ⟨v, rfl, (Mod.nil m1).trans hmm1, own_mod Hown.out hmm1 (fun g _ hg h => by cases h; omega), none, 0, [], ?_, rfl, Seg.none_ _ _, fun i x hx => by simp at hx, hTp, ?_⟩
  · simp only [List.setIfInBounds_toArray, List.set_cons_zero, List.set_cons_succ] at hb4
    exact hb4
  · have ok := Hok.out
    exact ⟨ok.room0, ok.room, Nat.zero_le _, fun t ht => by simp [Qst.clear] at ht, rfl, by simp [Qst.clear, txtSum], ok.last⟩
end Go.Proofs.Ytgokmkceplkngaa

import Derived.Test.YtgokmkceplkngaaCut1
set_option maxRecDepth 100000
set_option maxHeartbeats 2000000
set_option linter.unusedVariables false
set_option linter.unusedSimpArgs false
namespace Go.Proofs.Ytgokmkceplkngaa
open Go Go.RowKit
/-- A triple: a number, its least, its greatest. -/
abbrev Tri := Int × Int × Int
def Tri.out (t : Tri) : Bool := decide (t.1 < t.2.1) || decide (t.2.2 < t.1)
def triCells (l : List Tri) : List Value := (l.map fun t => [Value.int .i64 t.1, .int .i64 t.2.1, .int .i64 t.2.2]).flatten
theorem within_one (x lo hi : Int) (w : World) : Calls Try.prog 139 #[.agg #[.int .i64 x, .int .i64 lo, .int .i64 hi]] w fun e w' => e = .returned (.bool (Tri.out (x, lo, hi))) ∧ Mod Nil w w' := by
  obtain ⟨B, hB⟩ : ∃ B, Tri.out (x, lo, hi) = B := ⟨_, rfl⟩
  rw [hB]
  have HB := Lib.hid hB; clear hB
  go_enter Try.func139, Try.ntmps139
  go_wp2_with fail
  · rename_i h
    go_ret
    refine ⟨?_, (Mod.refl Nil w).alloc _⟩
    rw [← HB.out]
    simp [Tri.out]
    try exact .inl h
  · rename_i h
    go_ret
    refine ⟨?_, (Mod.refl Nil w).alloc _⟩
    rw [← HB.out]
    simp [Tri.out]
    try exact .inl h

theorem triCells_get {l : List Tri} {j : Nat} {t : Tri} (h : l[j]? = some t) : (triCells l)[3 * j]? = some (.int .i64 t.1) ∧ (triCells l)[3 * j + 1]? = some (.int .i64 t.2.1) ∧ (triCells l)[3 * j + 2]? = some (.int .i64 t.2.2) := by
  induction l generalizing j with
  | nil => simp at h
  | cons u us ih =>
    cases j with
    | zero =>
      simp at h; subst h
      simp [triCells]
    | succ j =>
      have := ih (j := j) (by simpa using h)
      rw [show 3 * (j + 1) = 3 * j + 1 + 1 + 1 by omega, show 3 * j + 1 + 1 + 1 + 1 = (3 * j + 1) + 1 + 1 + 1 by omega, show 3 * j + 1 + 1 + 1 + 2 = (3 * j + 2) + 1 + 1 + 1 by omega]
      simpa [triCells] using this
theorem triCells_length (l : List Tri) : (triCells l).length = 3 * l.length := by
  induction l with
  | nil => rfl
  | cons t l ih => simp only [triCells, List.map_cons, List.flatten_cons, List.length_append, List.length_cons, List.length_nil] at ih ⊢; omega

theorem within_index (l : List Tri) (T : Nat → Prop) (ao : Option Addr) (cap : Nat) (w : World) (h : Seg w T ao l.length cap (triCells l)) (hl : l.length ≤ 8) :
    Calls Try.prog 163 #[.slice ao l.length cap, .func (.func 139) #[] #[]] w fun e w' => ∃ r : Int, e = .returned (.int .i64 r) ∧ decide (0 ≤ r) = l.any Tri.out ∧ Mod Nil w w' := by
  obtain ⟨R, hR⟩ : ∃ R, l.any Tri.out = R := ⟨_, rfl⟩
  rw [hR]
  have HR := Lib.hid hR; clear hR
  have Hs := Lib.hid h; clear h
  go_enter Try.func163, Try.ntmps163
  go_wp2_with fail
  go_loopw [5, 8] (fun v i wr => ∃ j : Nat, j ≤ l.length ∧ i = .int .i64 (j : Nat) ∧ Mod Nil w wr ∧ Hid (∀ k t, k < j → l[k]? = some t → Tri.out t = false)) (fun _ i _ => l.length - (intOf i).toNat)
  case atStart => exact ⟨0, Nat.zero_le _, rfl, Mod.refl _ _, fun k t hk => absurd hk (by omega)⟩
  case round =>
    obtain ⟨j, hj, rfl, hm, hinv⟩ := hrel
    by_cases hlt : j < l.length
    · obtain ⟨bb, off, rfl, _, hblt, hcells⟩ := Hs.out.get (j := 3 * j) (by rw [triCells_length]; omega)
      obtain ⟨⟨x, lo, hi⟩, ht⟩ : ∃ t, l[j]? = some t := ⟨_, List.getElem?_eq_getElem hlt⟩
      have hg := triCells_get ht
      have d0 : wr.cell? ⟨bb, off + j * 3, none⟩ = some (.int .i64 x) := by rw [hm.cell hblt (fun h => h), Nat.mul_comm]; exact hcells _ _ hg.1
      have d1 : wr.cell? ⟨bb, off + (j * 3 + 1), none⟩ = some (.int .i64 lo) := by rw [hm.cell hblt (fun h => h), Nat.mul_comm]; exact hcells _ _ hg.2.1
      have d2 : wr.cell? ⟨bb, off + (j * 3 + 2), none⟩ = some (.int .i64 hi) := by rw [hm.cell hblt (fun h => h), Nat.mul_comm]; exact hcells _ _ hg.2.2
      have d1' : wr.cell? ⟨bb, off + j * 3 + 1, none⟩ = some (.int .i64 lo) := by rw [Nat.add_assoc]; exact d1
      have d2' : wr.cell? ⟨bb, off + j * 3 + 2, none⟩ = some (.int .i64 hi) := by rw [Nat.add_assoc]; exact d2
      have g1 : 0 ≤ (j : Int) := by omega
      have g2 : (j : Int) < (l.length : Int) := by omega
      have Ht := Lib.hid ht
      clear hg hcells ht
      go_wp2_with fail
      refine (within_one x lo hi wr).mono ?_
      rintro e w2 ⟨rfl, m2⟩
      have hm2 := hm.trans m2
      cases hB : Tri.out (x, lo, hi) with
      | true =>
        have HB := Lib.hid hB; clear hB
        go_wp2_with fail
        go_ret
        refine ⟨(j : Int), rfl, ?_, hm2⟩
        rw [← HR.out, decide_eq_true (by omega)]
        symm
        rw [List.any_eq_true]
        exact ⟨_, List.mem_of_getElem? Ht.out, HB.out⟩
      | false =>
        have HB := Lib.hid hB; have Hm := Lib.hid hm2; clear hB hm2
        go_wp2_with fail
        have hinv2 : ∀ k t, k < j + 1 → l[k]? = some t → Tri.out t = false := by
          intro k t hk htk
          by_cases hkj : k = j
          · subst hkj
            rw [Ht.out] at htk
            injection htk with htk
            rw [← htk]; exact HB.out
          · exact hinv.out k t (by omega) htk
        first
        | (go_roundw
           case rel => exact ⟨j + 1, by omega, by go_num, Hm.out, hinv2⟩
           case measure => simp [intOf]; omega)
        | exact ⟨⟨j + 1, by omega, by go_num, Hm.out, hinv2⟩, by simp [intOf]; omega⟩
    · obtain rfl : j = l.length := by omega
      go_wp2_with fail
      go_ret
      refine ⟨-1, rfl, ?_, hm⟩
      rw [← HR.out]
      symm
      rw [show decide ((0 : Int) ≤ -1) = false from rfl, List.any_eq_false]
      intro t ht
      obtain ⟨k, hk, rfl⟩ := List.getElem_of_mem ht
      rw [hinv.out k _ hk (List.getElem?_eq_getElem hk)]
      simp

theorem within_all (l : List Tri) (T : Nat → Prop) (ao : Option Addr) (cap : Nat) (w : World) (h : Seg w T ao l.length cap (triCells l)) (hl : l.length ≤ 8) :
    Calls Try.prog 85 #[.slice ao l.length cap] w fun e w' => e = .returned (.bool (!(l.any Tri.out))) ∧ Mod Nil w w' := by
  have contains : Calls Try.prog 138 #[.slice ao l.length cap, .func (.func 139) #[] #[]] w fun e w' => e = .returned (.bool (l.any Tri.out)) ∧ Mod Nil w w' := by
    have Hs := Lib.hid h; clear h
    go_enter Try.func138, Try.ntmps138
    go_wp2_with fail
    refine (within_index l T ao cap w Hs.out hl).mono ?_
    rintro e w1 ⟨r, rfl, hr, m1⟩
    have Hr := Lib.hid hr; clear hr
    go_wp2_with fail
    go_ret
    refine ⟨?_, m1⟩
    rw [← Hr.out]
    try rfl
  go_enter Try.func85, Try.ntmps85
  go_wp2_with fail
  refine contains.mono ?_
  rintro e w1 ⟨rfl, m1⟩
  go_wp2_with fail
  go_ret
  exact ⟨rfl, m1⟩
end Go.Proofs.Ytgokmkceplkngaa

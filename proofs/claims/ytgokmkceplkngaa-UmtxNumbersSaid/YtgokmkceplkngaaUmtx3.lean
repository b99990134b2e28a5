import Derived.Test.YtgokmkceplkngaaCut2
import Derived.Test.YtgokmkceplkngaaPdu4
import Derived.Test.YtgokmkceplkngaaUmd4
set_option maxRecDepth 100000
set_option maxHeartbeats 2000000
set_option linter.unusedVariables false
set_option linter.unusedSimpArgs false
namespace Go.Proofs.Ytgokmkceplkngaa
open Go Go.RowKit

theorem fieldsSum_append (a b : List (List UInt8)) : fieldsSum (a ++ b) = fieldsSum a + fieldsSum b := by simp [fieldsSum]
theorem fieldsSum_one (f : List UInt8) : fieldsSum [f] = f.length := by simp [fieldsSum]
theorem fieldsSum_take (fs : List (List UInt8)) (i : Nat) : fieldsSum (fs.take i) ≤ fieldsSum fs := by
  conv => rhs; rw [← List.take_append_drop i fs, fieldsSum_append]
  omega
theorem lsz_mono1 (n W : Nat) (h : n ≤ 23) : lsz n W = (n * (W + 1) + 7) / 8 ∨ n = 0 ∧ lsz n W = 0 := by
  unfold lsz
  by_cases h0 : n = 0
  · right; subst h0; simp
  · left; rw [if_pos (by omega)]
/-- Fields that fit. -/
structure CutFits (room W : Nat) (fs : List (List UInt8)) : Prop where
  le : fs.length ≤ 24
  each : ∀ f ∈ fs, 1 ≤ f.length ∧ f.length ≤ 1000
  sum : fs ≠ [] → fieldsSum fs + lsz (fs.length - 1) W ≤ room
theorem fiOf_le (b c : Bool) : fiOf b c ≤ 3 := by cases b <;> cases c <;> decide
theorem cutGo_fits (room W : Nat) (q : Qst) : ∀ (ts : List Txt) (tk used : Nat) (fb : Bool) (fs : List (List UInt8)) (dn : List Nat), CutFits room W fs → used = fieldsSum fs → (∀ t ∈ ts, 1 ≤ t.2.length ∧ t.2.length ≤ 1000) → (∀ t r, ts = t :: r → tk < t.2.length) →
    CutFits room W (cutGo room W q ts tk used fb fs dn).fields ∧ (cutGo room W q ts tk used fb fs dn).fi ≤ 3 ∧ (fs ≠ [] ∨ (ts ≠ [] ∧ 1 ≤ room) → (cutGo room W q ts tk used fb fs dn).fields ≠ []) := by
  intro ts
  induction ts with
  | nil =>
    intro tk used fb fs dn hF hu _ _
    refine ⟨hF, fiOf_le _ _, fun h => ?_⟩
    rcases h with h | ⟨h, _⟩
    · exact h
    · exact absurd rfl h
  | cons t rest ih =>
    intro tk used fb fs dn hF hu hE ht
    have htk := ht t rest rfl
    have hel := hE t (by simp)
    unfold cutGo
    by_cases hstop : room < used + lsz fs.length W + 1 ∨ fs.length = 24
    · rw [if_pos hstop]
      refine ⟨hF, fiOf_le _ _, fun h => ?_⟩
      rcases h with h | ⟨_, h1⟩
      · exact h
      · rintro rfl
        simp [fieldsSum] at hu
        subst hu
        simp [lsz] at hstop
        omega
    · rw [if_neg hstop]
      have hF2 : ∀ f : List UInt8, 1 ≤ f.length → f.length ≤ 1000 → f.length ≤ room - used - lsz fs.length W → CutFits room W (fs ++ [f]) := fun f h1 h2 h3 =>
        ⟨by have := hF.le; simp; omega, fun x hx => by
          rcases List.mem_append.1 hx with hx | hx
          · exact hF.each x hx
          · simp at hx; subst hx; exact ⟨h1, h2⟩, fun _ => by
          rw [fieldsSum_append, fieldsSum_one, List.length_append]
          simp only [List.length_cons, List.length_nil, Nat.zero_add, Nat.add_sub_cancel]
          omega⟩
      by_cases hall : t.2.length - tk ≤ room - used - lsz fs.length W
      · rw [if_pos hall]
        have hd : (t.2.drop tk).length = t.2.length - tk := by simp
        have := ih 0 (used + (t.2.length - tk)) (fb || decide (0 < tk)) (fs ++ [t.2.drop tk]) (dn ++ [t.1]) (hF2 _ (by omega) (by omega) (by omega)) (by rw [fieldsSum_append, fieldsSum_one, hd, hu]) (fun x hx => hE x (by simp [hx])) (fun x r hxr => by
          have := hE x (by rw [hxr]; simp); omega)
        exact ⟨this.1, this.2.1, fun _ => this.2.2 (.inl (by simp))⟩
      · rw [if_neg hall]
        have hd : ((t.2.drop tk).take (room - used - lsz fs.length W)).length = room - used - lsz fs.length W := by simp; omega
        exact ⟨hF2 _ (by omega) (by omega) (by omega), fiOf_le _ _, fun _ => by simp⟩
theorem Qst.cut_fits {q : Qst} (h : q.Ok) (room W : Nat) (h1 : 1 ≤ room) (hb : q.bytes ≠ 0) : CutFits room W (q.cut room W).fields ∧ (q.cut room W).fi ≤ 3 ∧ (q.cut room W).fields ≠ [] := by
  have hne : q.ts ≠ [] := by
    intro h0
    apply hb
    unfold Qst.bytes
    rw [h0]; simp [txtSum]
  have := cutGo_fits room W q q.ts q.taken 0 false [] [] ⟨by simp, by simp, fun h => absurd rfl h⟩ (by simp [fieldsSum]) h.each (fun t r ht => by have := h.taken; rw [ht] at this; exact this)
  exact ⟨this.1, this.2.1, this.2.2 (.inr ⟨hne, h1⟩)⟩
/-- Such fields may be a packet's. -/
theorem uSize_pos (b h fi sn room : Nat) (fs : List (List UInt8)) (hf : CutFits room 11 fs) (hne : fs ≠ []) (hr : h + room ≤ 4000) (hfi : fi ≤ 3) (hsn : sn < 2 ^ b) (h1 : 1 ≤ h) : 0 < uSize b h fi sn fs := by
  have hs := hf.sum hne
  have hl := List.length_pos_iff.2 hne
  have hok : okTo (h + lsz (fs.length - 1) 11) fs fs.length = true := by
    unfold okTo
    rw [List.all_eq_true]
    intro i hi
    have hi' := List.mem_range.1 hi
    have he := hf.each (fs.getD i []) (by rw [List.getD_eq_getElem?_getD, List.getElem?_eq_getElem hi']; simp)
    have ht := fieldsSum_take fs (i + 1)
    simp only [Bool.and_eq_true, Bool.or_eq_true, decide_eq_true_eq]
    exact ⟨⟨by omega, .inl (by omega)⟩, by omega⟩
  unfold uSize
  rw [if_pos ⟨by omega, by omega, by omega, by exact_mod_cast hsn⟩]
  unfold sizeOf
  rw [if_neg (by have := hf.le; omega), if_pos hok]
  omega
end Go.Proofs.Ytgokmkceplkngaa

import Derived.Test.YtgokmkceplkngaaUmd6
import Derived.Test.YtgokmkceplkngaaUmd4
set_option maxRecDepth 100000
set_option linter.unusedVariables false
set_option linter.unusedSimpArgs false
namespace Go.Proofs.Ytgokmkceplkngaa
open Go Go.RowKit

theorem lenBits_length (W : Nat) (l : List Nat) : (lenBits W l).length = l.length * (W + 1) := by
  induction l with
  | nil => simp [lenBits]
  | cons n l ih => simp only [lenBits, List.length_cons, List.length_append, bitsN_length, ih, Nat.add_mul]; omega
theorem ofBits_one (b : Bool) : ofBits [b] = b.toNat := by cases b <;> rfl
/-- What was written as lengths is read as such. -/
theorem lensGo_write (W : Nat) (hW : 1 ≤ W) (B R : List Bool) : ∀ (l acc : List Nat) (P : List Bool) (f k : Nat), l ≠ [] → B = P ++ (lenBits W l ++ R) → P.length = k → l.length ≤ f → (∀ n ∈ l, 1 ≤ n ∧ n < 2 ^ W) →
    ofBits (R.take (toByte (k + l.length * (W + 1)))) = 0 → lensGo W B f k acc = (0, acc ++ l) := by
  intro l
  induction l with
  | nil => intro acc P f k h; exact absurd rfl h
  | cons n l ih =>
    intro acc P f k _ hB hk hf hl hR
    obtain ⟨f, rfl⟩ : ∃ g, f = g + 1 := ⟨f - 1, by simp at hf; omega⟩
    have hBl : B.length = k + (l.length + 1) * (W + 1) + R.length := by rw [hB]; simp [lenBits_length, hk]; omega
    have hmul : (l.length + 1) * (W + 1) = l.length * (W + 1) + (W + 1) := by rw [Nat.add_mul]; omega
    have hd : B.drop k = (!l.isEmpty) :: (bitsN W n ++ (lenBits W l ++ R)) := by
      rw [hB, ← hk, List.drop_left]; simp [lenBits]
    have hd1 : (B.drop (k + 1)).take W = bitsN W n := by
      rw [← List.drop_drop, hd]; simp [List.take_append]
    have hn := hl n (by simp)
    have hv : ofBits ((B.drop (k + 1)).take W) = n := by rw [hd1, ofBits_bitsN, Nat.mod_eq_of_lt hn.2]
    have hb : ofBits ((B.drop k).take 1) = (!l.isEmpty).toNat := by rw [hd]; simp only [List.take_succ_cons, List.take_zero]; exact ofBits_one _
    unfold lensGo
    rw [if_neg (by omega), if_neg (by omega), hv, if_neg (by omega), hb]
    cases l with
    | nil =>
      rw [if_neg (by simp), if_neg]
      have h2 : B.drop (k + 1 + W) = R := by
        rw [show k + 1 + W = k + (1 + W) by omega, ← List.drop_drop, hd]
        rw [Nat.add_comm 1 W, List.drop_succ_cons]
        rw [List.drop_left' (by simp)]
        simp [lenBits]
      rw [h2]
      simp only [List.length_cons, List.length_nil, Nat.zero_add, Nat.one_mul] at hR
      rw [show k + 1 + W = k + (W + 1) by omega, hR]; simp
    | cons m l' =>
      rw [if_pos (by simp)]
      have := ih (acc ++ [n]) (P ++ (lenBits W [n]).set 0 true) f (k + 1 + W) (by simp) (by
        rw [hB]; simp [lenBits]) (by simp [lenBits, hk]; omega) (by simpa using hf) (fun x hx => hl x (by simp at hx ⊢; exact .inr hx)) (by
        rw [show k + 1 + W + (m :: l').length * (W + 1) = k + ((m :: l').length + 1) * (W + 1) by rw [Nat.add_mul]; omega]
        exact hR)
      rw [this]; simp
theorem ofBits_false (n : Nat) : ofBits (List.replicate n false) = 0 := by
  induction n with
  | zero => rfl
  | succ n ih => simp [List.replicate_succ, ofBits, ih]
theorem lensRead_write (W : Nat) (hW : W = 11 ∨ W = 15) (ls rest : List UInt8) (l : List Nat) (hp : Packs ls (lenBits W l)) (h1 : 1 ≤ l.length) (h2 : l.length ≤ 23) (hl : ∀ n ∈ l, 1 ≤ n ∧ n < 2 ^ W) : lensRead W (ls ++ rest) = (0, l) := by
  have hlen := hp.length
  rw [lenBits_length] at hlen
  have hlsz : lsz 23 W = (23 * (W + 1) + 7) / 8 := by unfold lsz; rw [if_pos (by omega)]
  have hle : l.length * (W + 1) ≤ 23 * (W + 1) := Nat.mul_le_mul_right _ h2
  have hll : ls.length ≤ lsz 23 W := by rw [hlen, hlsz]; exact Nat.div_le_div_right (by omega)
  unfold lensRead
  rw [List.take_append, List.take_of_length_le hll, bitsOf_append, show bitsOf ls = _ from hp]
  have := lensGo_write W (by omega) (lenBits W l ++ pad (lenBits W l).length ++ bitsOf (rest.take (lsz 23 W - ls.length))) (pad (lenBits W l).length ++ bitsOf (rest.take (lsz 23 W - ls.length))) l [] [] 23 0 (by rintro rfl; simp at h1) (by simp) rfl h2 hl (by
    rw [lenBits_length, Nat.zero_add]
    have : toByte (l.length * (W + 1)) = (pad (l.length * (W + 1))).length := by simp [pad, padN, toByte]
    rw [this, List.take_left]
    exact ofBits_false _)
  simpa using this
theorem cutBy_flatten : ∀ (fs : List (List UInt8)), fs ≠ [] → (∀ f ∈ fs, f ≠ []) → cutBy (fs.dropLast.map List.length) fs.flatten = some fs := by
  intro fs
  induction fs with
  | nil => intro h; exact absurd rfl h
  | cons f fs ih =>
    intro _ h
    cases fs with
    | nil =>
      have := h f (by simp)
      simp [cutBy, this]
    | cons g fs' =>
      have ih' := ih (by simp) (fun x hx => h x (by simp at hx ⊢; exact .inr hx))
      rw [show (f :: g :: fs').dropLast = f :: (g :: fs').dropLast from rfl, List.map_cons, List.flatten_cons]
      unfold cutBy
      rw [if_neg (by simp), List.drop_left, ih', List.take_left]; rfl
/-- What umd.Write has written, umd.Read reads. -/
theorem uRead_write (b h : Nat) (hb : b = 5 ∧ h = 1 ∨ b = 10 ∧ h = 2) (fi sn : Nat) (fs : List (List UInt8)) (hd ls : List UInt8) (hfi : fi ≤ 3) (hsn : sn < 2 ^ b) (h1 : 1 ≤ fs.length) (h2 : fs.length ≤ 24)
    (hne : ∀ f ∈ fs, f ≠ []) (hok : ∀ f ∈ fs.dropLast, f.length ≤ 2047) (hh : bitsOf hd = uHead b h fi sn fs.length) (hp : Packs ls (lenBits 11 (fs.dropLast.map List.length))) (hsum : (hd ++ ls ++ fs.flatten).length ≤ 4000) :
    uRead b h (hd ++ ls ++ fs.flatten) = (0, fi, sn, fs) := by
  have hhd : hd.length = h := by
    have := congrArg List.length hh
    rw [bitsOf_length] at this
    simp [uHead] at this
    omega
  have hbits : bitsOf (hd ++ ls ++ fs.flatten) = uHead b h fi sn fs.length ++ bitsOf (ls ++ fs.flatten) := by
    rw [List.append_assoc, bitsOf_append, hh]
  have hdrop : (hd ++ ls ++ fs.flatten).drop h = ls ++ fs.flatten := by rw [List.append_assoc, ← hhd, List.drop_left]
  obtain ⟨X, hX⟩ : ∃ X, bitsOf (ls ++ fs.flatten) = X := ⟨_, rfl⟩
  rw [hX] at hbits
  have e0 : ofBits ((uHead b h fi sn fs.length ++ X).take (8 * h - 3 - b)) = 0 := by
    unfold uHead
    rw [List.append_assoc, List.append_assoc, List.append_assoc, List.take_left' (by simp), ofBits_bitsN]; simp
  have e1 : (uHead b h fi sn fs.length ++ X).drop (8 * h - 3 - b) = bitsN 2 fi ++ ([decide (1 < fs.length)] ++ (bitsN b sn ++ X)) := by
    unfold uHead
    simp only [List.append_assoc]
    rw [List.drop_left' (by simp)]
  have e2 : (uHead b h fi sn fs.length ++ X).drop (8 * h - 1 - b) = [decide (1 < fs.length)] ++ (bitsN b sn ++ X) := by
    rw [show 8 * h - 1 - b = 8 * h - 3 - b + 2 by omega, ← List.drop_drop, e1, List.drop_left' (by simp)]
  have e3 : (uHead b h fi sn fs.length ++ X).drop (8 * h - b) = bitsN b sn ++ X := by
    rw [show 8 * h - b = 8 * h - 1 - b + 1 by omega, ← List.drop_drop, e2]; simp
  have e4 : (1 < fs.length) → lensRead 11 (ls ++ fs.flatten) = (0, fs.dropLast.map List.length) := fun hlt =>
    lensRead_write 11 (.inl rfl) ls fs.flatten _ hp (by simp; omega) (by simp; omega) (fun n hn => by
      obtain ⟨f, hf, rfl⟩ := List.mem_map.1 hn
      have h3 := hok f hf
      have h4 := hne f (List.dropLast_subset _ hf)
      exact ⟨List.length_pos_iff.2 h4, by omega⟩)
  have e5 := cutBy_flatten fs (by rintro rfl; simp at h1) hne
  have hlsl : ls.length = ((fs.length - 1) * 12 + 7) / 8 := by have := hp.length; rw [lenBits_length] at this; simpa using this
  unfold uRead
  rw [if_neg (by omega), if_neg (by simp [hhd]), hbits, e0, if_neg (by simp), e1, e2, e3, hdrop]
  have t1 : ofBits ((bitsN 2 fi ++ ([decide (1 < fs.length)] ++ (bitsN b sn ++ X))).take 2) = fi := by rw [List.take_left' (by simp), ofBits_bitsN, Nat.mod_eq_of_lt (by omega)]
  have t2 : ofBits ((bitsN b sn ++ X).take b) = sn := by rw [List.take_left' (by simp), ofBits_bitsN, Nat.mod_eq_of_lt hsn]
  have t3 : ofBits (([decide (1 < fs.length)] ++ (bitsN b sn ++ X)).take 1) = (decide (1 < fs.length)).toNat := ofBits_one _
  rw [t1, t2, t3]
  by_cases hlt : 1 < fs.length
  · rw [e4 hlt]
    rw [if_pos (by simp [hlt]), if_neg (by simp)]
    have : (ls ++ fs.flatten).drop (lsz (fs.dropLast.map List.length).length 11) = fs.flatten := by
      rw [List.drop_left']
      rw [hlsl]; unfold lsz
      rw [if_pos (by simp; omega)]; simp
    simp only [this, e5]
  · rw [if_neg (by simp [hlt])]
    obtain ⟨f, rfl⟩ : ∃ f, fs = [f] := by
      cases fs with
      | nil => simp at h1
      | cons f t => cases t with
        | nil => exact ⟨f, rfl⟩
        | cons g t => simp at hlt
    have hls : ls = [] := List.eq_nil_of_length_eq_zero (by simpa using hlsl)
    subst hls
    simp only [List.nil_append, List.flatten_cons, List.flatten_nil, List.append_nil] at e5 ⊢
    have e6 : cutBy [] f = some [f] := e5
    rw [e6]
end Go.Proofs.Ytgokmkceplkngaa

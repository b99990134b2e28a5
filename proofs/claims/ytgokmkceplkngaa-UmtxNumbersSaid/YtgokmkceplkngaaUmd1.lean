import Derived.Test.YtgokmkceplkngaaLens2
set_option maxRecDepth 100000
set_option maxHeartbeats 1000000
set_option linter.unusedVariables false
set_option linter.unusedSimpArgs false
namespace Go.Proofs.Ytgokmkceplkngaa
open Go Go.RowKit

/-- A value that is a slice of these bytes, which lie in T. -/
def BV (w : World) (T : Nat → Prop) (v : Value) (bs : List UInt8) : Prop := Sl w T v bs.length (bs.map V8)
theorem BV.mod {w w' : World} {T F : Nat → Prop} {v : Value} {bs : List UInt8} (h : BV w T v bs) (m : Mod F w w') (hF : ∀ k, k < w.heap.size → T k → ¬ F k) : BV w' T v bs := Sl.mod h m hF
theorem BV.mono {w : World} {T T' : Nat → Prop} {v : Value} {bs : List UInt8} (h : BV w T v bs) (hT : ∀ k, k < w.heap.size → T k → T' k) : BV w T' v bs := Sl.mono h hT

/-- A slice (its address, length and capacity) of slices of bytes; all lie in T. -/
structure Rows (w : World) (T : Nat → Prop) (ao : Option Addr) (cap : Nat) (fs : List (List UInt8)) : Prop where
  ex : ∃ vs : List Value, vs.length = fs.length ∧ Seg w T ao fs.length cap vs ∧ ∀ i v, vs[i]? = some v → BV w T v (fs.getD i [])
theorem Rows.mod {w w' : World} {T F : Nat → Prop} {ao : Option Addr} {cap : Nat} {fs : List (List UInt8)} (h : Rows w T ao cap fs) (m : Mod F w w') (hF : ∀ k, k < w.heap.size → T k → ¬ F k) : Rows w' T ao cap fs := by
  obtain ⟨vs, h1, h2, h3⟩ := h.ex
  exact ⟨vs, h1, h2.mod m hF, fun i v hv => (h3 i v hv).mod m hF⟩
theorem Rows.mono {w : World} {T T' : Nat → Prop} {ao : Option Addr} {cap : Nat} {fs : List (List UInt8)} (h : Rows w T ao cap fs) (hT : ∀ k, k < w.heap.size → T k → T' k) : Rows w T' ao cap fs := by
  obtain ⟨vs, h1, h2, h3⟩ := h.ex
  exact ⟨vs, h1, h2.mono hT, fun i v hv => (h3 i v hv).mono hT⟩
theorem Rows.get {w : World} {T : Nat → Prop} {ao : Option Addr} {cap : Nat} {fs : List (List UInt8)} (h : Rows w T ao cap fs) {i : Nat} (hi : i < fs.length) :
    ∃ b off, ao = some ⟨b, off, none⟩ ∧ T b ∧ b < w.heap.size ∧ ∀ j, j < fs.length → ∃ aj cj, w.cell? ⟨b, off + j, none⟩ = some (.slice aj (fs.getD j []).length cj) ∧ Seg w T aj (fs.getD j []).length cj ((fs.getD j []).map V8) := by
  obtain ⟨vs, h1, h2, h3⟩ := h.ex
  obtain ⟨b, off, e, hb, hlt, hc⟩ := h2.get (j := i) (by omega)
  refine ⟨b, off, e, hb, hlt, fun j hj => ?_⟩
  have hj' : vs[j]? = some vs[j] := List.getElem?_eq_getElem (by omega)
  obtain ⟨aj, cj, hv, hs⟩ := h3 j _ hj'
  exact ⟨aj, cj, by rw [hc j _ hj', hv], hs⟩
theorem Rows.len {w : World} {T : Nat → Prop} {ao : Option Addr} {cap : Nat} {fs : List (List UInt8)} (h : Rows w T ao cap fs) : fs.length ≤ cap ∧ cap ≤ 9223372036854775807 := by
  obtain ⟨vs, h1, h2, h3⟩ := h.ex; exact ⟨h2.le, h2.max⟩

def fieldsSum (fs : List (List UInt8)) : Nat := (fs.map List.length).sum
theorem umd_isWidth (b : Nat) (hb : b = 5 ∨ b = 10) (w : World) : Calls Try.prog 54 #[.int .i64 (b : Nat)] w fun e w' => e = .returned (.bool true) ∧ w = w' := by
  rcases hb with rfl | rfl
  all_goals
    go_enter Try.func54, Try.ntmps54
    go_wp2_with fail
    go_ret
    exact ⟨rfl, rfl⟩
theorem umd_head (b h : Nat) (hb : b = 5 ∧ h = 1 ∨ b = 10 ∧ h = 2) (w : World) : Calls Try.prog 55 #[.int .i64 (b : Nat)] w fun e w' => e = .returned (.int .i64 (h : Nat)) ∧ w = w' := by
  rcases hb with ⟨rfl, rfl⟩ | ⟨rfl, rfl⟩
  all_goals
    go_enter Try.func55, Try.ntmps55
    go_wp2_with fail
    go_ret
    exact ⟨rfl, rfl⟩
theorem lens_SizeV (z : Int) (n W m : Nat) (hz : z = n) (hm : lsz n W = m) (hW : W = 11 ∨ W = 15) (hn : n ≤ 9223372036854775807) (w : World) : Calls Try.prog 106 #[.int .i64 z, .int .i64 (W : Nat)] w fun e w' => e = .returned (.int .i64 (m : Nat)) ∧ w = w' := by
  subst hz; subst hm; exact lens_Size n W hW hn w
theorem lsz_le (n W : Nat) (hW : W = 11 ∨ W = 15) : lsz n W ≤ 46 := by
  unfold lsz
  split
  · have : n * (W + 1) ≤ 23 * 16 := Nat.mul_le_mul (by omega) (by omega)
    omega
  · omega
/-- The round of a size: may the first fields be, and what do they come to? -/
def okTo (n : Nat) (fs : List (List UInt8)) (j : Nat) : Bool :=
  (List.range j).all fun i => decide ((fs.getD i []).length ≠ 0) && (decide ((fs.getD i []).length ≤ 2047) || decide (i + 1 = fs.length)) && decide (n + fieldsSum (fs.take (i + 1)) ≤ 4000)
theorem fieldsSum_succ (fs : List (List UInt8)) (j : Nat) (h : j < fs.length) : fieldsSum (fs.take (j + 1)) = fieldsSum (fs.take j) + (fs.getD j []).length := by
  unfold fieldsSum
  rw [List.take_add_one, List.map_append, List.sum_append, List.getElem?_eq_getElem h, List.getD_eq_getElem?_getD, List.getElem?_eq_getElem h]; simp
theorem okTo_succ (n : Nat) (fs : List (List UInt8)) (j : Nat) : okTo n fs (j + 1) = (okTo n fs j && (decide ((fs.getD j []).length ≠ 0) && (decide ((fs.getD j []).length ≤ 2047) || decide (j + 1 = fs.length)) && decide (n + fieldsSum (fs.take (j + 1)) ≤ 4000))) := by
  simp [okTo, List.range_succ]
theorem okTo_mono (n : Nat) (fs : List (List UInt8)) {i j : Nat} (h : i ≤ j) (hj : okTo n fs j = true) : okTo n fs i = true := by
  unfold okTo at *
  rw [List.all_eq_true] at *
  intro x hx
  exact hj x (by rw [List.mem_range] at *; omega)
/-- How many bytes lengths and fields have behind a head; 0: they may not be (what umd.size and amd.Size reckon). -/
def sizeOf (head W : Nat) (fs : List (List UInt8)) : Nat :=
  if fs.length < 1 ∨ 24 < fs.length then 0 else
  if okTo (head + lsz (fs.length - 1) W) fs fs.length = true then head + lsz (fs.length - 1) W + fieldsSum fs else 0

theorem umd_size (fi sn : Int) (b h : Nat) (hb : b = 5 ∧ h = 1 ∨ b = 10 ∧ h = 2) (T : Nat → Prop) (ao : Option Addr) (cap : Nat) (fs : List (List UInt8)) (w : World) (hr : Rows w T ao cap fs) (hl : ∀ j, j < fs.length → (fs.getD j []).length ≤ 9223372036854770000) :
    Calls Try.prog 178 #[.agg #[.int .i64 fi, .int .i64 sn, .slice ao fs.length cap], .int .i64 (b : Nat)] w fun e w' => e = .returned (.int .i64 (sizeOf h 11 fs : Nat)) ∧ Mod Nil w w' := by
  have hlen := hr.len
  go_enter Try.func178, Try.ntmps178
  by_cases h1 : fs.length < 1
  · go_wp2_with fail
    go_ret
    exact ⟨ret_int (by unfold sizeOf; rw [if_pos (.inl h1)]; rfl), (Mod.refl _ _).alloc _⟩
  · by_cases h2 : 24 < fs.length
    · go_wp2_with fail
      go_ret
      exact ⟨ret_int (by unfold sizeOf; rw [if_pos (.inr h2)]; rfl), (Mod.refl _ _).alloc _⟩
    · obtain ⟨m, hm⟩ : ∃ m, lsz (fs.length - 1) 11 = m := ⟨_, rfl⟩
      have hm46 : m ≤ 46 := by rw [← hm]; exact lsz_le _ _ (.inl rfl)
      have hh : h ≤ 2 := by omega
      have ew : IntKind.i64.wrap ((h : Int) + (m : Int)) = (h : Int) + (m : Int) := IntWalk.i64_in _ (by omega)
      have ew2 : IntKind.i64.wrap ((fs.length : Int) - 1) = (fs.length : Int) - 1 := IntWalk.i64_in _ (by omega)
      have hspec : sizeOf h 11 fs = if okTo (h + m) fs fs.length = true then h + m + fieldsSum fs else 0 := by
        unfold sizeOf; rw [if_neg (by omega), hm]
      obtain ⟨R, hR⟩ : ∃ R, sizeOf h 11 fs = R := ⟨_, rfl⟩
      rw [hR]
      rw [hR] at hspec
      have HR := Lib.hid hspec
      have Hm := Lib.hid hm; clear hm hspec hR
      obtain ⟨bb, off, rfl, _, hblt, hcells⟩ := hr.get (i := 0) (by omega)
      have Hcells := Lib.hid hcells; clear hcells
      have Hl := Lib.hid hl; clear hl
      go_wp2_with fail
      go_quiet (first | (go_at_call 55; exact quiet_eq (umd_head b h hb _)) | (go_at_call 106; exact quiet_eq (lens_SizeV _ (fs.length - 1) 11 m (by omega) Hm.out (by omega) (by omega) _)))
      go_wp2_with fail
      clear ew ew2
      go_loopw [5, 29] (fun nv i wr => ∃ j : Nat, j ≤ fs.length ∧ i = .int .i64 (j : Nat) ∧ okTo (h + m) fs j = true ∧ nv = .int .i64 ((h + m + fieldsSum (fs.take j) : Nat)) ∧ h + m + fieldsSum (fs.take j) ≤ 4000 ∧ ∃ d, wr = (w.alloc (.cells #[.int .i64 fi, .int .i64 sn, .slice (some ⟨bb, off, none⟩) fs.length cap] 42)).drewN d) (fun _ i _ => fs.length - (intOf i).toNat)
      case atStart => exact ⟨0, Nat.zero_le _, rfl, rfl, by simp [fieldsSum], by simp [fieldsSum]; omega, _, rfl⟩
      case round =>
        obtain ⟨j, hj, rfl, hok, rfl, hle4, d, rfl⟩ := hrel
        by_cases hlt : j < fs.length
        · obtain ⟨aj, cj, hcell, hseg⟩ := Hcells.out j hlt
          obtain ⟨f, hf⟩ : ∃ f, (fs.getD j []).length = f := ⟨_, rfl⟩
          rw [hf] at hcell hseg
          have hsum := fieldsSum_succ fs j hlt
          rw [hf] at hsum
          have hoks := okTo_succ (h + m) fs j
          rw [hf, hok, hsum] at hoks
          have hfl := Hl.out j hlt
          rw [hf] at hfl
          obtain ⟨s, hs⟩ : ∃ s, h + m + fieldsSum (fs.take j) = s := ⟨_, rfl⟩
          rw [hs] at hle4 ⊢
          rw [show h + m + (fieldsSum (fs.take j) + f) = s + f by omega] at hoks
          have Hoks := Lib.hid hoks; have Hsum := Lib.hid hsum; have Hs := Lib.hid hs; have Hok := Lib.hid hok; have Hf := Lib.hid hf
          clear hoks hsum hs hok hf
          have bad : okTo (h + m) fs (j + 1) = false → R = 0 := by
            intro h3
            rw [HR.out]
            cases h4 : okTo (h + m) fs fs.length with
            | false => rfl
            | true => have := okTo_mono _ _ (show j + 1 ≤ fs.length by omega) h4; rw [this] at h3; cases h3
          have Bad := Lib.hid bad; clear bad
          by_cases hf0 : f = 0
          · have hR0 := Bad.out (by rw [Hoks.out, hf0]; simp)
            subst hf0
            have HR0 := Lib.hid hR0; clear hR0
            go_wp2_with fail
            go_ret
            exact ⟨ret_int (by rw [HR0.out]; rfl), ((Mod.refl _ _).alloc _).drewN _⟩
          · have g1 : ¬ (f : Int) = 0 := by omega
            have g0 : ((f : Int) == 0) = false := by simp; omega
            have Hf0 := Lib.hid hf0; clear hf0
            by_cases hbig : f ≤ 2047
            · by_cases hf2 : s + f ≤ 4000
              · have hok2 : okTo (h + m) fs (j + 1) = true := by
                  rw [Hoks.out]; have := Hf0.out; simp [hbig, hf2, this]
                have Hok2 := Lib.hid hok2; clear hok2
                go_wp2_with fail
                have h6 := Hsum.out
                have h7 := Hs.out
                exact ⟨⟨j + 1, by omega, by go_num, Hok2.out, by congr 1; omega, by omega, d, rfl⟩, by simp [intOf]; omega⟩
              · have hR0 := Bad.out (by rw [Hoks.out]; simp [hf2])
                have HR0 := Lib.hid hR0; clear hR0
                go_wp2_with fail
                go_ret
                exact ⟨ret_int (by rw [HR0.out]; rfl), ((Mod.refl _ _).alloc _).drewN _⟩
            · by_cases hlast : j + 1 < fs.length
              · have hR0 := Bad.out (by rw [Hoks.out]; simp [hbig]; omega)
                have HR0 := Lib.hid hR0; clear hR0
                go_wp2_with fail
                go_ret
                exact ⟨ret_int (by rw [HR0.out]; rfl), ((Mod.refl _ _).alloc _).drewN _⟩
              · by_cases hf2 : s + f ≤ 4000
                · have hok2 : okTo (h + m) fs (j + 1) = true := by
                    rw [Hoks.out]
                    have h8 : decide (j + 1 = fs.length) = true := by simp; omega
                    have := Hf0.out
                    rw [h8]; simp [hf2, this]
                  have Hok2 := Lib.hid hok2; clear hok2
                  go_wp2_with fail
                  have h6 := Hsum.out
                  have h7 := Hs.out
                  exact ⟨⟨j + 1, by omega, by go_num, Hok2.out, by congr 1; omega, by omega, d, rfl⟩, by simp [intOf]; omega⟩
                · have hR0 := Bad.out (by rw [Hoks.out]; simp [hf2])
                  have HR0 := Lib.hid hR0; clear hR0
                  go_wp2_with fail
                  go_ret
                  exact ⟨ret_int (by rw [HR0.out]; rfl), ((Mod.refl _ _).alloc _).drewN _⟩
        · obtain rfl : j = fs.length := by omega
          have Hok := Lib.hid hok; clear hok
          go_wp2_with fail
          go_ret
          refine ⟨ret_int (by rw [HR.out, if_pos Hok.out, List.take_length]), ((Mod.refl _ _).alloc _).drewN _⟩
end Go.Proofs.Ytgokmkceplkngaa

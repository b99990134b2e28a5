import Derived.Test.YtgokmkceplkngaaUmd2
import Derived.Deep.RegionHeld3
import Derived.Deep.AppendLies
set_option maxRecDepth 100000
set_option maxHeartbeats 2000000
set_option linter.unusedVariables false
set_option linter.unusedSimpArgs false
namespace Go.Proofs.Ytgokmkceplkngaa
open Go Go.RowKit
theorem Try.infoBytes : (Try.prog.info? 30).map (fun i => (i.zero, i.size, i.bytes)) = some (some (.slice none 0 0), 1, 24) := by kernel_rfl

/-- Bytes cut into fields: one of each length, and the rest, which may not be empty. -/
def cutBy : List Nat → List UInt8 → Option (List (List UInt8))
  | [], bs => if bs.length = 0 then none else some [bs]
  | n :: l, bs => if bs.length < n then none else (cutBy l (bs.drop n)).map (bs.take n :: ·)

/-- An owned row of owned rows of bytes. -/
def OwnRowsAt (w : World) (base : Nat) (v : Value) (fs : List (List UInt8)) (vs : List Value) : Prop :=
  vs.length = fs.length ∧ w.ownsRow base 30 1 v fs.length vs ∧ ∀ (i : Nat) (x : Value), vs[i]? = some x → w.ownsRow base 5 1 x (fs.getD i []).length ((fs.getD i []).map V8)
def OwnRows (w : World) (base : Nat) (v : Value) (fs : List (List UInt8)) : Prop := ∃ vs, OwnRowsAt w base v fs vs
theorem own_bv {w : World} {base : Nat} {x : Value} {f : List UInt8} (h : w.ownsRow base 5 1 x f.length (f.map V8)) : BV w (From base) x f := own_seg h
theorem OwnRows.rows {w : World} {base : Nat} {v : Value} {fs : List (List UInt8)} (h : OwnRows w base v fs) : ∃ ao cap, v = .slice ao fs.length cap ∧ Rows w (From base) ao cap fs := by
  obtain ⟨vs, h1, h2, h3⟩ := h
  obtain ⟨ao, cap, rfl, hs⟩ := own_seg h2
  exact ⟨ao, cap, rfl, vs, h1, hs, fun i x hx => own_bv (h3 i x hx)⟩
theorem OwnRows.nil (w : World) (base : Nat) : OwnRows w base (.slice none 0 0) [] := ⟨[], rfl, World.ownsRow_nil _ _ _ _, fun i v h => by simp at h⟩
theorem OwnRowsAt.mono {w : World} {base base' : Nat} {v : Value} {fs : List (List UInt8)} {vs : List Value} (h : OwnRowsAt w base v fs vs) (hb : base' ≤ base) : OwnRowsAt w base' v fs vs :=
  ⟨h.1, own_mono h.2.1 hb, fun i x hx => own_mono (h.2.2 i x hx) hb⟩
theorem OwnRowsAt.mod {w w' : World} {F : Nat → Prop} {base : Nat} {v : Value} {fs : List (List UInt8)} {vs : List Value} (h : OwnRowsAt w base v fs vs) (m : Mod F w w') (hF : ∀ k, base ≤ k → ¬ F k) : OwnRowsAt w' base v fs vs :=
  ⟨h.1, own_mod h.2.1 m (fun g _ hg => hF g hg), fun i x hx => own_mod (h.2.2 i x hx) m (fun g _ hg => hF g hg)⟩
/-- Rows of unlike types lie in unlike blocks. -/
theorem own_apart {w : World} {b1 b2 s1 s2 n1 n2 : Nat} {e1 e2 : TypeId} {v1 v2 : Value} {x1 x2 : List Value} (h1 : w.ownsRow b1 e1 s1 v1 n1 x1) (h2 : w.ownsRow b2 e2 s2 v2 n2 x2) (hne : e1 ≠ e2) : ∀ k, v1.ownBlock = some k → v2.ownBlock ≠ some k := by
  intro k hk hk2
  rcases h1.2 with ⟨rfl, _⟩ | ⟨g, cap, cur, rfl, _, hh, _⟩
  · simp [Value.ownBlock] at hk
  · rcases h2.2 with ⟨rfl, _⟩ | ⟨g2, cap2, cur2, rfl, _, hh2, _⟩
    · simp [Value.ownBlock] at hk2
    · simp [Value.ownBlock] at hk hk2
      subst hk; subst hk2
      rw [hh] at hh2
      simp at hh2
      exact hne hh2.2
theorem OwnRowsAt.snoc {w1 w2 : World} {base : Nat} {v v2 x : Value} {fs : List (List UInt8)} {f : List UInt8} {vs : List Value} (h : OwnRowsAt w1 base v fs vs) (hx : w1.ownsRow base 5 1 x f.length (f.map V8))
    (ho : w2.ownsRow base 30 1 v2 (fs.length + 1) (vs ++ [x])) (hg : w1.grownBy w2 v.ownBlock) : OwnRowsAt w2 base v2 (fs ++ [f]) (vs ++ [x]) := by
  have hm := Mod.of_grown hg
  refine ⟨by simp [h.1], by simpa using ho, fun i y hy => ?_⟩
  by_cases hi : i < vs.length
  · rw [List.getElem?_append_left hi] at hy
    have h3 := h.2.2 i y hy
    rw [List.getD_eq_getElem?_getD, List.getElem?_append_left (by rw [← h.1]; exact hi), ← List.getD_eq_getElem?_getD]
    exact own_mod h3 hm (fun g hg1 _ hg2 => own_apart h3 h.2.1 (by decide) g hg1 hg2)
  · rw [List.getElem?_append_right (by omega)] at hy
    have hi0 : i - vs.length = 0 := by
      rcases Nat.eq_zero_or_pos (i - vs.length) with h0 | h0
      · exact h0
      · rw [List.getElem?_eq_none (by simp; omega)] at hy; cases hy
    rw [hi0] at hy
    simp at hy
    subst hy
    have hif : i = fs.length := by have := h.1; omega
    rw [List.getD_eq_getElem?_getD, hif, List.getElem?_append_right (Nat.le_refl _)]
    simp only [Nat.sub_self, List.getElem?_cons_zero, Option.getD_some]
    exact own_mod hx hm (fun g hg1 _ hg2 => own_apart hx h.2.1 (by decide) g hg1 hg2)

theorem umd_fields (T TL : Nat → Prop) (ao aol : Option Addr) (cap capl : Nat) (bs : List UInt8) (l : List Nat) (w : World) (hs : Seg w T ao bs.length cap (bs.map V8)) (hsl : Seg w TL aol l.length capl (l.map VI)) (hb : bs.length ≤ 5000) (hll : l.length ≤ 30) :
    Calls Try.prog 59 #[.slice ao bs.length cap, .slice aol l.length capl] w fun e w' => ∃ v err, e = .returned (.tuple #[v, .int .i64 (err : Nat)]) ∧ Mod Nil w w' ∧
      ((cutBy l bs = none ∧ err = 8 ∧ v = .slice none 0 0) ∨ ∃ fs, cutBy l bs = some fs ∧ err = 0 ∧ OwnRows w' w.heap.size v fs) := by
  obtain ⟨R, hR⟩ : ∃ R, cutBy l bs = R := ⟨_, rfl⟩
  rw [hR]
  have HR := Lib.hid hR; clear hR
  obtain ⟨i0, hi, hz0, hz1, hz2⟩ := info_parts Try.infoBytes
  have hlm := hsl.max
  have hll' := hsl.le
  go_enter Try.func59, Try.ntmps59
  go_wp2_with fail
  refine wp_scope_one 0 (fun a' w' => ∃ (j : Nat) (acc : List (List UInt8)) (ov : Value) (vs : List Value) (ao' : Option Addr) (cap' : Nat) (rest : List UInt8), j ≤ l.length ∧ acc.length = j ∧ Hid ((cutBy (l.drop j) rest).map (acc ++ ·) = R) ∧ rest.length ≤ 5000 ∧ Mod Nil w w' ∧ OwnRowsAt w' w.heap.size ov acc vs ∧ Seg w T ao' rest.length cap' (rest.map V8) ∧
      (∃ u2 u3 u4 u5 u8 u9 u10 u11 u12 u13 u14 u15 u16 u17 u18 u19 u20 u21 u22 u23 u24 u25 u26 u27 u28 u29 u30 u31 u32 u33 u34 u35 u36 u37 u38 u39 u40 u41 u42 u43 u44 u45 u46 u47 u48 : Value, a' = { tmps := #[.slice ao' rest.length cap', .slice aol l.length capl, u2, u3, u4, u5, ov, .int .i64 (j : Nat), u8, u9, u10, u11, u12, u13, u14, u15, u16, u17, u18, u19, u20, u21, u22, u23, u24, u25, u26, u27, u28, u29, u30, u31, u32, u33, u34, u35, u36, u37, u38, u39, u40, u41, u42, u43, u44, u45, u46, u47, u48], defers := [] }))
    (fun a' _ => l.length - (intOf (a'.tmps.getD 7 undef)).toNat) rfl ?_ ?_
  · rintro a' w' ⟨j, acc, ov, vs, ao', cap', rest, hj, hacc, hinv, hrl, hm, hown, hseg, ⟨u2, u3, u4, u5, u8, u9, u10, u11, u12, u13, u14, u15, u16, u17, u18, u19, u20, u21, u22, u23, u24, u25, u26, u27, u28, u29, u30, u31, u32, u33, u34, u35, u36, u37, u38, u39, u40, u41, u42, u43, u44, u45, u46, u47, u48, rfl⟩⟩
    by_cases hlt : j < l.length
    · obtain ⟨bb, off, rfl, _, hblt, hcells⟩ := hsl.get (j := j) (by simpa using hlt)
      have hne : some bb ≠ ov.ownBlock := fun h => by have := (hown.2.1.lt bb h.symm).1; omega
      obtain ⟨n, hn⟩ : ∃ n, l[j]? = some n := ⟨_, List.getElem?_eq_getElem hlt⟩
      have d0 : w'.cell? ⟨bb, off + j, none⟩ = some (VI n) := by rw [hm.cell hblt (fun h => h)]; exact hcells _ _ (by rw [List.getElem?_map, hn]; rfl)
      have hdrop : l.drop j = n :: l.drop (j + 1) := by
        rw [List.drop_eq_getElem_cons hlt]
        rw [List.getElem?_eq_getElem hlt] at hn
        injection hn with hn
        rw [hn]
      have hinv' := hinv.out
      rw [hdrop] at hinv'
      unfold cutBy at hinv'
      have Hinv := Lib.hid hinv'
      have Hacc := Lib.hid hacc
      clear hinv hinv' hdrop hn hcells hacc
      have g1 : 0 ≤ (j : Int) := by omega
      have g2 : (j : Int) < (l.length : Int) := by omega
      by_cases hbig : rest.length < n
      · have hR := Hinv.out
        rw [if_pos hbig] at hR
        have HR2 := Lib.hid hR; clear hR
        go_wp2_with fail
        simp only [Exit.jumps]
        go_ret2
        exact ⟨_, 8, rfl, hm, .inl ⟨HR2.out.symm, rfl, rfl⟩⟩
      · have hR := Hinv.out
        rw [if_neg hbig] at hR
        have HR2 := Lib.hid hR; clear hR Hinv
        have g3 : 0 ≤ (n : Int) := by omega
        have g4 : (n : Int) ≤ (cap' : Int) := by have := hseg.le; omega
        go_wp2_with fail
        obtain ⟨f, hf⟩ : ∃ f, rest.take n = f := ⟨_, rfl⟩
        have hfl : f.length = n := by rw [← hf, List.length_take]; omega
        have htk := hseg.take 1 n (by simp) (by omega)
        rw [Nat.mul_one, ← List.map_take, hf] at htk
        have hcl : ∀ W, Mod Nil w W → Calls Try.prog 74 #[.slice ao' n n] W fun e w' => ∃ v, e = .returned v ∧ Mod Nil W w' ∧ w'.ownsRow W.heap.size 5 1 v f.length (f.map V8) := by
          intro W hW
          have h5 := clone8 T ao' n f W (by rw [hfl]; exact htk.mod hW (fun _ _ _ h => h)) (by omega)
          rw [hfl] at h5 ⊢
          exact h5
        have Hcl := Lib.hid hcl; have Hf := Lib.hid hf; have Hfl := Lib.hid hfl; have Hown := Lib.hid hown
        have hsz := hm.size
        clear hcl hf hfl htk hown
        have hal : acc.length ≤ 30 := by have := Hacc.out; omega
        obtain ⟨ao2, hif, hcut⟩ := hseg.from1 n (by simp) (by omega)
        have g5 : (n : Int) ≤ (rest.length : Int) := by omega
        go_region_held3 (fun w' => w'.cell? ⟨bb, off + j, none⟩ = some (.int .i64 (n : Int)))
          (first
            | go_keep
            | assumption
            | (rw [hm2.cell (by show bb < w'.heap.size; omega) (fun h => h)]; assumption)
            | (rw [hgrow.cell_far _ (by simp; omega) (by assumption)]; assumption))
          (first
            | (go_simp; go_at_call 74; refine (Hcl.out _ hm.drew).mono ?_; rintro e w2 ⟨x, rfl, hm2, hownx⟩; have hsz2 : w'.heap.size ≤ w2.heap.size := hm2.size; obtain ⟨aox, capx, rfl, hsx⟩ := own_seg hownx)
            | (refine step_append_lies _ (by rfl) _ _ _ (by rfl) w.heap.size 30 i0 _ 1 24 Try.underlying40 hi hz0 hz1 hz2 rfl (by omega) ov acc.length vs (by rfl) ((own_mod Hown.out.2.1 ((Mod.refl Nil _).drew.trans hm2) (fun _ _ _ h => h)).alloc _) ⟨w2.heap.size, 0, none⟩ 1 1 [.slice aox f.length capx] (by rfl) (by rfl) (World.news_of_block (cs := #[.slice aox f.length capx]) (t := 30) (fr := (0, 0)) (heap_alloc_new w2 _)) (by simp [Value.oneCell']) (by omega) (by unfold maxLen; omega) (by omega) (by have := hm2.size; simp at this ⊢; omega) (w2.heap.size + 1) (by simp) ?_; intro gg cap w3 hown3 hgrow hat hlt3))
        have hx3 : OwnRowsAt w3 w.heap.size (.slice (some ⟨gg, 0, none⟩) (acc.length + 1) cap) (acc ++ [f]) (vs ++ [.slice aox f.length capx]) := by
          have hA := Hown.out.mod ((Mod.refl Nil _).drew.trans hm2) (fun _ _ h => h)
          have hA2 := hA.mod (F := Nil) ((Mod.refl _ w2).alloc (.cells #[.slice aox f.length capx] 30)) (fun _ _ h => h)
          exact hA2.snoc (own_mono (hownx.alloc _) hsz) hown3 hgrow
        have hm3 : Mod Nil w w3 := (hm.drew.trans hm2).trans' (((Mod.refl (BlockOf ov) w2).alloc _).trans (Mod.of_grown hgrow)) (fun i hi h => by have := (Hown.out.2.1.lt i h).1; omega)
        rw [← List.map_drop] at hcut
        have Hx3 := Lib.hid hx3; have Hm3 := Lib.hid hm3; have Hcut := Lib.hid hcut
        clear hx3 hm3 hcut hown3 hgrow hat hownx hsx hm2
        go_wp2_with fail
        go_step3
        refine ⟨rfl, ⟨j + 1, acc ++ [f], _, _, ao2, cap' - n, rest.drop n, by omega, by simp [Hacc.out], ?_, by simp; omega, Hm3.out, Hx3.out, ?_, ?_⟩, ?_⟩
        · show (cutBy (l.drop (j + 1)) (rest.drop n)).map ((acc ++ [f]) ++ ·) = R
          have h8 := HR2.out
          rw [Hf.out] at h8
          rw [← h8]
          cases cutBy (l.drop (j + 1)) (rest.drop n) <;> simp
        · have := Hcut.out
          simpa using this
        · simp only [List.length_drop]
          repeat apply Exists.intro
          rfl
        · show l.length - _ < l.length - _
          simp [intOf]; omega
    · obtain rfl : j = l.length := by omega
      have hinv' := hinv.out
      rw [List.drop_length] at hinv'
      unfold cutBy at hinv'
      have Hinv := Lib.hid hinv'
      have Hacc := Lib.hid hacc
      have hal : acc.length ≤ 30 := by omega
      have Hown := Lib.hid hown
      have hsz := hm.size
      clear hinv hinv' hacc hown
      by_cases h0 : rest.length = 0
      · have hR := Hinv.out
        rw [if_pos h0] at hR
        have HR2 := Lib.hid hR; clear hR
        have h0' : ((rest.length : Int) == 0) = true := by rw [h0]; rfl
        clear h0
        go_wp2_with fail
        simp only [Exit.jumps]
        go_ret2
        exact ⟨_, 8, rfl, hm, .inl ⟨HR2.out.symm, rfl, rfl⟩⟩
      · have hR := Hinv.out
        rw [if_neg h0] at hR
        have HR2 := Lib.hid hR; clear hR
        have h0' : ((rest.length : Int) == 0) = false := by simpa using h0
        clear h0
        go_wp2_with fail
        refine (clone8 T ao' cap' rest w' (hseg.mod hm (fun _ _ _ h => h)) (by omega)).mono ?_
        rintro e w2 ⟨x, rfl, hm2, hownx⟩
        have hsz2 := hm2.size
        obtain ⟨aox, capx, rfl, hsx⟩ := own_seg hownx
        have hA := Hown.out.mod hm2 (fun _ _ h => h)
        have HA := Lib.hid hA
        have hown2 := hA.2.1
        clear hA
        go_wp2_with (at_builtin; refine wpList_app _ rfl _ _ 40 rfl w.heap.size 30 i0 (.slice none 0 0) 1 24 Try.underlying40 hi hz0 hz1 hz2 rfl (by decide) _ _ _ rfl (hown2.alloc _) (From w2.heap.size) (some ⟨w2.heap.size, 0, none⟩) 1 1 [.slice aox rest.length capx] rfl (seg_new w2 #[.slice aox rest.length capx] 30 1 (by omega)) rfl (by simp [Value.oneCell']) (by unfold maxLen; omega) (by omega) (by simp; omega) ?_)
        intro v3 w3 hown3 hgrow
        have hx3 : OwnRowsAt w3 w.heap.size v3 (acc ++ [rest]) (vs ++ [.slice aox rest.length capx]) := by
          have hA2 := HA.out.mod (F := Nil) ((Mod.refl _ w2).alloc (.cells #[.slice aox rest.length capx] 30)) (fun _ _ h => h)
          exact hA2.snoc (own_mono (hownx.alloc _) hsz) hown3 hgrow
        have hm3 : Mod Nil w w3 := (hm.trans hm2).trans' (((Mod.refl (BlockOf ov) w2).alloc _).trans (Mod.of_grown hgrow)) (fun i hi h => by have := (hown2.lt i h).1; omega)
        have Hx3 := Lib.hid hx3; have Hm3 := Lib.hid hm3
        clear hx3 hm3 hown3 hgrow hownx hsx hm2 hown2
        go_wp2_with fail
        simp only [Exit.jumps]
        go_ret2
        refine ⟨_, 0, rfl, Hm3.out, .inr ⟨acc ++ [rest], ?_, rfl, _, Hx3.out⟩⟩
        have h8 := HR2.out
        simpa using h8.symm
  · intro fall
    have Fall := Lib.hid fall; clear fall
    go_wp2_with fail
    go_step3
    go_step
    go_step
    refine Fall.out _ _ ?_
    refine ⟨0, [], _, [], ao, cap, bs, Nat.zero_le _, rfl, ?_, hb, Mod.refl _ _, ⟨rfl, World.ownsRow_nil _ _ _ _, fun i v h => by simp at h⟩, hs, ?_⟩
    · show (cutBy (l.drop 0) bs).map ([] ++ ·) = R
      have := HR.out
      rw [List.drop_zero, this]
      cases R <;> simp
    · repeat apply Exists.intro
      rfl
end Go.Proofs.Ytgokmkceplkngaa

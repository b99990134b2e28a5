import Derived.Test.YtgokmkceplkngaaUmd5
set_option maxRecDepth 100000
set_option maxHeartbeats 2000000
set_option linter.unusedVariables false
set_option linter.unusedSimpArgs false
namespace Go.Proofs.Ytgokmkceplkngaa
open Go Go.RowKit

theorem lensGo_ok (W : Nat) (bits : List Bool) : ∀ (f k : Nat) (acc L : List Nat), k = acc.length * (W + 1) → acc.length + f = 23 → lensGo W bits f k acc = (0, L) → (∀ n ∈ acc, 1 ≤ n ∧ n < 2 ^ W) →
    L.length * (W + 1) ≤ bits.length ∧ L.length ≤ 23 ∧ 1 ≤ L.length ∧ ∀ n ∈ L, 1 ≤ n ∧ n < 2 ^ W := by
  intro f
  induction f with
  | zero => intro k acc L _ _ h _; simp [lensGo] at h
  | succ f ih =>
    intro k acc L hk ha h hacc
    unfold lensGo at h
    split at h
    · simp at h
    · split at h
      · simp at h
      · rename_i h1 h2
        split at h
        · simp at h
        · rename_i h3
          have hmul : (acc.length + 1) * (W + 1) = k + 1 + W := by rw [hk, Nat.add_mul]; omega
          have hnew : ∀ n ∈ acc ++ [ofBits ((bits.drop (k + 1)).take W)], 1 ≤ n ∧ n < 2 ^ W := by
            intro n hn
            rcases List.mem_append.1 hn with hn | hn
            · exact hacc n hn
            · simp at hn; subst hn
              refine ⟨by omega, ?_⟩
              have h4 := ofBits_lt ((bits.drop (k + 1)).take W)
              exact Nat.lt_of_lt_of_le h4 (Nat.pow_le_pow_right (by decide) (by rw [List.length_take]; omega))
          split at h
          · exact ih (k + 1 + W) _ L (by rw [List.length_append]; simp only [List.length_cons, List.length_nil, Nat.zero_add]; omega) (by simp; omega) h hnew
          · split at h
            · simp at h
            · simp at h
              subst h
              refine ⟨?_, by simp; omega, by simp, hnew⟩
              rw [List.length_append]; simp only [List.length_cons, List.length_nil, Nat.zero_add]
              omega
theorem lensRead_ok {W : Nat} {bs : List UInt8} {L : List Nat} (h : lensRead W bs = (0, L)) : lsz L.length W ≤ bs.length ∧ L.length ≤ 23 ∧ 1 ≤ L.length ∧ ∀ n ∈ L, 1 ≤ n ∧ n < 2 ^ W := by
  obtain ⟨h1, h2, h3, h4⟩ := lensGo_ok W _ 23 0 [] L (by simp) rfl h (by simp)
  refine ⟨?_, h2, h3, h4⟩
  rw [bitsOf_length, List.length_take] at h1
  unfold lsz
  rw [if_pos ⟨h3, h2⟩]
  have : min (lsz 23 W) bs.length ≤ bs.length := Nat.min_le_right _ _
  omega
theorem lensRead_bad (W : Nat) (bits : List Bool) : ∀ (f k : Nat) (acc : List Nat), (lensGo W bits f k acc).1 ≠ 0 → (lensGo W bits f k acc).2 = [] := by
  intro f
  induction f with
  | zero => intro k acc _; rfl
  | succ f ih =>
    intro k acc h
    unfold lensGo at h ⊢
    repeat' split
    all_goals first
      | rfl
      | (exact ih _ _ (by simp_all))
      | (exfalso; simp_all)

/-- What umd.Read tells: the error, and FI, SN and the fields. -/
def uRead (b h : Nat) (bs : List UInt8) : Nat × Nat × Nat × List (List UInt8) :=
  if 4000 < bs.length then (2, 0, 0, []) else
  if bs.length < h then (8, 0, 0, []) else
  if ofBits ((bitsOf bs).take (8 * h - 3 - b)) ≠ 0 then (3, 0, 0, []) else
  if ofBits (((bitsOf bs).drop (8 * h - 1 - b)).take 1) = 1 then
    if (lensRead 11 (bs.drop h)).1 ≠ 0 then ((lensRead 11 (bs.drop h)).1, 0, 0, []) else
    match cutBy (lensRead 11 (bs.drop h)).2 ((bs.drop h).drop (lsz (lensRead 11 (bs.drop h)).2.length 11)) with
    | none => (8, 0, 0, [])
    | some fs => (0, ofBits (((bitsOf bs).drop (8 * h - 3 - b)).take 2), ofBits (((bitsOf bs).drop (8 * h - b)).take b), fs)
  else
    match cutBy [] (bs.drop h) with
    | none => (8, 0, 0, [])
    | some fs => (0, ofBits (((bitsOf bs).drop (8 * h - 3 - b)).take 2), ofBits (((bitsOf bs).drop (8 * h - b)).take b), fs)

theorem store3 {w w7 : World} (hm : Mod Nil w w7) (a b c : Value) : Mod Nil w (((w7.setCell ⟨w.heap.size, 0, none⟩ a).setCell ⟨w.heap.size, 1, none⟩ b).setCell ⟨w.heap.size, 2, none⟩ c) :=
  ((hm.setCell (p := ⟨w.heap.size, 0, none⟩) (fun h => absurd h (Nat.lt_irrefl _)) a).setCell (p := ⟨w.heap.size, 1, none⟩) (fun h => absurd h (Nat.lt_irrefl _)) b).setCell (p := ⟨w.heap.size, 2, none⟩) (fun h => absurd h (Nat.lt_irrefl _)) c
theorem store3_one (w7 : World) (B : Nat) (a b c : Value) : Mod (One B) w7 (((w7.setCell ⟨B, 0, none⟩ a).setCell ⟨B, 1, none⟩ b).setCell ⟨B, 2, none⟩ c) :=
  (((Mod.refl (One B) w7).setCell (p := ⟨B, 0, none⟩) (fun _ => rfl) a).setCell (p := ⟨B, 1, none⟩) (fun _ => rfl) b).setCell (p := ⟨B, 2, none⟩) (fun _ => rfl) c
theorem OwnRows.over {w w' : World} {F : Nat → Prop} {base base' : Nat} {v : Value} {fs : List (List UInt8)} (h : OwnRows w base v fs) (m : Mod F w w') (hF : ∀ k, base ≤ k → ¬ F k) (hb : base' ≤ base) : OwnRows w' base' v fs := by
  obtain ⟨vs, h⟩ := h
  exact ⟨vs, (h.mod m hF).mono hb⟩

theorem umd_Read (b h : Nat) (hb : b = 5 ∧ h = 1 ∨ b = 10 ∧ h = 2) (T : Nat → Prop) (ao : Option Addr) (cap : Nat) (bs : List UInt8) (w : World) (hs : Seg w T ao bs.length cap (bs.map V8)) :
    Calls Try.prog 13 #[.slice ao bs.length cap, .int .i64 (b : Nat)] w fun e w' => ∃ v, e = .returned (.tuple #[.agg #[.int .i64 ((uRead b h bs).2.1 : Nat), .int .i64 ((uRead b h bs).2.2.1 : Nat), v], .int .i64 ((uRead b h bs).1 : Nat)]) ∧ Mod Nil w w' ∧ OwnRows w' w.heap.size v (uRead b h bs).2.2.2 := by
  have hb' : b = 5 ∨ b = 10 := by omega
  have hle := hs.le
  have hmx := hs.max
  obtain ⟨R, hR⟩ : ∃ R, uRead b h bs = R := ⟨_, rfl⟩
  rw [hR]
  unfold uRead at hR
  go_enter Try.func13, Try.ntmps13
  by_cases h4 : 4000 < bs.length
  · rw [if_pos h4] at hR
    subst hR
    go_wp2_with (go_at_call 54; refine (umd_isWidth b hb' _).mono ?_; rintro e w1 ⟨rfl, rfl⟩)
    refine bodyPost_ret (v := .tuple #[.agg #[.int .i64 0, .int .i64 0, .slice none 0 0], .int .i64 2]) (by simp [results, Try.results13, go_sem]) rfl ⟨.slice none 0 0, rfl, ?_, OwnRows.nil _ _⟩
    exact (Mod.refl _ _).alloc _
  · rw [if_neg h4] at hR
    by_cases h5 : bs.length < h
    · rw [if_pos h5] at hR
      subst hR
      have h5' : (bs.length : Int) < (h : Int) := by omega
      go_wp2_with (first | (go_at_call 54; refine (umd_isWidth b hb' _).mono ?_; rintro e w1 ⟨rfl, rfl⟩) | (go_at_call 55; refine (umd_head b h hb _).mono ?_; rintro e w1 ⟨rfl, rfl⟩))
      refine bodyPost_ret (v := .tuple #[.agg #[.int .i64 0, .int .i64 0, .slice none 0 0], .int .i64 8]) (by simp [results, Try.results13, go_sem]) rfl ⟨.slice none 0 0, rfl, ?_, OwnRows.nil _ _⟩
      exact (Mod.refl _ _).alloc _
    · rw [if_neg h5] at hR
      have HR := Lib.hid hR; clear hR
      have h5' : ¬ (bs.length : Int) < (h : Int) := by omega
      go_wp2_with (first | (go_at_call 54; refine (umd_isWidth b hb' _).mono ?_; rintro e w1 ⟨rfl, rfl⟩) | (go_at_call 55; refine (umd_head b h hb _).mono ?_; rintro e w1 ⟨rfl, rfl⟩))
      refine (Read_any T ao cap bs _ (hs.alloc _)).mono ?_
      rintro e w1 ⟨p, rfl, hm1, hp, T', hT', hrd⟩
      rw [List.take_of_length_le (by omega)] at hrd
      rw [World.size_alloc] at hp
      have hB1 : Blk w1 w.heap.size #[.int .i64 0, .int .i64 0, .slice none 0 0] 42 := (Blk.new w _ _).mod hm1 (fun h => h)
      have hm10 : Mod Nil w w1 := hm1.of_alloc
      have hs1 := hm1.size
      rw [World.size_alloc] at hs1
      have hbw : ((8 * h - 3 - b : Nat) : Int) = 8 * (h : Int) - 3 - b := by omega
      have Hbw := Lib.hid hbw
      obtain ⟨k0, hk0⟩ : ∃ k0, 8 * h - 3 - b = k0 := ⟨_, rfl⟩
      have hk1 : 8 * h - 1 - b = k0 + 2 := by omega
      have hk2 : 8 * h - b = k0 + 3 := by omega
      have hk8 : k0 + 3 + b = 8 * h := by omega
      have hR := HR.out
      rw [hk0, hk1, hk2] at hR
      clear HR
      have HR := Lib.hid hR
      rw [hk0] at hbw
      have Hbw := Lib.hid hbw
      have Hk8 := Lib.hid hk8
      clear hR hk0 hk1 hk2 hbw hm1 hk8
      go_wp2_with (go_at_call 55; refine (umd_head b h hb _).mono ?_; rintro e w1 ⟨rfl, rfl⟩)
      rw [← Hbw.out]
      refine (Get_any p T' bs 0 k0 w1 hrd (by have := Hk8.out; omega) (by have := Hk8.out; omega)).mono ?_
      rintro e w2 ⟨rfl, hm2, hrd2⟩
      rw [Nat.zero_add] at hrd2
      rw [List.drop_zero]
      obtain ⟨z, hz⟩ : ∃ z, ofBits ((bitsOf bs).take k0) = z := ⟨_, rfl⟩
      rw [hz]
      go_wp2_with fail
      refine (Get_any p T' bs k0 2 w2 hrd2 (by omega) (by have := Hk8.out; omega)).mono ?_
      rintro e w3 ⟨rfl, hm3, hrd3⟩
      obtain ⟨fi, hfi⟩ : ∃ z, ofBits (((bitsOf bs).drop k0).take 2) = z := ⟨_, rfl⟩
      rw [hfi]
      have Hz := Lib.hid hz; have Hfi := Lib.hid hfi
      clear hz hfi
      go_wp2_with fail
      refine (Get_any p T' bs (k0 + 2) 1 w3 hrd3 (by omega) (by have := Hk8.out; omega)).mono ?_
      rintro e w4 ⟨rfl, hm4, hrd4⟩
      obtain ⟨m, hmm⟩ : ∃ z, ofBits (((bitsOf bs).drop (k0 + 2)).take 1) = z := ⟨_, rfl⟩
      rw [hmm]
      have Hmm := Lib.hid hmm
      clear hmm
      go_wp2_with fail
      refine (Get_any p T' bs (k0 + 2 + 1) b w4 hrd4 (by omega) (by have := Hk8.out; omega)).mono ?_
      rintro e w5 ⟨rfl, hm5, hrd5⟩
      obtain ⟨sn, hsn⟩ : ∃ z, ofBits (((bitsOf bs).drop (k0 + 2 + 1)).take b) = z := ⟨_, rfl⟩
      rw [hsn]
      have Hsn := Lib.hid hsn
      clear hsn
      have hm15 := hm2.trans (hm3.trans (hm4.trans hm5))
      have hm50 : Mod Nil w w5 := hm10.trans' hm15 (fun i hi h => by cases h; omega)
      have hB5 := hB1.mod hm15 (fun h => by cases h; omega)
      have hs5 := hm15.size
      have hR := HR.out
      rw [Hz.out, Hfi.out, Hmm.out, Hsn.out] at hR
      have hfi3 : fi < 2 ^ 2 := by
        have := ofBits_lt (((bitsOf bs).drop k0).take 2)
        rw [Hfi.out] at this
        exact Nat.lt_of_lt_of_le this (Nat.pow_le_pow_right (by decide) (by rw [List.length_take]; omega))
      have hsn3 : sn < 2 ^ 10 := by
        have := ofBits_lt (((bitsOf bs).drop (k0 + 2 + 1)).take b)
        rw [Hsn.out] at this
        exact Nat.lt_of_lt_of_le this (Nat.pow_le_pow_right (by decide) (by rw [List.length_take]; omega))
      have hm1' : m ≤ 1 := by
        have := ofBits_lt (((bitsOf bs).drop (k0 + 2)).take 1)
        rw [Hmm.out] at this
        have h2 := Nat.lt_of_lt_of_le this (Nat.pow_le_pow_right (n := 2) (by decide) (show _ ≤ 1 by rw [List.length_take]; omega))
        omega
      have hc1 : IntKind.i64.wrap (fi : Int) = (fi : Int) := IntWalk.i64_in _ (by omega)
      have hc2 : IntKind.i64.wrap (sn : Int) = (sn : Int) := IntWalk.i64_in _ (by omega)
      have b0 : w5.cell? ⟨w.heap.size, 0, none⟩ = some (.int .i64 0) := hB5.cell 0
      have b1 : w5.cell? ⟨w.heap.size, 1, none⟩ = some (.int .i64 0) := hB5.cell 1
      have b2 : w5.cell? ⟨w.heap.size, 2, none⟩ = some (.slice none 0 0) := hB5.cell 2
      have f0 : w5.frozen? ⟨w.heap.size, 0, none⟩ = false := hB5.free 0
      have f1 : w5.frozen? ⟨w.heap.size, 1, none⟩ = false := hB5.free 1
      have f2 : w5.frozen? ⟨w.heap.size, 2, none⟩ = false := hB5.free 2
      have hlt5 := hB5.lt
      clear HR hfi3 hsn3 hrd hrd2 hrd3 hrd4 hrd5 hm2 hm3 hm4 hm5 hB1 hm15 hm10 Hz Hfi Hmm Hsn Hbw
      by_cases hz0 : z = 0
      · subst hz0
        rw [if_neg (by simp)] at hR
        have HR := Lib.hid hR; clear hR
        obtain ⟨ao2, hif, hcut⟩ := (hs.mod hm50 (fun _ _ _ h => h)).from1 h (by simp) (by omega)
        rw [← List.map_drop] at hcut
        obtain ⟨cs, hcs⟩ : ∃ cs, bs.drop h = cs := ⟨_, rfl⟩
        have hcl : bs.length - h = cs.length := by rw [← hcs]; simp
        rw [hcs] at hcut
        rw [hcl] at hcut
        have HR2 := HR.out
        rw [hcs] at HR2
        clear HR
        have HR := Lib.hid HR2
        have hcl5 : cs.length ≤ 4000 := by omega
        have Hcl := Lib.hid hcl
        clear HR2 hcs hcl
        by_cases hmm1 : m = 1
        · subst hmm1
          have HR2 := HR.out
          rw [if_pos rfl] at HR2
          clear HR
          have HR := Lib.hid HR2
          clear HR2
          go_wp2_with (go_at_call 55; refine (umd_head b h hb _).mono ?_; rintro e w1 ⟨rfl, rfl⟩)
          rw [Hcl.out]
          refine (lens_Read 11 (.inl rfl) T ao2 (cap - h) cs w5 hcut).mono ?_
          rintro e w6 ⟨lv, rfl, hm6, hown6⟩
          obtain ⟨er, L, hlr⟩ : ∃ er L, lensRead 11 cs = (er, L) := ⟨_, _, rfl⟩
          rw [hlr] at hown6 ⊢
          have HR2 := HR.out
          rw [hlr] at HR2
          simp only at HR2 hown6 ⊢
          clear HR
          have HR := Lib.hid HR2
          have hB6 := hB5.mod hm6 (fun h => h)
          have hm60 := hm50.trans hm6
          have hs6 := hm6.size
          clear b0 b1 b2 f0 f1 f2 HR2
          by_cases her : er = 0
          · subst her
            have hok := lensRead_ok hlr
            have HR2 := HR.out
            rw [if_neg (by simp)] at HR2
            clear HR
            have HR := Lib.hid HR2
            obtain ⟨n, hn⟩ : ∃ n, lsz L.length 11 = n := ⟨_, rfl⟩
            rw [hn] at hok
            have g3 : 0 ≤ (n : Int) := by omega
            have g4 : (n : Int) ≤ (cs.length : Int) := by have := hok.1; omega
            obtain ⟨ao3, hif3, hcut3⟩ := (hcut.mod hm6 (fun _ _ _ h => h)).from1 n (by simp) hok.1
            rw [← List.map_drop] at hcut3
            obtain ⟨ds, hds⟩ : ∃ ds, cs.drop n = ds := ⟨_, rfl⟩
            have hdl : cs.length - n = ds.length := by rw [← hds]; simp
            rw [hds, hdl] at hcut3
            obtain ⟨aoL, capL, rfl, hsL⟩ := own_seg hown6
            have Hn := Lib.hid hn; have Hds := Lib.hid hds; have Hdl := Lib.hid hdl; have Hok := Lib.hid hok
            have hds5 : ds.length ≤ 4000 := by omega
            have hL23 : L.length ≤ 23 := hok.2.1
            clear HR2 hn hds hdl hok hown6 hlr
            rw [Hn.out]
            go_wp2_with fail
            go_quiet (fail)
            go_wp2_with fail
            rw [Hdl.out]
            refine (umd_fields T _ ao3 aoL (cap - h - n) capL ds L _ (hcut3.mod ((Mod.refl Nil _).drewN nq) (fun _ _ _ h => h)) (hsL.mod ((Mod.refl Nil _).drewN nq) (fun _ _ _ h => h)) (by omega) (by omega)).mono ?_
            rintro e w7 ⟨v, err, rfl, hm7, hres⟩
            have hB7 := hB6.mod (((Mod.refl Nil w6).drewN nq).trans hm7) (fun h => h)
            have hm70 := hm60.trans (((Mod.refl Nil w6).drewN nq).trans hm7)
            have hs7 := hm7.size
            have c0 : w7.cell? ⟨w.heap.size, 0, none⟩ = some (.int .i64 0) := hB7.cell 0
            have gc0 : w7.frozen? ⟨w.heap.size, 0, none⟩ = false := hB7.free 0
            have c1 : w7.cell? ⟨w.heap.size, 1, none⟩ = some (.int .i64 0) := hB7.cell 1
            have gc1 : w7.frozen? ⟨w.heap.size, 1, none⟩ = false := hB7.free 1
            have c2 : w7.cell? ⟨w.heap.size, 2, none⟩ = some (.slice none 0 0) := hB7.cell 2
            have gc2 : w7.frozen? ⟨w.heap.size, 2, none⟩ = false := hB7.free 2
            have clt := hB7.lt
            rcases hres with ⟨hcut0, rfl, rfl⟩ | ⟨fs, hcut0, rfl, hrows⟩
            · have HR2 := HR.out
              rw [Hn.out, Hds.out, hcut0] at HR2
              subst HR2
              clear hcut0
              go_wp2_with fail
              refine bodyPost_ret (v := .tuple #[.agg #[.int .i64 0, .int .i64 0, .slice none 0 0], .int .i64 8]) (by simp [results, Try.results13, go_sem, c0, c1, c2]) rfl ⟨.slice none 0 0, rfl, ?_, OwnRows.nil _ _⟩
              exact store3 hm70 _ _ _
            · have HR2 := HR.out
              rw [Hn.out, Hds.out, hcut0] at HR2
              subst HR2
              clear hcut0
              have Hrows := Lib.hid hrows
              obtain ⟨ao7, cap7, rfl, hr7⟩ := hrows.rows
              go_wp2_with fail
              refine bodyPost_ret (v := .tuple #[.agg #[.int .i64 (fi : Int), .int .i64 (sn : Int), .slice ao7 fs.length cap7], .int .i64 0]) (by simp [results, Try.results13, go_sem, c0, c1, c2]) rfl ⟨_, rfl, store3 hm70 _ _ _, ?_⟩
              exact Hrows.out.over (store3_one w7 w.heap.size _ _ _) (fun k hk h => by cases h; simp at hk; omega) (by simp; omega)
          · have HR2 := HR.out
            rw [if_pos her] at HR2
            subst HR2
            have hL : L = [] := by
              have := lensRead_bad 11 (bitsOf (cs.take (lsz 23 11))) 23 0 [] (by show (lensRead 11 cs).1 ≠ 0; rw [hlr]; exact her)
              have h2 : (lensRead 11 cs).2 = [] := this
              rw [hlr] at h2; exact h2
            subst hL
            have her' : ¬ (er : Int) = 0 := by omega
            have c0 : w6.cell? ⟨w.heap.size, 0, none⟩ = some (.int .i64 0) := hB6.cell 0
            have gc0 : w6.frozen? ⟨w.heap.size, 0, none⟩ = false := hB6.free 0
            have c1 : w6.cell? ⟨w.heap.size, 1, none⟩ = some (.int .i64 0) := hB6.cell 1
            have gc1 : w6.frozen? ⟨w.heap.size, 1, none⟩ = false := hB6.free 1
            have c2 : w6.cell? ⟨w.heap.size, 2, none⟩ = some (.slice none 0 0) := hB6.cell 2
            have gc2 : w6.frozen? ⟨w.heap.size, 2, none⟩ = false := hB6.free 2
            have clt := hB6.lt
            clear hlr her hown6
            go_wp2_with fail
            refine bodyPost_ret (v := .tuple #[.agg #[.int .i64 0, .int .i64 0, .slice none 0 0], .int .i64 (er : Int)]) (by simp [results, Try.results13, go_sem, c0, c1, c2]) rfl ⟨.slice none 0 0, rfl, store3 hm60 _ _ _, OwnRows.nil _ _⟩
        · have hmm0 : m = 0 := by omega
          subst hmm0
          have HR2 := HR.out
          rw [if_neg (by simp)] at HR2
          clear HR
          have HR := Lib.hid HR2
          clear HR2 b0 b1 b2 f0 f1 f2
          go_wp2_with (go_at_call 55; refine (umd_head b h hb _).mono ?_; rintro e w1 ⟨rfl, rfl⟩)
          rw [Hcl.out]
          refine (umd_fields T Nil ao2 none (cap - h) 0 cs [] w5 hcut (Seg.none_ _ _) (by omega) (by simp)).mono ?_
          rintro e w7 ⟨v, err, rfl, hm7, hres⟩
          have hB7 := hB5.mod hm7 (fun h => h)
          have hm70 := hm50.trans hm7
          have hs7 := hm7.size
          have c0 : w7.cell? ⟨w.heap.size, 0, none⟩ = some (.int .i64 0) := hB7.cell 0
          have gc0 : w7.frozen? ⟨w.heap.size, 0, none⟩ = false := hB7.free 0
          have c1 : w7.cell? ⟨w.heap.size, 1, none⟩ = some (.int .i64 0) := hB7.cell 1
          have gc1 : w7.frozen? ⟨w.heap.size, 1, none⟩ = false := hB7.free 1
          have c2 : w7.cell? ⟨w.heap.size, 2, none⟩ = some (.slice none 0 0) := hB7.cell 2
          have gc2 : w7.frozen? ⟨w.heap.size, 2, none⟩ = false := hB7.free 2
          have clt := hB7.lt
          rcases hres with ⟨hcut0, rfl, rfl⟩ | ⟨fs, hcut0, rfl, hrows⟩
          · have HR2 := HR.out
            rw [hcut0] at HR2
            subst HR2
            clear hcut0
            go_wp2_with fail
            refine bodyPost_ret (v := .tuple #[.agg #[.int .i64 0, .int .i64 0, .slice none 0 0], .int .i64 8]) (by simp [results, Try.results13, go_sem, c0, c1, c2]) rfl ⟨.slice none 0 0, rfl, store3 hm70 _ _ _, OwnRows.nil _ _⟩
          · have HR2 := HR.out
            rw [hcut0] at HR2
            subst HR2
            clear hcut0
            have Hrows := Lib.hid hrows
            obtain ⟨ao7, cap7, rfl, hr7⟩ := hrows.rows
            go_wp2_with fail
            refine bodyPost_ret (v := .tuple #[.agg #[.int .i64 (fi : Int), .int .i64 (sn : Int), .slice ao7 fs.length cap7], .int .i64 0]) (by simp [results, Try.results13, go_sem, c0, c1, c2]) rfl ⟨_, rfl, store3 hm70 _ _ _, ?_⟩
            exact Hrows.out.over (store3_one w7 w.heap.size _ _ _) (fun k hk h => by cases h; omega) (by omega)
      · rw [if_pos hz0] at hR
        subst hR
        go_wp2_with fail
        refine bodyPost_ret (v := .tuple #[.agg #[.int .i64 0, .int .i64 0, .slice none 0 0], .int .i64 3]) (by simp [results, Try.results13, go_sem, b0, b1, b2]) rfl ⟨.slice none 0 0, rfl, ?_, OwnRows.nil _ _⟩
        exact store3 hm50 _ _ _
end Go.Proofs.Ytgokmkceplkngaa

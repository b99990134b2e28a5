import Derived.Test.YtgokmkceplkngaaUmtx4
import Derived.Deep.RegionWith
import Derived.Test.YtgokmkceplkngaaUmd6
set_option maxRecDepth 100000
set_option maxHeartbeats 4000000
set_option linter.unusedVariables false
set_option linter.unusedSimpArgs false
namespace Go.Proofs.Ytgokmkceplkngaa
open Go Go.RowKit

theorem Snd.mod {w w' : World} {s p : Nat} {T : Nat → Prop} {c : Cfg} {next : Nat} {q : Qst} (h : Snd w s p T c next q) (m : Mod Nil w w') : Snd w' s p T c next q :=
  ⟨h.blk.mod m (fun h => h), h.que.mod m (fun h => h) (fun _ _ _ h => h), h.ne, h.nT⟩

/-- What holds when cut.Build has answered and its piece is kept in block pb. -/
structure UB (w W : World) (s p : Nat) (T : Nat → Prop) (c : Cfg) (next : Nat) (R : CutR) (pb : Nat) (fv dv : Value) : Prop where
  mod : Mod (One p) w W
  blk : Blk W pb #[.int .i64 (R.fi : Nat), fv, dv] 113
  snd : Snd W s p (New T w) c next R.q
  rows : OwnRows W w.heap.size fv R.fields
  ids : W.ownsRow w.heap.size 33 1 dv R.done.length (R.done.map VU)
  pb0 : w.heap.size ≤ pb
theorem UB.last {w w2 : World} {s p : Nat} {T : Nat → Prop} {c : Cfg} {next : Nat} {q : Qst} {R : CutR} {fv dv : Value} (h : Snd w s p T c next q) (m2 : Mod (One p) w.drew w2) (hq2 : Q w2 p (New T w.drew) R.q) (hr : OwnRows w2 w.drew.heap.size fv R.fields)
    (hd : w2.ownsRow w.drew.heap.size 33 1 dv R.done.length (R.done.map VU)) : UB w (w2.alloc (.cells #[.int .i64 (R.fi : Nat), fv, dv] 113)) s p T c next R w2.heap.size fv dv := by
  have ma : Mod Nil w2 (w2.alloc (.cells #[.int .i64 (R.fi : Nat), fv, dv] 113)) := (Mod.refl Nil w2).alloc _
  have m0 : Mod (One p) w w2 := (Mod.refl (One p) w).drew.trans m2
  exact ⟨m0.trans (Mod.nil ma), Blk.new w2 _ _, (h.after m0 hq2).mod ma, hr.over ma (fun _ _ h => h) (Nat.le_refl _), own_mod hd ma (fun _ _ _ h => h), m0.size⟩
theorem UB.first {w w2 : World} {s p : Nat} {T : Nat → Prop} {c : Cfg} {next : Nat} {q : Qst} {R : CutR} {fv dv : Value} (h : Snd w s p T c next q) (hT : ∀ k, T k → k < w.heap.size) (m2 : Mod (One p) (w.alloc (.cells #[.int .i64 0, .slice none 0 0, .slice none 0 0] 113)).drew w2)
    (hq2 : Q w2 p (New T (w.alloc (.cells #[.int .i64 0, .slice none 0 0, .slice none 0 0] 113)).drew) R.q) (hr : OwnRows w2 (w.alloc (.cells #[.int .i64 0, .slice none 0 0, .slice none 0 0] 113)).drew.heap.size fv R.fields)
    (hd : w2.ownsRow (w.alloc (.cells #[.int .i64 0, .slice none 0 0, .slice none 0 0] 113)).drew.heap.size 33 1 dv R.done.length (R.done.map VU)) :
    UB w (((w2.setCell ⟨w.heap.size, 0, none⟩ (.int .i64 (R.fi : Nat))).setCell ⟨w.heap.size, 1, none⟩ fv).setCell ⟨w.heap.size, 2, none⟩ dv) s p T c next R w.heap.size fv dv := by
  have hz : (w.alloc (.cells #[.int .i64 0, .slice none 0 0, .slice none 0 0] 113)).drew.heap.size = w.heap.size + 1 := World.size_alloc _ _
  rw [hz] at hr hd
  have m0 : Mod (One p) w w2 := ((Mod.refl (One p) w).alloc _).drew.trans m2
  have hpl := h.que.lt
  have hsl := h.blk.lt
  have ms : Mod (One w.heap.size) w2 (((w2.setCell ⟨w.heap.size, 0, none⟩ (.int .i64 (R.fi : Nat))).setCell ⟨w.heap.size, 1, none⟩ fv).setCell ⟨w.heap.size, 2, none⟩ dv) := store3_one w2 w.heap.size _ _ _
  have hB2 := ((Blk.new w #[.int .i64 0, .slice none 0 0, .slice none 0 0] 113).drew).mod m2 (fun e => by cases e; omega)
  have hq3 : Q w2 p (fun k => T k ∨ w.heap.size + 1 ≤ k) R.q := hq2.widen (fun k _ hk => by
    rcases hk with hk | hk
    · exact .inl hk
    · rw [hz] at hk; exact .inr hk) (fun hk => by
    rcases hk with hk | hk
    · exact h.que.nT hk
    · omega)
  have hb3 := ((hB2.setCell 0 (.int .i64 (R.fi : Nat))).setCell 1 fv).setCell 2 dv
  simp only [List.setIfInBounds_toArray, List.set_cons_zero, List.set_cons_succ] at hb3
  have hF : ∀ k, k < w2.heap.size → (fun k => T k ∨ w.heap.size + 1 ≤ k) k → ¬ One w.heap.size k := fun k _ hk e => by
    cases e
    rcases hk with hk | hk
    · have := hT _ hk; omega
    · omega
  have hq4 := hq3.mod ms (fun e => by cases e; omega) hF
  refine ⟨m0.trans' ms (fun i hi e => by cases e; omega), hb3, ⟨(h.blk.mod m0 (fun e => h.ne e)).mod ms (fun e => by cases e; omega), hq4.widen (fun k _ hk => ?_) (fun hk => ?_), h.ne, fun hk => ?_⟩, hr.over ms (fun k hk e => by cases e; omega) (by omega), own_mono (own_mod hd ms (fun g _ hg e => by cases e; omega)) (by omega), Nat.le_refl _⟩
  · rcases hk with hk | hk
    · exact .inl hk
    · exact .inr (by omega)
  · rcases hk with hk | hk
    · exact h.que.nT hk
    · omega
  · rcases hk with hk | hk
    · exact h.nT hk
    · omega
theorem UB.write {w wc W : World} {s p : Nat} {T : Nat → Prop} {c : Cfg} {next : Nat} {R : CutR} {pb : Nat} {aof : Option Addr} {capf : Nat} {dv : Value} (hU : UB w wc s p T c next R pb (.slice aof R.fields.length capf) dv) (m : Mod Nil wc W) {b h room : Nat} (hb : b = 5 ∧ h = 1 ∨ b = 10 ∧ h = 2)
    (hf2 : R.fi ≤ 3) (hnx : next < 2 ^ b) (hf1 : CutFits room 11 R.fields) (hf3 : R.fields ≠ []) (hr2 : h + room ≤ 4000) :
    Calls Try.prog 52 #[.agg #[.int .i64 (R.fi : Nat), .int .i64 (next : Nat), .slice aof R.fields.length capf], .int .i64 (b : Nat)] W fun e w' => ∃ v hd ls, e = .returned (.tuple #[v, .int .i64 0]) ∧ Mod Nil W w' ∧ w'.ownsRow W.heap.size 5 1 v (hd ++ ls ++ R.fields.flatten).length ((hd ++ ls ++ R.fields.flatten).map V8) ∧
      bitsOf hd = uHead b h R.fi next R.fields.length ∧ Packs ls (lenBits 11 (R.fields.dropLast.map List.length)) := by
  obtain ⟨ao', cap', he, hr⟩ := (hU.rows.over m (fun _ _ h => h) (Nat.le_refl w.heap.size)).rows
  injection he with e1 e2 e3
  subst e1; subst e3
  have hl := List.length_pos_iff.2 hf3
  exact umd_Write R.fi next b h hb (From w.heap.size) aof capf R.fields W hr (fun j hj => by
    have := hf1.each (R.fields.getD j []) (by rw [List.getD_eq_getElem?_getD, List.getElem?_eq_getElem hj]; simp)
    omega) hf2 hnx (by omega) hf1.le (fun f hf => by
    have := hf1.each f (List.dropLast_subset _ hf); omega) (by have := hf1.sum hf3; omega)
    (uSize_pos b h R.fi next room R.fields hf1 hf3 hr2 hf2 hnx (by omega))

theorem umtx_Build_nar (s p : Nat) (T : Nat → Prop) (c : Cfg) (next : Nat) (q : Qst) (grant : Int) (b h : Nat) (hb : b = 5 ∧ h = 1 ∨ b = 10 ∧ h = 2) (hbits : c.bits = (b : Int)) (hnx : next < 2 ^ b) (w : World) (hS : Snd w s p T c next q) (hT : ∀ k, T k → k < w.heap.size) :
    Calls Try.prog 12 #[.pointer (some ⟨s, 0, none⟩), .int .i64 grant] w fun e w' =>
      (askOf b q grant ≠ 0 ∧ e = .returned (.tuple #[.slice none 0 0, .slice none 0 0, .int .i64 (askOf b q grant)]) ∧ w = w') ∨
      (askOf b q grant = 0 ∧ ∃ v dv hd ls, e = .returned (.tuple #[v, dv, .int .i64 0]) ∧ Mod (Two s p) w w' ∧
        w'.ownsRow w.heap.size 5 1 v (hd ++ ls ++ (q.cut (min grant.toNat 4000 - h) 11).fields.flatten).length ((hd ++ ls ++ (q.cut (min grant.toNat 4000 - h) 11).fields.flatten).map V8) ∧
        bitsOf hd = uHead b h (q.cut (min grant.toNat 4000 - h) 11).fi next (q.cut (min grant.toNat 4000 - h) 11).fields.length ∧ Packs ls (lenBits 11 ((q.cut (min grant.toNat 4000 - h) 11).fields.dropLast.map List.length)) ∧
        w'.ownsRow w.heap.size 33 1 dv (q.cut (min grant.toNat 4000 - h) 11).done.length ((q.cut (min grant.toNat 4000 - h) 11).done.map VU) ∧
        Snd w' s p (New T w) c ((next + 1) % 2 ^ b) (q.cut (min grant.toNat 4000 - h) 11).q) := by
  have hb16 : b ≤ 16 := by omega
  have hH : b / 5 = h := by rcases hb with ⟨rfl, rfl⟩ | ⟨rfl, rfl⟩ <;> rfl
  have H := Lib.hid hS
  have hask := umtx_ask s p T c next q grant b hbits hb16 w hS
  obtain ⟨A, hA⟩ : ∃ A, askOf b q grant = A := ⟨_, rfl⟩
  rw [hA] at hask ⊢
  have Hask := Lib.hid hask; clear hask
  by_cases h0 : A = 0
  · subst h0
    unfold askOf at hA
    have hg1 : 0 ≤ grant := by
      by_cases hh : grant < 0 ∨ 4096 < grant
      · rw [if_pos hh] at hA; omega
      · omega
    have hg2 : grant ≤ 4096 := by
      by_cases hh : grant < 0 ∨ 4096 < grant
      · rw [if_pos hh] at hA; omega
      · omega
    rw [if_neg (by omega)] at hA
    have hq0 : q.bytes ≠ 0 := by
      intro hh; rw [if_pos hh] at hA; omega
    rw [if_neg hq0, hH] at hA
    have hgh : (h : Int) < grant := by
      by_cases hh : grant ≤ (h : Int)
      · rw [if_pos hh] at hA; omega
      · omega
    obtain ⟨g, rfl⟩ := Int.eq_ofNat_of_zero_le hg1
    have hgn : ((g : Int)).toNat = g := rfl
    rw [hgn]
    clear hgn
    obtain ⟨room, hroom⟩ : ∃ room, min g 4000 - h = room := ⟨_, rfl⟩
    rw [hroom]
    have hr1 : 1 ≤ room := by omega
    have hr2 : h + room ≤ 4000 := by omega
    have hmin : min (g : Int) 4000 - (h : Int) = (room : Int) := by omega
    obtain ⟨R, hR⟩ : ∃ R, q.cut room 11 = R := ⟨_, rfl⟩
    have hfit := Qst.cut_fits hS.que.ok room 11 hr1 hq0
    have hcut := fun w' T' (h : Q w' p T' q) => cut_Build p T' q room 11 (.inl rfl) (by omega) w' h
    rw [hR] at hfit ⊢
    simp only [hR] at hcut
    obtain ⟨hf1, hf2, hf3⟩ := hfit
    have hfl : ¬ R.fields.length = 0 := by have := List.length_pos_iff.2 hf3; omega
    simp only [if_neg hfl] at hcut
    have Hcut := Lib.hid hcut
    have Hf1 := Lib.hid hf1; have Hf3 := Lib.hid hf3
    have c2 : w.cell? ⟨s, 2, none⟩ = some (.int .i64 (b : Int)) := by rw [← hbits]; exact hS.blk.cell 2
    have hsl := hS.blk.lt
    have Hh := Lib.hid hH
    have Hmin := Lib.hid hmin
    have Hbits := Lib.hid hbits
    have Hnx := Lib.hid hnx
    clear hA hcut hf1 hf3 hS hR hroom hH hmin hbits hg1 hgh hq0 hnx
    have hdiv : IntKind.i64.wrap ((b : Int) / 5) = (h : Int) := by
      rw [show (b : Int) / 5 = (h : Int) by have := Hh.out; omega]; exact IntWalk.i64_in _ (by omega)
    go_enter Try.func12, Try.ntmps12
    go_upto_region 4 with (go_at_call 50; refine Hask.out.mono ?_; rintro e w1 ⟨rfl, rfl⟩)
    go_cut [8, 9] (fun s8 s9 wx => ∃ pb aof capf aod capd, s8 = .pointer (some ⟨pb, 0, none⟩) ∧ s9 = .int .i64 0 ∧ UB w wx s p T c next R pb (.slice aof R.fields.length capf) (.slice aod R.done.length capd))
    case first =>
      have HT := Lib.hid hT
      have hwr : IntKind.i64.wrap (min (g : Int) 4000 - (h : Int)) = (room : Int) := by rw [Hmin.out]; exact IntWalk.i64_in _ (by omega)
      have hpl := H.out.que.lt
      have hsz : s ≠ w.heap.size := by omega
      have hsz' : w.heap.size ≠ s := by omega
      go_region_held3 (fun w' => w'.cell? ⟨s, 2, none⟩ = some (.int .i64 (b : Int)))
        (first
          | go_keep
          | assumption
          | (have := (H.out.mod (Mod.refl Nil w).drew).blk.mod m2 (fun e => H.out.ne e); have := this.cell 2; rw [Hbits.out] at this; exact this)
          | (have := ((H.out.mod (Mod.refl Nil w).drew).blk.mod m2 (fun e => H.out.ne e)).alloc (.cells #[.int .i64 (R.fi : Nat), .slice aof R.fields.length capf, .slice aod R.done.length capd] 113); have := this.cell 2; rw [Hbits.out] at this; exact this)
          | (have := (H.out.mod ((Mod.refl Nil w).alloc (.cells #[.int .i64 0, .slice none 0 0, .slice none 0 0] 113)).drew).blk.mod m2 (fun e => H.out.ne e); have := this.cell 2; rw [Hbits.out] at this; exact this))
        (first
          | (go_simp; go_at_call 47; refine (umtx_queue s p T c next q _ (H.out.mod (Mod.refl Nil w).drew)).mono ?_; rintro e w1 ⟨rfl, rfl⟩)
          | (go_simp; go_at_call 47; refine (umtx_queue s p T c next q _ (H.out.mod ((Mod.refl Nil w).alloc (.cells #[.int .i64 0, .slice none 0 0, .slice none 0 0] 113)).drew)).mono ?_; rintro e w1 ⟨rfl, rfl⟩)
          | (go_simp; go_at_call 51; refine (Hcut.out _ T (H.out.mod (Mod.refl Nil w).drew).que).mono ?_; rintro e w2 ⟨fv, dv, rfl, m2, hq2, hrw2, hd2⟩; obtain ⟨aof, capf, rfl, hrf⟩ := hrw2.rows; obtain ⟨aod, capd, rfl, hsd⟩ := own_seg hd2)
          | (go_simp; go_at_call 51; refine (Hcut.out _ T (H.out.mod ((Mod.refl Nil w).alloc (.cells #[.int .i64 0, .slice none 0 0, .slice none 0 0] 113)).drew).que).mono ?_; rintro e w2 ⟨fv, dv, rfl, m2, hq2, hrw2, hd2⟩; obtain ⟨aof, capf, rfl, hrf⟩ := hrw2.rows; obtain ⟨aod, capd, rfl, hsd⟩ := own_seg hd2; have hB2 := ((Blk.new w #[.int .i64 0, .slice none 0 0, .slice none 0 0] 113).drew).mod m2 (fun e => by cases e; omega); have z0 : w2.frozen? ⟨w.heap.size, 0, none⟩ = false := hB2.free 0; have z1 : w2.frozen? ⟨w.heap.size, 1, none⟩ = false := hB2.free 1; have z2 : w2.frozen? ⟨w.heap.size, 2, none⟩ = false := hB2.free 2; have y0 : w2.cell? ⟨w.heap.size, 0, none⟩ = some (.int .i64 0) := hB2.cell 0; have y1 : w2.cell? ⟨w.heap.size, 1, none⟩ = some (.slice none 0 0) := hB2.cell 1; have y2 : w2.cell? ⟨w.heap.size, 2, none⟩ = some (.slice none 0 0) := hB2.cell 2; have hl2 := hB2.lt))
      all_goals
        go_wp2_with fail
        go_meet
        first
        | exact ⟨w2.heap.size, aof, capf, aod, capd, rfl, rfl, UB.last H.out m2 hq2 hrw2 hd2⟩
        | exact ⟨w.heap.size, aof, capf, aod, capd, rfl, rfl, UB.first H.out HT.out m2 hq2 hrw2 hd2⟩
    case rest =>
      obtain ⟨pb, aof, capf, aod, capd, rfl, rfl, hU⟩ := hcut
      have f0 : wc.cell? ⟨pb, 0, none⟩ = some (.int .i64 (R.fi : Nat)) := hU.blk.cell 0
      have f1 : wc.cell? ⟨pb, 1, none⟩ = some (.slice aof R.fields.length capf) := hU.blk.cell 1
      have n0 : wc.cell? ⟨s, 11, none⟩ = some (.int .i64 (next : Nat)) := hU.snd.blk.cell 11
      have n1 : wc.cell? ⟨s, 2, none⟩ = some (.int .i64 (b : Nat)) := by rw [← Hbits.out]; exact hU.snd.blk.cell 2
      have hw := fun W (m : Mod Nil wc W) => hU.write m hb hf2 Hnx.out Hf1.out Hf3.out hr2
      have Hw := Lib.hid hw
      have HU := Lib.hid hU
      have hsl1 := hU.snd.blk.lt
      have hpl1 := hU.blk.lt
      clear hw hU
      go_wp2_with fail
      go_region_held3 (fun w' => (w'.cell? ⟨pb, 0, none⟩ = some (.int .i64 (R.fi : Nat)) ∧ w'.cell? ⟨pb, 1, none⟩ = some (.slice aof R.fields.length capf)) ∧ w'.cell? ⟨s, 11, none⟩ = some (.int .i64 (next : Nat)) ∧ w'.cell? ⟨s, 2, none⟩ = some (.int .i64 (b : Nat)))
        (first
          | go_keep
          | assumption
          | exact ⟨⟨by rw [m3.cell hpl1 (fun h => h)]; exact f0, by rw [m3.cell hpl1 (fun h => h)]; exact f1⟩, by rw [m3.cell hsl1 (fun h => h)]; exact n0, by rw [m3.cell hsl1 (fun h => h)]; exact n1⟩)
        (first
          | (go_simp; go_at_call 52; refine (Hw.out _ ((Mod.refl Nil wc).drew)).mono ?_; rintro e w3 ⟨v, hd, ls, rfl, m3, hv, hhd, hls⟩))
      have m30 : Mod Nil wc w3 := (Mod.refl Nil wc).drew.trans m3
      have hS3 := HU.out.snd.mod m30
      have hB3 := hS3.blk
      have HP3 := Lib.hid (HU.out.blk.mod m30 (fun h => h))
      have hnps : s ≠ pb := by have := HU.out.pb0; omega
      have hnps' : pb ≠ s := fun e => hnps e.symm
      have g0 : w3.cell? ⟨s, 11, none⟩ = some (.int .i64 (next : Nat)) := hB3.cell 11
      have g1 : w3.cell? ⟨s, 2, none⟩ = some (.int .i64 (b : Nat)) := by rw [← Hbits.out]; exact hB3.cell 2
      have hb1 : 1 ≤ b := by omega
      obtain ⟨N, hN⟩ : ∃ N : Nat, (next + 1) % 2 ^ b = N := ⟨_, rfl⟩
      have hgo := fun W => Go_any b next 1 W hb1 hb16 Hnx.out (by omega) (by omega)
      rw [show ((next : Int) + 1) % ((2 ^ b : Nat) : Int) = (N : Int) by rw [← hN]; simp] at hgo
      have Hgo := Lib.hid hgo
      have HN := Lib.hid hN
      have HS3 := Lib.hid hS3; have HB3 := Lib.hid hB3; have M30 := Lib.hid m30; have Hv := Lib.hid hv; have Hhd := Lib.hid hhd; have Hls := Lib.hid hls
      have hsl3 := hB3.lt
      clear hgo hN hS3 hB3 m30 hv hhd hls f0 f1 n0 n1 m3 hsl1 hpl1 Hw
      go_wp2_with fail
      go_region_with ((go_at_call 53; refine (Hgo.out _).mono ?_; rintro e w4 ⟨rfl, m4⟩; have hb4 := HB3.out.drew.mod m4 (fun h => h); have k0 : w4.cell? ⟨s, 11, none⟩ = some (.int .i64 (next : Nat)) := hb4.cell 11; have k1 : w4.frozen? ⟨s, 11, none⟩ = false := hb4.free 11; have hl4 := hb4.lt; have hp4 := HP3.out.drew.mod m4 (fun h => h); have k2 : w4.cell? ⟨pb, 2, none⟩ = some (.slice aod R.done.length capd) := hp4.cell 2; have hpl4 := hp4.lt))
      all_goals
        have hm4 : Mod Nil wc w4 := M30.out.drew.trans m4
        have hS4 := HS3.out.mod ((Mod.refl Nil w3).drew.trans m4)
        have hfin : ∀ n, Mod (Two s p) w ((w4.setCell ⟨s, 11, none⟩ (.int .i64 (N : Int))).drewN n) ∧ ((w4.setCell ⟨s, 11, none⟩ (.int .i64 (N : Int))).drewN n).ownsRow w.heap.size 5 1 v (hd ++ ls ++ R.fields.flatten).length ((hd ++ ls ++ R.fields.flatten).map V8) ∧
            ((w4.setCell ⟨s, 11, none⟩ (.int .i64 (N : Int))).drewN n).ownsRow w.heap.size 33 1 (.slice aod R.done.length capd) R.done.length (R.done.map VU) ∧ Snd ((w4.setCell ⟨s, 11, none⟩ (.int .i64 (N : Int))).drewN n) s p (New T w) c N R.q := fun n => by
          have ms : Mod (One s) w4 ((w4.setCell ⟨s, 11, none⟩ (.int .i64 (N : Int))).drewN n) := ((Mod.refl (One s) w4).setCell (p := ⟨s, 11, none⟩) (fun _ => rfl) _).drewN n
          have hu := HU.out.mod.size
          have hbs : Blk ((w4.setCell ⟨s, 11, none⟩ (.int .i64 (N : Int))).drewN n) s _ 108 := hS4.blk.setCell 11 (.int .i64 (N : Int))
          simp only [List.setIfInBounds_toArray, List.set_cons_zero, List.set_cons_succ] at hbs
          have hz : wc.drew.heap.size = wc.heap.size := rfl
          refine ⟨((HU.out.mod.trans (Mod.nil hm4)).mono (fun k _ hk => .inr hk)).trans (ms.mono (fun k _ hk => .inl hk)), ?_, ?_, ⟨hbs, hS4.que.mod ms (fun e => hS4.ne e.symm) (fun k _ hk e => by cases e; exact hS4.nT hk), hS4.ne, hS4.nT⟩⟩
          · refine own_mono (own_mod (own_mod Hv.out ((Mod.refl Nil w3).drew.trans m4) (fun _ _ _ h => h)) ms (fun g _ hg e => by cases e; omega)) (by omega)
          · exact own_mod (own_mod HU.out.ids hm4 (fun _ _ _ h => h)) ms (fun g _ hg e => by cases e; omega)
        have Hfin := Lib.hid hfin
        clear hfin hS4 hm4 m4 hb4 hp4
        go_wp2_with fail
        go_quiet (fail)
        go_wp2_with fail
        go_ret3
        obtain ⟨z1, z2, z3, z4⟩ := Hfin.out _
        exact .inr ⟨trivial, v, _, hd, ls, rfl, z1, z2, Hhd.out, Hls.out, z3, by rw [HN.out]; exact z4⟩
  · have h1 : (A == 0) = false := by simpa using h0
    have h2 : (A != 0) = true := by simpa using h0
    have H0 := Lib.hid h0
    clear h0 hA hS hbits
    go_enter Try.func12, Try.ntmps12
    go_wp2_with (go_at_call 50; refine Hask.out.mono ?_; rintro e w1 ⟨rfl, rfl⟩)
    go_ret3
    exact .inl ⟨H0.out, rfl, rfl⟩

theorem umtx_Build (s p : Nat) (T : Nat → Prop) (c : Cfg) (next : Nat) (q : Qst) (grant : Int) (b h : Nat) (hb : b = 5 ∧ h = 1 ∨ b = 10 ∧ h = 2) (hbits : c.bits = (b : Int)) (hnx : next < 2 ^ b) (w : World) (hS : Snd w s p T c next q) :
    Calls Try.prog 12 #[.pointer (some ⟨s, 0, none⟩), .int .i64 grant] w fun e w' =>
      (askOf b q grant ≠ 0 ∧ e = .returned (.tuple #[.slice none 0 0, .slice none 0 0, .int .i64 (askOf b q grant)]) ∧ w = w') ∨
      (askOf b q grant = 0 ∧ ∃ v dv hd ls, e = .returned (.tuple #[v, dv, .int .i64 0]) ∧ Mod (Two s p) w w' ∧
        w'.ownsRow w.heap.size 5 1 v (hd ++ ls ++ (q.cut (min grant.toNat 4000 - h) 11).fields.flatten).length ((hd ++ ls ++ (q.cut (min grant.toNat 4000 - h) 11).fields.flatten).map V8) ∧
        bitsOf hd = uHead b h (q.cut (min grant.toNat 4000 - h) 11).fi next (q.cut (min grant.toNat 4000 - h) 11).fields.length ∧ Packs ls (lenBits 11 ((q.cut (min grant.toNat 4000 - h) 11).fields.dropLast.map List.length)) ∧
        w'.ownsRow w.heap.size 33 1 dv (q.cut (min grant.toNat 4000 - h) 11).done.length ((q.cut (min grant.toNat 4000 - h) 11).done.map VU) ∧
        Snd w' s p (New T w) c ((next + 1) % 2 ^ b) (q.cut (min grant.toNat 4000 - h) 11).q) := by
  have hS' : Snd w s p (fun k => T k ∧ k < w.heap.size) c next q := ⟨hS.blk, hS.que.widen (fun k hk ht => ⟨ht, hk⟩) (fun hk => hS.que.nT hk.1), hS.ne, fun hk => hS.nT hk.1⟩
  refine (umtx_Build_nar s p _ c next q grant b h hb hbits hnx w hS' (fun k hk => hk.2)).mono ?_
  rintro e w' (hl | ⟨h0, v, dv, hd, ls, h1, h2, h3, h4, h5, h6, h7⟩)
  · exact .inl hl
  · have hp := hS.que.lt
    have hs := hS.blk.lt
    refine .inr ⟨h0, v, dv, hd, ls, h1, h2, h3, h4, h5, h6, ⟨h7.blk, h7.que.widen (fun k _ hk => ?_) (fun hk => ?_), h7.ne, fun hk => ?_⟩⟩
    · rcases hk with hk | hk
      · exact .inl hk.1
      · exact .inr hk
    · rcases hk with hk | hk
      · exact hS.que.nT hk
      · omega
    · rcases hk with hk | hk
      · exact hS.nT hk
      · omega
end Go.Proofs.Ytgokmkceplkngaa

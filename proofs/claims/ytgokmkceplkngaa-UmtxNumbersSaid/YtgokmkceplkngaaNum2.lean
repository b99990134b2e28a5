import Derived.Test.YtgokmkceplkngaaNum1
set_option maxRecDepth 100000
set_option maxHeartbeats 8000000
set_option linter.unusedVariables false
set_option linter.unusedSimpArgs false
namespace Go.Proofs.Ytgokmkceplkngaa
open Go Go.RowKit

theorem numbers_5 (c : Cfg) (hc : c.check = 0) (hm1 : c.mode = 1) (hcb : c.bits = 5) (ao : Option Addr) (cap : Nat) (ops : List OpD) (w : World) (hO : OpsAt w ao cap ops) : Calls Try.prog 3 #[.agg #[.int .i64 c.mode, .int .i64 5, .int .i64 c.window, .int .i64 c.reorder, .int .i64 c.c4, .int .i64 c.c5, .int .i64 c.c6, .int .i64 c.c7, .int .i64 c.c8, .int .i64 c.bytes], .slice ao ops.length cap] w fun e w' => e = .returned (.bool true) ∧ Mod Nil w w' := by
  have hnew := umtx_New_ok c
  rw [hcb] at hnew
  have Hnew := Lib.hid hnew; have HO := Lib.hid hO; have Hcb := Lib.hid hcb
  have hlen := hO.1
  have hcap := hO.2.1
  have Hc := Lib.hid hc; have Hm1 := Lib.hid hm1
  clear hnew hO hcb hc hm1
  go_enter Try.func3, Try.ntmps3
  go_wp2_with fail
  refine (Hnew.out _ Hc.out Hm1.out).mono ?_
  rintro e w1 ⟨s, p, rfl, m1, hs0, hp0, hS⟩
  rw [World.size_alloc] at hs0 hp0
  have hA : NumAt w c 5 5 s p w1 0 0 ⟨c.bytes.toNat, 0, 0, []⟩ Nil := by
    refine ⟨m1.of_alloc, (Blk.new w _ _).mod m1 (fun h => h), hS, by omega, by omega, Nat.le_refl _, by omega, by decide⟩
  have HA := Lib.hid hA
  clear hA hS m1 Hnew
  go_wp2_with fail
  go_loopw [7, 8] (fun v7 v8 wr => ∃ (i next : Nat) (q : Qst) (T : Nat → Prop), v7 = .int .i64 (next : Nat) ∧ v8 = .int .i64 (i : Nat) ∧ i ≤ ops.length ∧ NumAt w c 5 5 s p wr i next q T) (fun _ v8 _ => 80 - (intOf v8).toNat)
  case atStart => exact ⟨0, 0, _, _, rfl, rfl, Nat.zero_le _, HA.out⟩
  case round =>
    obtain ⟨i, next, q, T, rfl, rfl, hi, hA⟩ := hrel
    have hi80 := hA.i80
    by_cases hlt : i < ops.length
    · by_cases h80 : i < 80
      · obtain ⟨o, ho⟩ : ∃ o, ops[i]? = some o := ⟨_, List.getElem?_eq_getElem hlt⟩
        obtain ⟨b, off, rfl, hb, aoB, capB, hc0, hc1, hc2, hsg, hn1, hn2⟩ := HO.out.2.2 i o ho
        obtain ⟨kd, nn, bs⟩ := o
        simp only at hc0 hc1 hc2 hsg hn1 hn2
        rw [← hA.mod.cell hb (fun h => h)] at hc0 hc1 hc2
        have hsg := hsg.mod hA.mod (fun _ _ _ h => h)
        have Hsg := Lib.hid hsg
        have hg1 : (0 : Int) ≤ (i : Int) := by omega
        have hg2 : (i : Int) < (ops.length : Int) := by omega
        have hg3 : (i : Int) < 80 := by omega
        have hbw : b < wr.heap.size := by have := hA.mod.size; omega
        have A1 : NumAt w c 5 5 s p (wr.alloc (.cells #[.int .i64 kd, .int .i64 nn, .slice aoB bs.length capB] 32)) i next q T := hA.step (Mod.allocs _) (hA.snd.mod (Mod.allocs _)) hA.last hA.i80 hA.nx
        have HA1 := Lib.hid A1
        have HS1 := Lib.hid A1.snd
        have hs0 := A1.s0
        have hp0 := A1.p0
        clear A1 hA ho
        by_cases hbig : 1100 < bs.length
        · clear hsg
          go_wp2_with (go_at_call 9; refine (umtx_alive _).mono ?_; rintro e wz ⟨rfl, mz⟩)
          go_ret
          exact ⟨rfl, HA1.out.mod.trans mz⟩
        · clear Hsg
          have hbig' : bs.length ≤ 1100 := by omega
          have hd0 : wr.cell? ⟨b, off + (i * 3 + 1), none⟩ = some (.int .i64 nn) := by rw [← Nat.add_assoc]; exact hc1
          have hd1 : wr.cell? ⟨b, off + (i * 3 + 2), none⟩ = some (.slice aoB bs.length capB) := by rw [← Nat.add_assoc]; exact hc2
          clear hbig
          by_cases hk0 : kd = 0
          · have hk := hk0
            clear hk0
            subst hk
            go_wp2_with fail
            refine (umtx_Push s p T (Under w.heap.size) c next q aoB capB bs _ HS1.out (hsg.mod (Mod.allocs _) (fun _ _ _ h => h)) (fun k hk e => by subst e; simp only [Under] at hk; omega) (by omega) (by have := HA1.out.last; omega)).mono ?_
            rintro e w3 ⟨rfl, m3, hS3⟩
            have HA9 := Lib.hid (HA1.out.step (i2 := i + 1) (m3.mono (fun k _ hk => .inr hk)) hS3 (by have := push_last (q := q) bs; have := HA1.out.last; omega) (by omega) HA1.out.nx)
            have HS9 := Lib.hid hS3
            clear hS3 m3
            go_wp2_with (go_at_call 15; refine (umtx_Next s p _ c _ _ _ HS9.out).mono ?_; rintro e wz ⟨rfl, rfl⟩)
            go_roundw
            case rel => exact ⟨i + 1, next, _, _, rfl, by go_num, by omega, HA9.out⟩
            case measure => simp [intOf]; omega
          by_cases hk1 : kd = 1
          · have hk := hk1
            clear hk0 hk1
            subst hk
            by_cases hn0 : 0 ≤ nn
            · obtain ⟨id, rfl⟩ := Int.eq_ofNat_of_zero_le hn0
              have ew : IntKind.u64.wrap (id : Int) = (id : Int) := IntWalk.u64_in _ (by omega)
              go_wp2_with fail
              refine (umtx_Discard s p T c next q id _ HS1.out).mono ?_
              rintro e w3 ⟨rfl, m3, hS3⟩
              have HA9 := Lib.hid (HA1.out.step (i2 := i + 1) (m3.mono (fun k _ hk => .inr hk)) hS3 (by rw [discard_last]; have := HA1.out.last; omega) (by omega) HA1.out.nx)
              have HS9 := Lib.hid hS3
              clear hS3 m3
              go_wp2_with (go_at_call 15; refine (umtx_Next s p _ c _ _ _ HS9.out).mono ?_; rintro e wz ⟨rfl, rfl⟩)
              go_roundw
              case rel => exact ⟨i + 1, next, _, _, rfl, by go_num, by omega, HA9.out⟩
              case measure => simp [intOf]; omega
            · have hn1 : decide (0 ≤ nn) = false := by simpa using hn0
              have hn2 : nn < 0 := by omega
              have HA9 := Lib.hid (HA1.out.step (i2 := i + 1) (Mod.refl _ _) HS1.out (by have := HA1.out.last; omega) (by omega) HA1.out.nx)
              have HS9 := HS1
              go_wp2_with (go_at_call 15; refine (umtx_Next s p _ c _ _ _ HS9.out).mono ?_; rintro e wz ⟨rfl, rfl⟩)
              go_roundw
              case rel => exact ⟨i + 1, next, _, _, rfl, by go_num, by omega, HA9.out⟩
              case measure => simp [intOf]; omega
          by_cases hk2 : kd = 2
          · have hk := hk2
            clear hk0 hk1 hk2
            subst hk
            go_wp2_with fail
            refine (umtx_Build s p T c next q nn 5 1 (.inl ⟨rfl, rfl⟩) Hcb.out HA1.out.nx _ HS1.out).mono ?_
            rintro e w3 (⟨hask, rfl, rfl⟩ | ⟨hask, v, dv, hd, ls, rfl, m3, hv, hhd, hls, hdv, hS3⟩)
            · have hA0 : (askOf 5 q nn == 0) = false := by simpa using hask
              have HA9 := Lib.hid (HA1.out.step (i2 := i + 1) (Mod.refl _ _) HS1.out (by have := HA1.out.last; omega) (by omega) HA1.out.nx)
              have HS9 := HS1
              generalize askOf 5 q nn = A at hA0 hask ⊢
              have Hask := Lib.hid hask
              clear hask
              go_wp2_with (go_at_call 15; refine (umtx_Next s p _ c _ _ _ HS9.out).mono ?_; rintro e wz ⟨rfl, rfl⟩)
              go_roundw
              case rel => exact ⟨i + 1, next, _, _, rfl, by go_num, by omega, HA9.out⟩
              case measure => simp [intOf]; omega
            · obtain ⟨ha1, ha2, ha3, ha4⟩ := ask_ok hask
              obtain ⟨room, hroom⟩ : ∃ room, min nn.toNat 4000 - 1 = room := ⟨_, rfl⟩
              rw [hroom] at hv hhd hls hdv hS3
              have ha4 : (1 : Int) < nn := ha4
              have hr1 : 1 ≤ room := by omega
              have hr2 : 1 + room ≤ 4000 := by omega
              have hqok := HS1.out.que.ok
              obtain ⟨hf1, hf2, hf3⟩ := Qst.cut_fits hqok room 11 hr1 ha3
              have hlast : (q.cut room 11).q.last = q.last := cutGo_last _ _ _ _ _ _ _ _ _
              generalize q.cut room 11 = R at hv hhd hls hdv hS3 hf1 hf2 hf3 hlast
              have hread := built_reads 5 1 (.inl ⟨rfl, rfl⟩) R.fi next room R.fields hd ls hf1 hf3 hr2 hf2 HA1.out.nx hhd hls
              generalize hd ++ ls ++ R.fields.flatten = bs2 at hread hv
              have hA3 := HA1.out.step (i2 := i + 1) (next2 := (next + 1) % 2 ^ 5) m3 hS3 (by have := HA1.out.last; omega) (by omega) (Nat.mod_lt _ (by decide))
              have HA3 := Lib.hid hA3
              obtain ⟨aoV, capV, rfl, hsV⟩ := own_seg hv
              have HR := Lib.hid (fun (_ : Unit) => umd_Read 5 1 (.inl ⟨rfl, rfl⟩) _ aoV capV _ w3 hsV)
              have z1 : w3.cell? ⟨w.heap.size, 1, none⟩ = some (.int .i64 5) := hA3.cfg.cell 1
              have z2 := hA3.cfg.lt
              have hnx := HA1.out.nx
              have hnx2 : next < 32 := hnx
              obtain ⟨aod, capd, rfl, _⟩ := own_seg hdv
              have hread' := hread
              clear ha1 ha2 ha3 ha4 hroom hqok hf1 hf2 hf3 hlast hread hA3 hsV hv hhd hls hdv hS3 m3 hask hnx
              go_wp2_with fail
              have hR := HR.out ()
              rw [hread'] at hR
              clear hread'
              refine hR.mono ?_
              rintro e w4 ⟨fv, rfl, m4, hfv⟩
              obtain ⟨aof, capf, rfl, hrf⟩ := hfv.rows
              have hA4 := HA3.out.step (i2 := i + 1) (next2 := (next + 1) % 2 ^ 5) (m4.mono (fun _ _ h => h.elim)) (HA3.out.snd.mod m4) HA3.out.last HA3.out.i80 HA3.out.nx
              have hA5 := hA4.step (i2 := i + 1) (next2 := (next + 1) % 2 ^ 5) (w2 := w4.alloc (.cells #[.int .i64 (R.fi : Nat), .int .i64 (next : Nat), .slice aof R.fields.length capf] 42)) (Mod.allocs _) (hA4.snd.mod (Mod.allocs _)) hA4.last hA4.i80 hA4.nx
              have HA9 := Lib.hid hA5
              have HS9 := Lib.hid hA5.snd
              have y1 : w4.cell? ⟨w.heap.size, 1, none⟩ = some (.int .i64 5) := hA4.cfg.cell 1
              have y2 := hA4.cfg.lt
              clear hA4 hA5 m4 hfv hrf z1 z2 HR
              go_wp2_with (go_at_call 15; refine (umtx_Next s p _ c _ _ _ HS9.out).mono ?_; rintro e wz ⟨rfl, rfl⟩)
              exact ⟨⟨i + 1, (next + 1) % 2 ^ 5, _, _, by rw [show ((next : Int) + 1) % 32 = (((next + 1) % 2 ^ 5 : Nat) : Int) by omega], by go_num, by omega, HA9.out⟩, by simp [intOf]; omega⟩
          by_cases hk3 : kd = 3
          · have hk := hk3
            clear hk0 hk1 hk2 hk3
            subst hk
            go_wp2_with fail
            refine (umtx_Reset s p T c next q _ HS1.out).mono ?_
            rintro e w3 ⟨v, rfl, m3, hv, hS3⟩
            have HA9 := Lib.hid (HA1.out.step (i2 := i + 1) (next2 := 0) m3 hS3 (by show q.last ≤ i + 1; have := HA1.out.last; omega) (by omega) (by decide))
            have HS9 := Lib.hid hS3
            clear hS3 m3 hv
            go_wp2_with (go_at_call 15; refine (umtx_Next s p _ c _ _ _ HS9.out).mono ?_; rintro e wz ⟨rfl, rfl⟩)
            go_roundw
            case rel => exact ⟨i + 1, 0, _, _, rfl, by go_num, by omega, HA9.out⟩
            case measure => simp [intOf]; omega
          have h0 : (kd == 0) = false := by simpa using hk0
          have h1 : (kd == 1) = false := by simpa using hk1
          have h2 : (kd == 2) = false := by simpa using hk2
          have h3 : (kd == 3) = false := by simpa using hk3
          have HA9 := Lib.hid (HA1.out.step (i2 := i + 1) (Mod.refl _ _) HS1.out (by have := HA1.out.last; omega) (by omega) HA1.out.nx)
          have HS9 := HS1
          clear hk0 hk1 hk2 hk3
          go_wp2_with (go_at_call 15; refine (umtx_Next s p _ c _ _ _ HS9.out).mono ?_; rintro e wz ⟨rfl, rfl⟩)
          go_roundw
          case rel => exact ⟨i + 1, next, _, _, rfl, by go_num, by omega, HA9.out⟩
          case measure => simp [intOf]; omega
      · have hg1 : decide ((i : Int) < 80) = false := by simp; omega
        have hg2 : (i : Int) < (ops.length : Int) := by omega
        have h80' : 80 ≤ i := by omega
        have M := Lib.hid hA.mod
        clear hA h80
        go_wp2_with (go_at_call 9; refine (umtx_alive _).mono ?_; rintro e wz ⟨rfl, mz⟩)
        go_ret
        exact ⟨rfl, M.out.trans mz⟩
    · have hg2 : ¬ (i : Int) < (ops.length : Int) := by omega
      have M := Lib.hid hA.mod
      clear hA
      go_wp2_with (go_at_call 9; refine (umtx_alive _).mono ?_; rintro e wz ⟨rfl, mz⟩)
      go_ret
      exact ⟨rfl, M.out.trans mz⟩
theorem numbers_10 (c : Cfg) (hc : c.check = 0) (hm1 : c.mode = 1) (hcb : c.bits = 10) (ao : Option Addr) (cap : Nat) (ops : List OpD) (w : World) (hO : OpsAt w ao cap ops) : Calls Try.prog 3 #[.agg #[.int .i64 c.mode, .int .i64 10, .int .i64 c.window, .int .i64 c.reorder, .int .i64 c.c4, .int .i64 c.c5, .int .i64 c.c6, .int .i64 c.c7, .int .i64 c.c8, .int .i64 c.bytes], .slice ao ops.length cap] w fun e w' => e = .returned (.bool true) ∧ Mod Nil w w' := by
  have hnew := umtx_New_ok c
  rw [hcb] at hnew
  have Hnew := Lib.hid hnew; have HO := Lib.hid hO; have Hcb := Lib.hid hcb
  have hlen := hO.1
  have hcap := hO.2.1
  have Hc := Lib.hid hc; have Hm1 := Lib.hid hm1
  clear hnew hO hcb hc hm1
  go_enter Try.func3, Try.ntmps3
  go_wp2_with fail
  refine (Hnew.out _ Hc.out Hm1.out).mono ?_
  rintro e w1 ⟨s, p, rfl, m1, hs0, hp0, hS⟩
  rw [World.size_alloc] at hs0 hp0
  have hA : NumAt w c 10 10 s p w1 0 0 ⟨c.bytes.toNat, 0, 0, []⟩ Nil := by
    refine ⟨m1.of_alloc, (Blk.new w _ _).mod m1 (fun h => h), hS, by omega, by omega, Nat.le_refl _, by omega, by decide⟩
  have HA := Lib.hid hA
  clear hA hS m1 Hnew
  go_wp2_with fail
  go_loopw [7, 8] (fun v7 v8 wr => ∃ (i next : Nat) (q : Qst) (T : Nat → Prop), v7 = .int .i64 (next : Nat) ∧ v8 = .int .i64 (i : Nat) ∧ i ≤ ops.length ∧ NumAt w c 10 10 s p wr i next q T) (fun _ v8 _ => 80 - (intOf v8).toNat)
  case atStart => exact ⟨0, 0, _, _, rfl, rfl, Nat.zero_le _, HA.out⟩
  case round =>
    obtain ⟨i, next, q, T, rfl, rfl, hi, hA⟩ := hrel
    have hi80 := hA.i80
    by_cases hlt : i < ops.length
    · by_cases h80 : i < 80
      · obtain ⟨o, ho⟩ : ∃ o, ops[i]? = some o := ⟨_, List.getElem?_eq_getElem hlt⟩
        obtain ⟨b, off, rfl, hb, aoB, capB, hc0, hc1, hc2, hsg, hn1, hn2⟩ := HO.out.2.2 i o ho
        obtain ⟨kd, nn, bs⟩ := o
        simp only at hc0 hc1 hc2 hsg hn1 hn2
        rw [← hA.mod.cell hb (fun h => h)] at hc0 hc1 hc2
        have hsg := hsg.mod hA.mod (fun _ _ _ h => h)
        have Hsg := Lib.hid hsg
        have hg1 : (0 : Int) ≤ (i : Int) := by omega
        have hg2 : (i : Int) < (ops.length : Int) := by omega
        have hg3 : (i : Int) < 80 := by omega
        have hbw : b < wr.heap.size := by have := hA.mod.size; omega
        have A1 : NumAt w c 10 10 s p (wr.alloc (.cells #[.int .i64 kd, .int .i64 nn, .slice aoB bs.length capB] 32)) i next q T := hA.step (Mod.allocs _) (hA.snd.mod (Mod.allocs _)) hA.last hA.i80 hA.nx
        have HA1 := Lib.hid A1
        have HS1 := Lib.hid A1.snd
        have hs0 := A1.s0
        have hp0 := A1.p0
        clear A1 hA ho
        by_cases hbig : 1100 < bs.length
        · clear hsg
          go_wp2_with (go_at_call 9; refine (umtx_alive _).mono ?_; rintro e wz ⟨rfl, mz⟩)
          go_ret
          exact ⟨rfl, HA1.out.mod.trans mz⟩
        · clear Hsg
          have hbig' : bs.length ≤ 1100 := by omega
          have hd0 : wr.cell? ⟨b, off + (i * 3 + 1), none⟩ = some (.int .i64 nn) := by rw [← Nat.add_assoc]; exact hc1
          have hd1 : wr.cell? ⟨b, off + (i * 3 + 2), none⟩ = some (.slice aoB bs.length capB) := by rw [← Nat.add_assoc]; exact hc2
          clear hbig
          by_cases hk0 : kd = 0
          · have hk := hk0
            clear hk0
            subst hk
            go_wp2_with fail
            refine (umtx_Push s p T (Under w.heap.size) c next q aoB capB bs _ HS1.out (hsg.mod (Mod.allocs _) (fun _ _ _ h => h)) (fun k hk e => by subst e; simp only [Under] at hk; omega) (by omega) (by have := HA1.out.last; omega)).mono ?_
            rintro e w3 ⟨rfl, m3, hS3⟩
            have HA9 := Lib.hid (HA1.out.step (i2 := i + 1) (m3.mono (fun k _ hk => .inr hk)) hS3 (by have := push_last (q := q) bs; have := HA1.out.last; omega) (by omega) HA1.out.nx)
            have HS9 := Lib.hid hS3
            clear hS3 m3
            go_wp2_with (go_at_call 15; refine (umtx_Next s p _ c _ _ _ HS9.out).mono ?_; rintro e wz ⟨rfl, rfl⟩)
            go_roundw
            case rel => exact ⟨i + 1, next, _, _, rfl, by go_num, by omega, HA9.out⟩
            case measure => simp [intOf]; omega
          by_cases hk1 : kd = 1
          · have hk := hk1
            clear hk0 hk1
            subst hk
            by_cases hn0 : 0 ≤ nn
            · obtain ⟨id, rfl⟩ := Int.eq_ofNat_of_zero_le hn0
              have ew : IntKind.u64.wrap (id : Int) = (id : Int) := IntWalk.u64_in _ (by omega)
              go_wp2_with fail
              refine (umtx_Discard s p T c next q id _ HS1.out).mono ?_
              rintro e w3 ⟨rfl, m3, hS3⟩
              have HA9 := Lib.hid (HA1.out.step (i2 := i + 1) (m3.mono (fun k _ hk => .inr hk)) hS3 (by rw [discard_last]; have := HA1.out.last; omega) (by omega) HA1.out.nx)
              have HS9 := Lib.hid hS3
              clear hS3 m3
              go_wp2_with (go_at_call 15; refine (umtx_Next s p _ c _ _ _ HS9.out).mono ?_; rintro e wz ⟨rfl, rfl⟩)
              go_roundw
              case rel => exact ⟨i + 1, next, _, _, rfl, by go_num, by omega, HA9.out⟩
              case measure => simp [intOf]; omega
            · have hn1 : decide (0 ≤ nn) = false := by simpa using hn0
              have hn2 : nn < 0 := by omega
              have HA9 := Lib.hid (HA1.out.step (i2 := i + 1) (Mod.refl _ _) HS1.out (by have := HA1.out.last; omega) (by omega) HA1.out.nx)
              have HS9 := HS1
              go_wp2_with (go_at_call 15; refine (umtx_Next s p _ c _ _ _ HS9.out).mono ?_; rintro e wz ⟨rfl, rfl⟩)
              go_roundw
              case rel => exact ⟨i + 1, next, _, _, rfl, by go_num, by omega, HA9.out⟩
              case measure => simp [intOf]; omega
          by_cases hk2 : kd = 2
          · have hk := hk2
            clear hk0 hk1 hk2
            subst hk
            go_wp2_with fail
            refine (umtx_Build s p T c next q nn 10 2 (.inr ⟨rfl, rfl⟩) Hcb.out HA1.out.nx _ HS1.out).mono ?_
            rintro e w3 (⟨hask, rfl, rfl⟩ | ⟨hask, v, dv, hd, ls, rfl, m3, hv, hhd, hls, hdv, hS3⟩)
            · have hA0 : (askOf 10 q nn == 0) = false := by simpa using hask
              have HA9 := Lib.hid (HA1.out.step (i2 := i + 1) (Mod.refl _ _) HS1.out (by have := HA1.out.last; omega) (by omega) HA1.out.nx)
              have HS9 := HS1
              generalize askOf 10 q nn = A at hA0 hask ⊢
              have Hask := Lib.hid hask
              clear hask
              go_wp2_with (go_at_call 15; refine (umtx_Next s p _ c _ _ _ HS9.out).mono ?_; rintro e wz ⟨rfl, rfl⟩)
              go_roundw
              case rel => exact ⟨i + 1, next, _, _, rfl, by go_num, by omega, HA9.out⟩
              case measure => simp [intOf]; omega
            · obtain ⟨ha1, ha2, ha3, ha4⟩ := ask_ok hask
              obtain ⟨room, hroom⟩ : ∃ room, min nn.toNat 4000 - 2 = room := ⟨_, rfl⟩
              rw [hroom] at hv hhd hls hdv hS3
              have ha4 : (2 : Int) < nn := ha4
              have hr1 : 1 ≤ room := by omega
              have hr2 : 2 + room ≤ 4000 := by omega
              have hqok := HS1.out.que.ok
              obtain ⟨hf1, hf2, hf3⟩ := Qst.cut_fits hqok room 11 hr1 ha3
              have hlast : (q.cut room 11).q.last = q.last := cutGo_last _ _ _ _ _ _ _ _ _
              generalize q.cut room 11 = R at hv hhd hls hdv hS3 hf1 hf2 hf3 hlast
              have hread := built_reads 10 2 (.inr ⟨rfl, rfl⟩) R.fi next room R.fields hd ls hf1 hf3 hr2 hf2 HA1.out.nx hhd hls
              generalize hd ++ ls ++ R.fields.flatten = bs2 at hread hv
              have hA3 := HA1.out.step (i2 := i + 1) (next2 := (next + 1) % 2 ^ 10) m3 hS3 (by have := HA1.out.last; omega) (by omega) (Nat.mod_lt _ (by decide))
              have HA3 := Lib.hid hA3
              obtain ⟨aoV, capV, rfl, hsV⟩ := own_seg hv
              have HR := Lib.hid (fun (_ : Unit) => umd_Read 10 2 (.inr ⟨rfl, rfl⟩) _ aoV capV _ w3 hsV)
              have z1 : w3.cell? ⟨w.heap.size, 1, none⟩ = some (.int .i64 10) := hA3.cfg.cell 1
              have z2 := hA3.cfg.lt
              have hnx := HA1.out.nx
              have hnx2 : next < 1024 := hnx
              obtain ⟨aod, capd, rfl, _⟩ := own_seg hdv
              have hread' := hread
              clear ha1 ha2 ha3 ha4 hroom hqok hf1 hf2 hf3 hlast hread hA3 hsV hv hhd hls hdv hS3 m3 hask hnx
              go_wp2_with fail
              have hR := HR.out ()
              rw [hread'] at hR
              clear hread'
              refine hR.mono ?_
              rintro e w4 ⟨fv, rfl, m4, hfv⟩
              obtain ⟨aof, capf, rfl, hrf⟩ := hfv.rows
              have hA4 := HA3.out.step (i2 := i + 1) (next2 := (next + 1) % 2 ^ 10) (m4.mono (fun _ _ h => h.elim)) (HA3.out.snd.mod m4) HA3.out.last HA3.out.i80 HA3.out.nx
              have hA5 := hA4.step (i2 := i + 1) (next2 := (next + 1) % 2 ^ 10) (w2 := w4.alloc (.cells #[.int .i64 (R.fi : Nat), .int .i64 (next : Nat), .slice aof R.fields.length capf] 42)) (Mod.allocs _) (hA4.snd.mod (Mod.allocs _)) hA4.last hA4.i80 hA4.nx
              have HA9 := Lib.hid hA5
              have HS9 := Lib.hid hA5.snd
              have y1 : w4.cell? ⟨w.heap.size, 1, none⟩ = some (.int .i64 10) := hA4.cfg.cell 1
              have y2 := hA4.cfg.lt
              clear hA4 hA5 m4 hfv hrf z1 z2 HR
              go_wp2_with (go_at_call 15; refine (umtx_Next s p _ c _ _ _ HS9.out).mono ?_; rintro e wz ⟨rfl, rfl⟩)
              exact ⟨⟨i + 1, (next + 1) % 2 ^ 10, _, _, by rw [show ((next : Int) + 1) % 1024 = (((next + 1) % 2 ^ 10 : Nat) : Int) by omega], by go_num, by omega, HA9.out⟩, by simp [intOf]; omega⟩
          by_cases hk3 : kd = 3
          · have hk := hk3
            clear hk0 hk1 hk2 hk3
            subst hk
            go_wp2_with fail
            refine (umtx_Reset s p T c next q _ HS1.out).mono ?_
            rintro e w3 ⟨v, rfl, m3, hv, hS3⟩
            have HA9 := Lib.hid (HA1.out.step (i2 := i + 1) (next2 := 0) m3 hS3 (by show q.last ≤ i + 1; have := HA1.out.last; omega) (by omega) (by decide))
            have HS9 := Lib.hid hS3
            clear hS3 m3 hv
            go_wp2_with (go_at_call 15; refine (umtx_Next s p _ c _ _ _ HS9.out).mono ?_; rintro e wz ⟨rfl, rfl⟩)
            go_roundw
            case rel => exact ⟨i + 1, 0, _, _, rfl, by go_num, by omega, HA9.out⟩
            case measure => simp [intOf]; omega
          have h0 : (kd == 0) = false := by simpa using hk0
          have h1 : (kd == 1) = false := by simpa using hk1
          have h2 : (kd == 2) = false := by simpa using hk2
          have h3 : (kd == 3) = false := by simpa using hk3
          have HA9 := Lib.hid (HA1.out.step (i2 := i + 1) (Mod.refl _ _) HS1.out (by have := HA1.out.last; omega) (by omega) HA1.out.nx)
          have HS9 := HS1
          clear hk0 hk1 hk2 hk3
          go_wp2_with (go_at_call 15; refine (umtx_Next s p _ c _ _ _ HS9.out).mono ?_; rintro e wz ⟨rfl, rfl⟩)
          go_roundw
          case rel => exact ⟨i + 1, next, _, _, rfl, by go_num, by omega, HA9.out⟩
          case measure => simp [intOf]; omega
      · have hg1 : decide ((i : Int) < 80) = false := by simp; omega
        have hg2 : (i : Int) < (ops.length : Int) := by omega
        have h80' : 80 ≤ i := by omega
        have M := Lib.hid hA.mod
        clear hA h80
        go_wp2_with (go_at_call 9; refine (umtx_alive _).mono ?_; rintro e wz ⟨rfl, mz⟩)
        go_ret
        exact ⟨rfl, M.out.trans mz⟩
    · have hg2 : ¬ (i : Int) < (ops.length : Int) := by omega
      have M := Lib.hid hA.mod
      clear hA
      go_wp2_with (go_at_call 9; refine (umtx_alive _).mono ?_; rintro e wz ⟨rfl, mz⟩)
      go_ret
      exact ⟨rfl, M.out.trans mz⟩

theorem numbers_bad (c : Cfg) (h : c.check ≠ 0 ∨ c.mode ≠ 1) (ao : Option Addr) (n cap : Nat) (w : World) : Calls Try.prog 3 #[.agg #[.int .i64 c.mode, .int .i64 c.bits, .int .i64 c.window, .int .i64 c.reorder, .int .i64 c.c4, .int .i64 c.c5, .int .i64 c.c6, .int .i64 c.c7, .int .i64 c.c8, .int .i64 c.bytes], .slice ao n cap] w fun e w' => e = .returned (.bool true) ∧ Mod Nil w w' := by
  obtain ⟨E, hE0, hnew⟩ : ∃ E : Nat, E ≠ 0 ∧ ∀ w, Calls Try.prog 8 #[.agg #[.int .i64 c.mode, .int .i64 c.bits, .int .i64 c.window, .int .i64 c.reorder, .int .i64 c.c4, .int .i64 c.c5, .int .i64 c.c6, .int .i64 c.c7, .int .i64 c.c8, .int .i64 c.bytes]] w fun e w' => e = .returned (.tuple #[.pointer none, .int .i64 (E : Int)]) ∧ Mod Nil w w' :=
    ⟨_, by split <;> omega, fun w => umtx_New_bad c w h⟩
  have Hnew := Lib.hid hnew
  have e1 : ((E : Int) != 0) = true := by simp only [bne_iff_ne]; omega
  have e2 : ((E : Int) == 0) = false := by simp only [beq_eq_false_iff_ne]; omega
  clear hnew h hE0
  go_enter Try.func3, Try.ntmps3
  go_wp2_with fail
  refine (Hnew.out _).mono ?_
  rintro e w1 ⟨rfl, m1⟩
  have M1 := Lib.hid (m1.of_alloc (F := Nil))
  clear m1
  go_wp2_with (go_at_call 9; refine (umtx_alive _).mono ?_; rintro e wz ⟨rfl, mz⟩)
  go_ret
  exact ⟨rfl, M1.out.trans mz⟩

theorem numbers_walk (c : Cfg) (ao : Option Addr) (cap : Nat) (ops : List OpD) (w : World) (hO : OpsAt w ao cap ops) : Calls Try.prog 3 #[.agg #[.int .i64 c.mode, .int .i64 c.bits, .int .i64 c.window, .int .i64 c.reorder, .int .i64 c.c4, .int .i64 c.c5, .int .i64 c.c6, .int .i64 c.c7, .int .i64 c.c8, .int .i64 c.bytes], .slice ao ops.length cap] w fun e w' => e = .returned (.bool true) ∧ Mod Nil w w' := by
  by_cases h : c.check = 0 ∧ c.mode = 1
  · obtain ⟨hc, hm⟩ := h
    rcases (Cfg.check_um hc hm).1 with hb | hb
    · have := numbers_5 c hc hm hb ao cap ops w hO
      rw [← hb] at this; exact this
    · have := numbers_10 c hc hm hb ao cap ops w hO
      rw [← hb] at this; exact this
  · exact numbers_bad c (by omega) ao ops.length cap w
end Go.Proofs.Ytgokmkceplkngaa

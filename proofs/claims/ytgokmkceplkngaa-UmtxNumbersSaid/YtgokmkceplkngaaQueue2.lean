import Derived.Test.YtgokmkceplkngaaQueue1
set_option maxRecDepth 100000
set_option maxHeartbeats 1000000
set_option linter.unusedVariables false
set_option linter.unusedSimpArgs false
namespace Go.Proofs.Ytgokmkceplkngaa
open Go Go.RowKit
theorem Try.infoTxt : (Try.prog.info? 166).map (fun i => (i.zero, i.size, i.bytes)) = some (some (.agg #[.int .u64 0, .slice none 0 0]), 2, 32) := by kernel_rfl
theorem txt_one {w : World} {T : Nat → Prop} {ts : List Txt} {vs : List Value} (h : ∀ (i : Nat) (v : Value), vs[i]? = some v → BVal w T v (ts.getD i (0, [])).2) : ∀ u ∈ txtCells ts vs, u.oneCell' = true := by
  intro u hu
  have : (∃ n : Int, u = .int .u64 n) ∨ u ∈ vs := by
    clear h
    induction ts generalizing vs with
    | nil => simp [txtCells] at hu
    | cons t ts ih =>
      cases vs with
      | nil => simp [txtCells] at hu
      | cons v vs =>
        simp only [txtCells, List.mem_cons] at hu
        rcases hu with rfl | rfl | hu
        · exact .inl ⟨_, rfl⟩
        · exact .inr (by simp)
        · rcases ih hu with h | h
          · exact .inl h
          · exact .inr (by simp [h])
  rcases this with ⟨n, rfl⟩ | hv
  · rfl
  · obtain ⟨i, hi⟩ := List.getElem?_of_mem hv
    obtain ⟨ao, cap, rfl, _⟩ := h i u hi
    rfl

theorem cloneTxt (T : Nat → Prop) (ao : Option Addr) (n cap : Nat) (cs : List Value) (w : World) (h : Seg w T ao n cap cs) (hl : cs.length = n * 2) (h1 : ∀ u ∈ cs, u.oneCell' = true) (hb : n ≤ 1000) :
    Calls Try.prog 120 #[.slice ao n cap] w fun e w' => ∃ v, e = .returned v ∧ Mod Nil w w' ∧ w'.ownsRow w.heap.size 166 2 v n cs := by
  obtain ⟨i0, hi, hz0, hz1, hz2⟩ := info_parts Try.infoTxt
  have hnil := Lib.run_eql_slice_nil (P := Try.prog)
  have Hl := Lib.hid hl; have H1 := Lib.hid h1
  clear hl h1
  go_enter Try.func120, Try.ntmps120
  cases ao with
  | none =>
    have hc := h.nil rfl
    have hn0 : n = 0 := by have := h.le; omega
    subst hn0
    have hcs : cs = [] := List.eq_nil_of_length_eq_zero (by have := Hl.out; omega)
    subst hcs; subst hc
    go_wp2_with fail
    go_ret
    exact ⟨_, rfl, Mod.refl _ _, World.ownsRow_nil _ _ _ _⟩
  | some ad =>
    go_wp2_with (at_builtin; refine wpList_app _ rfl _ _ 162 rfl w.heap.size 166 i0 _ 2 32 Try.underlying162 hi hz0 hz1 hz2 rfl (by decide) _ 0 [] rfl (World.ownsRow_made w #[] 0 (Nat.le_refl _) (by unfold maxLen; omega) rfl) T (some ad) n cap cs rfl (h.alloc _) Hl.out H1.out (by unfold maxLen; omega) (by omega) (by simp) ?_)
    intro v' w1 hown hgrow
    go_wp2_with fail
    go_ret
    refine ⟨_, rfl, ((Mod.refl _ w).alloc _).grown hgrow (fun k hk hlt => ?_), by simpa using hown⟩
    simp [Value.ownBlock] at hk; omega

/-- T, and all that is new since w. -/
def New (T : Nat → Prop) (w : World) : Nat → Prop := fun k => T k ∨ w.heap.size ≤ k
/-- The queue behind a take of n bytes. -/
def Qst.take (q : Qst) (n : Nat) : Qst :=
  match q.ts with
  | [] => q
  | t :: rest => if q.taken + n < t.2.length then { q with taken := q.taken + n } else { q with taken := 0, ts := rest }
theorem txtSum_cons (t : Txt) (ts : List Txt) : txtSum (t :: ts) = t.2.length + txtSum ts := by simp [txtSum]
theorem Qst.take_ok {q : Qst} (h : q.Ok) (n : Nat) : (q.take n).Ok := by
  obtain ⟨room, taken, last, ts⟩ := q
  cases ts with
  | nil => exact h
  | cons t rest =>
    have ht := h.taken
    have hs := h.sum
    have he := h.each
    have hn := h.n
    simp only [txtSum_cons] at ht hs he hn
    unfold Qst.take
    simp only
    split
    · rename_i hlt
      exact ⟨h.room0, h.room, h.n, h.each, hlt, h.sum, h.last⟩
    · refine ⟨h.room0, h.room, by simp only at hn ⊢; simp at hn; omega, fun x hx => he x (by simp [hx]), ?_, by simp only; omega, h.last⟩
      cases rest with
      | nil => rfl
      | cons t2 r2 => have := he t2 (by simp); simp only; omega

theorem queue_Take_none (p : Nat) (T : Nat → Prop) (q : Qst) (n : Int) (w : World) (h : Q w p T q) (h0 : q.ts.length = 0) : Calls Try.prog 65 #[.pointer (some ⟨p, 0, none⟩), .int .i64 n] w fun e w' =>
    e = .returned (.tuple #[.slice none 0 0, .bool false, .int .i64 4]) ∧ w = w' := by
  have H := Lib.hid h
  obtain ⟨ao, cap, vs, hb, hvl, hseg, hbv, hTp, hok⟩ := h
  have c1 : w.cell? ⟨p, 1, none⟩ = some (.slice ao q.ts.length cap) := hb.cell 1
  have h0' : ((q.ts.length : Int) == 0) = true := by rw [h0]; rfl
  clear h0 hok
  go_enter Try.func65, Try.ntmps65
  go_wp2_with (go_at_call 102; refine (queue_made p T q w H.out).mono ?_; rintro e w1 ⟨rfl, rfl⟩)
  go_ret3
  exact ⟨rfl, rfl⟩

theorem queue_Take (p : Nat) (T : Nat → Prop) (q : Qst) (id : Nat) (b : List UInt8) (rest : List Txt) (n : Nat) (w : World) (h : Q w p T q) (hts : q.ts = (id, b) :: rest) (hn1 : 1 ≤ n) (hn2 : q.taken + n ≤ b.length) :
    Calls Try.prog 65 #[.pointer (some ⟨p, 0, none⟩), .int .i64 (n : Int)] w fun e w' => ∃ v, e = .returned (.tuple #[v, .bool (decide (q.taken + n = b.length)), .int .i64 0]) ∧ Mod (One p) w w' ∧
      w'.ownsRow w.heap.size 5 1 v n (((b.drop q.taken).take n).map V8) ∧ Q w' p (New T w) (q.take n) := by
  obtain ⟨t, ht⟩ : ∃ t, decide (q.taken + n = b.length) = t := ⟨_, rfl⟩
  rw [ht]
  have Ht := Lib.hid ht; clear ht
  have H := Lib.hid h
  obtain ⟨ao, cap, vs, hb, hvl, hseg, hbv, hTp, hok⟩ := h
  have hok' := Lib.hid hok
  have hlen : q.ts.length = rest.length + 1 := by rw [hts]; rfl
  obtain ⟨bb, off, rfl, _, hblt, hcells⟩ := hseg.get (j := 0) (by rw [txtCells_length hvl]; omega)
  have hg := txtCells_get hvl 0 (by omega)
  have hv0 : vs[0]? = some vs[0] := List.getElem?_eq_getElem (by omega)
  obtain ⟨aj, cj, hvj, hsj⟩ := hbv 0 _ hv0
  rw [hts] at hg hsj hvj
  simp only [List.getD_cons_zero] at hg hsj hvj
  have c1 : w.cell? ⟨p, 1, none⟩ = some (.slice (some ⟨bb, off, none⟩) q.ts.length cap) := hb.cell 1
  have c2 : w.cell? ⟨p, 2, none⟩ = some (.int .i64 (q.taken : Int)) := hb.cell 2
  have d1 : w.cell? ⟨bb, off + 1, none⟩ = some (.slice aj b.length cj) := hcells 1 _ (by rw [hts]; have h2 := hg.2; rw [hv0, hvj] at h2; exact h2)
  have hbl := hok.each (id, b) (by rw [hts]; simp)
  have hroom := hok.room
  have hsum := hok.sum
  have h0' : ((q.ts.length : Int) == 0) = false := by simp only [beq_eq_false_iff_ne]; omega
  have g1 : 0 ≤ (q.taken : Int) := by omega
  have g2 : (q.taken : Int) ≤ (b.length : Int) := by omega
  have g3 : 0 < q.ts.length := by omega
  have hcj := hsj.le
  obtain ⟨b2, off2, rfl, _, _, _⟩ := hsj.get (j := 0) (by simp; omega)
  obtain ⟨ao2, hif, hcut⟩ := hsj.from1 q.taken (by simp) (by omega)
  rw [if_neg (by omega), Option.map_some, Addr.add_lit] at hif
  subst hif
  rw [← List.map_drop] at hcut
  obtain ⟨cs, hcs⟩ : ∃ cs, b.drop q.taken = cs := ⟨_, rfl⟩
  have hcl : b.length - q.taken = cs.length := by rw [← hcs]; simp
  rw [hcs, hcl] at hcut
  have hncs : n ≤ cs.length := by omega
  have hcs5 : cs.length ≤ 1000 := by have := hbl.2; simp at this; omega
  have hq20 : q.taken ≤ 1000 := by have := hbl.2; simp at this; omega
  have hbytes : (q.bytes : Int) = (txtSum q.ts : Int) - q.taken := by
    unfold Qst.bytes; rw [hts, txtSum_cons]; simp only; omega
  have hbt : n ≤ q.bytes := by unfold Qst.bytes; rw [hts, txtSum_cons]; simp only; omega
  have hb6 : q.bytes ≤ 64000 := by unfold Qst.bytes; omega
  have Hcl := Lib.hid hcl; have Hts := Lib.hid hts; have Hcs := Lib.hid hcs; have Hlen := Lib.hid hlen; have Hbytes := Lib.hid hbytes
  have g4 : 0 ≤ (n : Int) := by omega
  have g5 : (n : Int) ≤ (cs.length : Int) := by omega
  have g6 : (n : Int) ≤ ((cj - q.taken : Nat) : Int) := by have := hcut.le; omega
  clear hts hcs hcl hlen hbytes hbl hcells hg hv0 hvj hsj hok
  go_enter Try.func65, Try.ntmps65
  go_wp2_with (go_at_call 102; refine (queue_made p T q w H.out).mono ?_; rintro e w1 ⟨rfl, rfl⟩)
  go_quiet (fail)
  go_wp2_with fail
  have htk := hcut.take 1 n (by simp) hncs
  rw [Nat.mul_one, ← List.map_take] at htk
  obtain ⟨ds, hds⟩ : ∃ ds, cs.take n = ds := ⟨_, rfl⟩
  have hdl : ds.length = n := by rw [← hds, List.length_take]; omega
  rw [hds] at htk
  have hcl8 := clone8 T (some ⟨b2, off2 + q.taken, none⟩) n ds (w.drewN nq) (by rw [hdl]; exact htk.mod ((Mod.refl Nil _).drewN nq) (fun _ _ _ h => h)) (by omega)
  rw [hdl] at hcl8
  have Hcl8 := Lib.hid hcl8; have Hds := Lib.hid hds; have Hdl := Lib.hid hdl
  clear hcl8 hds hdl htk
  refine Hcl8.out.mono ?_
  rintro e w2 ⟨v, rfl, hm2, hown⟩
  have hm20 : Mod Nil w w2 := ((Mod.refl Nil w).drewN nq).trans hm2
  have hb2 := hb.mod hm20 (fun h => h)
  have e1 : w2.cell? ⟨p, 1, none⟩ = some (.slice (some ⟨bb, off, none⟩) q.ts.length cap) := hb2.cell 1
  have e2 : w2.cell? ⟨p, 2, none⟩ = some (.int .i64 (q.taken : Int)) := hb2.cell 2
  have e4 : w2.cell? ⟨p, 4, none⟩ = some (.int .i64 (q.bytes : Int)) := hb2.cell 4
  have f1 : w2.frozen? ⟨p, 1, none⟩ = false := hb2.free 1
  have f2 : w2.frozen? ⟨p, 2, none⟩ = false := hb2.free 2
  have f4 : w2.frozen? ⟨p, 4, none⟩ = false := hb2.free 4
  have hplt2 := hb2.lt
  clear c1 c2 d1 hm2
  by_cases hlast : q.taken + n < b.length
  · have hlast' : (n : Int) < ((b.length - q.taken : Nat) : Int) := by omega
    have Hlast := Lib.hid hlast
    clear hlast
    go_wp2_with fail
    go_ret3
    have htf : t = false := by have := Hlast.out; rw [← Ht.out]; exact decide_eq_false (by omega)
    have htake : q.take n = { q with taken := q.taken + n } := by
      unfold Qst.take; rw [Hts.out]; simp only; rw [if_pos Hlast.out]
    have hmm : Mod (One p) w ((w2.setCell ⟨p, 2, none⟩ (.int .i64 ((q.taken : Int) + n))).setCell ⟨p, 4, none⟩ (.int .i64 ((q.bytes : Int) - n))) :=
      ((Mod.nil (F := One p) hm20).setCell (p := ⟨p, 2, none⟩) (fun _ => rfl) _).setCell (p := ⟨p, 4, none⟩) (fun _ => rfl) _
    refine ⟨v, by rw [htf]; rfl, hmm, ?_, ?_⟩
    · rw [Hcs.out, Hds.out]
      exact ownsRow_setCell_below (ownsRow_setCell_below hown (a := ⟨p, 2, none⟩) hb.lt _) (a := ⟨p, 4, none⟩) hb.lt _
    · have hok2 := Qst.take_ok hok'.out n
      rw [htake] at hok2 ⊢
      refine ⟨_, cap, vs, ?_, hvl, (hseg.mod hmm (fun k _ hk h => by cases h; exact hTp hk)).mono (fun k _ hk => .inl hk), fun i x hx => ((hbv i x hx).mod hmm (fun k _ hk h => by cases h; exact hTp hk)).mono (fun k _ hk => .inl hk), ?_, hok2⟩
      · have k1 := (hb2.setCell 2 (.int .i64 ((q.taken : Int) + n))).setCell 4 (.int .i64 ((q.bytes : Int) - n))
        have e5 : (({ q with taken := q.taken + n } : Qst).bytes : Int) = (q.bytes : Int) - n := by
          unfold Qst.bytes; simp only; have h1 := Hbytes.out; unfold Qst.bytes at h1 hbt; omega
        have e6 : ((q.taken + n : Nat) : Int) = (q.taken : Int) + n := by omega
        simp only [e5, e6]
        exact k1
      · rintro (hk | hk)
        · exact hTp hk
        · have := hb.lt; omega
  · have hlast' : ¬ (n : Int) < ((b.length - q.taken : Nat) : Int) := by omega
    have Hlast := Lib.hid hlast
    clear hlast
    have hcut1 := hseg.cut 2 1 q.ts.length cap (txtCells_length hvl) (by omega) hseg.le (Nat.le_refl _) (Nat.le_refl _)
    have Hcut1 := Lib.hid hcut1
    clear hcut1
    have hw3 : Mod (One p) w ((w2.setCell ⟨p, 2, none⟩ (.int .i64 ((q.taken : Int) + n))).setCell ⟨p, 4, none⟩ (.int .i64 ((q.bytes : Int) - n))) :=
      ((Mod.nil (F := One p) hm20).setCell (p := ⟨p, 2, none⟩) (fun _ => rfl) _).setCell (p := ⟨p, 4, none⟩) (fun _ => rfl) _
    obtain ⟨ao3, hif3⟩ : ∃ ao3, (if cap = 1 then (some ⟨bb, off, none⟩ : Option Addr) else some ⟨bb, off + 2, none⟩) = ao3 := ⟨_, rfl⟩
    have Hif3 := Lib.hid hif3
    go_wp2_with fail
    have hseg3 : Seg w T ao3 (q.ts.length - 1) (cap - 1) (txtCells rest (vs.drop 1)) := by
      have h5 := Hcut1.out
      rw [Option.map_some, Addr.add_lit, Nat.one_mul, Hif3.out] at h5
      have h6 := txtCells_drop hvl 1
      rw [List.take_of_length_le (by rw [List.length_drop, txtCells_length hvl]; omega)] at h5
      rw [show 2 = 2 * 1 from rfl, ← h6, Hts.out] at h5
      simpa [Hts.out] using h5
    have hbv3 : ∀ (i : Nat) (v : Value), (vs.drop 1)[i]? = some v → BVal w T v (rest.getD i (0, [])).2 := by
      intro i x hx
      rw [List.getElem?_drop] at hx
      have := hbv (1 + i) x hx
      rw [Hts.out, Nat.add_comm] at this
      simpa using this
    have hrl : (vs.drop 1).length = rest.length := by have := Hlen.out; rw [List.length_drop]; omega
    refine (cloneTxt T ao3 (q.ts.length - 1) (cap - 1) (txtCells rest (vs.drop 1)) _ (hseg3.mod hw3 (fun k _ hk h => by cases h; exact hTp hk)) (by rw [txtCells_length hrl]; have := Hlen.out; omega) (txt_one hbv3) (by have := hok'.out.n; omega)).mono ?_
    rintro e w4 ⟨v4, rfl, hm4, hown4⟩
    have hm40 : Mod (One p) w w4 := hw3.trans (Mod.nil hm4)
    have hb4 := ((hb2.setCell 2 (.int .i64 ((q.taken : Int) + n))).setCell 4 (.int .i64 ((q.bytes : Int) - n))).mod hm4 (fun h => h)
    have k1 : w4.cell? ⟨p, 1, none⟩ = some (.slice (some ⟨bb, off, none⟩) q.ts.length cap) := hb4.cell 1
    have k2 : w4.cell? ⟨p, 2, none⟩ = some (.int .i64 ((q.taken : Int) + n)) := hb4.cell 2
    have k3 : w4.frozen? ⟨p, 1, none⟩ = false := hb4.free 1
    have k4 : w4.frozen? ⟨p, 2, none⟩ = false := hb4.free 2
    have hplt4 := hb4.lt
    obtain ⟨ao4, cap4, rfl, hs4⟩ := own_seg hown4
    have Hown := Lib.hid hown; have Hown4 := Lib.hid hown4
    have hsz2 := hm20.size
    have hsz4 := hm40.size
    have hsz3 := hm4.size
    rw [World.size_setCell, World.size_setCell] at hsz3
    clear e1 e2 e4 f1 f2 f4 hown hown4
    go_wp2_with fail
    go_ret3
    have htt : t = true := by have := Hlast.out; rw [← Ht.out]; exact decide_eq_true (by omega)
    have htake : q.take n = { q with taken := 0, ts := rest } := by
      unfold Qst.take; rw [Hts.out]; simp only; rw [if_neg Hlast.out]
    have hmm : Mod (One p) w ((w4.setCell ⟨p, 2, none⟩ (.int .i64 0)).setCell ⟨p, 1, none⟩ (.slice ao4 (q.ts.length - 1) cap4)) :=
      (hm40.setCell (p := ⟨p, 2, none⟩) (fun _ => rfl) _).setCell (p := ⟨p, 1, none⟩) (fun _ => rfl) _
    have hmm4 : Mod (One p) w4 ((w4.setCell ⟨p, 2, none⟩ (.int .i64 0)).setCell ⟨p, 1, none⟩ (.slice ao4 (q.ts.length - 1) cap4)) :=
      ((Mod.refl (One p) w4).setCell (p := ⟨p, 2, none⟩) (fun _ => rfl) _).setCell (p := ⟨p, 1, none⟩) (fun _ => rfl) _
    have hl1 : q.ts.length - 1 = rest.length := by have := Hlen.out; omega
    refine ⟨v, by rw [htt]; rfl, hmm, ?_, ?_⟩
    · rw [Hcs.out, Hds.out]
      refine own_mod Hown.out ((((Mod.refl (One p) w2).setCell (p := ⟨p, 2, none⟩) (fun _ => rfl) _).setCell (p := ⟨p, 4, none⟩) (fun _ => rfl) _).trans ((Mod.nil hm4).trans hmm4)) (fun g _ hg h => ?_)
      cases h
      have := hb.lt
      have hg' : w.heap.size ≤ p := hg
      omega
    · have hok2 := Qst.take_ok hok'.out n
      rw [htake] at hok2 ⊢
      refine ⟨ao4, cap4, vs.drop 1, ?_, hrl, ?_, fun i x hx => ((hbv3 i x hx).mod hmm (fun k _ hk h => by cases h; exact hTp hk)).mono (fun k _ hk => .inl hk), ?_, hok2⟩
      · have k5 := (hb4.setCell 2 (.int .i64 0)).setCell 1 (.slice ao4 (q.ts.length - 1) cap4)
        have e5 : (({ q with taken := 0, ts := rest } : Qst).bytes : Int) = (q.bytes : Int) - n := by
          have h1 := Hbytes.out
          have h2 := Hlast.out
          have h3 : txtSum q.ts = b.length + txtSum rest := by rw [Hts.out, txtSum_cons]
          show ((txtSum rest - 0 : Nat) : Int) = _
          omega
        simp only [e5]
        rw [← hl1]
        exact k5
      · simp only
        rw [← hl1]
        refine (hs4.mod hmm4 (fun k _ hk h => ?_)).mono (fun k _ hk => .inr ?_)
        · cases h
          have := hb.lt
          simp [From] at hk; omega
        · simp [From] at hk; omega
      · rintro (hk | hk)
        · exact hTp hk
        · have := hb.lt; omega
end Go.Proofs.Ytgokmkceplkngaa

import Derived.Test.YtgokmkceplkngaaQueue5
set_option maxRecDepth 100000
set_option maxHeartbeats 4000000
set_option linter.unusedVariables false
set_option linter.unusedSimpArgs false
namespace Go.Proofs.Ytgokmkceplkngaa
open Go Go.RowKit

def Qst.discard (q : Qst) (id : Nat) : Nat × Qst :=
  let i := q.ts.findIdx (fun t => t.1 == id)
  if i = q.ts.length then (4, q) else if i = 0 ∧ 0 < q.taken then (7, q) else (0, { q with ts := q.ts.take i ++ q.ts.drop (i + 1) })

theorem Qst.discard_none {q : Qst} {id : Nat} (h : ∀ k, k < q.ts.length → (q.ts.getD k (0, [])).1 ≠ id) : q.discard id = (4, q) := by
  have : q.ts.findIdx (fun t => t.1 == id) = q.ts.length := by
    rw [List.findIdx_eq_length]
    intro x hx
    obtain ⟨k, hk, rfl⟩ := List.getElem_of_mem hx
    have := h k hk
    rw [List.getD_eq_getElem?_getD, List.getElem?_eq_getElem hk] at this
    simpa using this
  unfold Qst.discard
  simp only [this, if_true]
theorem Qst.discard_at {q : Qst} {id j : Nat} (hj : j < q.ts.length) (h : ∀ k, k < j → (q.ts.getD k (0, [])).1 ≠ id) (hid : (q.ts.getD j (0, [])).1 = id) :
    q.discard id = if j = 0 ∧ 0 < q.taken then (7, q) else (0, { q with ts := q.ts.take j ++ q.ts.drop (j + 1) }) := by
  have : q.ts.findIdx (fun t => t.1 == id) = j := by
    rw [List.findIdx_eq hj]
    refine ⟨by rw [List.getD_eq_getElem?_getD, List.getElem?_eq_getElem hj] at hid; simpa using hid, fun k hk => ?_⟩
    have := h k hk
    rw [List.getD_eq_getElem?_getD, List.getElem?_eq_getElem (by omega)] at this
    simpa using this
  unfold Qst.discard
  simp only [this]
  rw [if_neg (by omega)]

theorem txtSum_append (a b : List Txt) : txtSum (a ++ b) = txtSum a + txtSum b := by simp [txtSum]
theorem txtSum_at (ts : List Txt) (j : Nat) (hj : j < ts.length) : txtSum ts = txtSum (ts.take j) + (ts.getD j (0, [])).2.length + txtSum (ts.drop (j + 1)) := by
  have h : ts = ts.take j ++ (ts.getD j (0, [])) :: ts.drop (j + 1) := by
    rw [List.getD_eq_getElem?_getD, List.getElem?_eq_getElem hj, Option.getD_some, ← List.drop_eq_getElem_cons hj, List.take_append_drop]
  have h2 := congrArg txtSum h
  rw [txtSum_append, txtSum_cons] at h2
  omega
theorem txtSum_first (ts : List Txt) (j : Nat) (hj : 1 ≤ j) (h : 0 < ts.length) : (ts.getD 0 (0, [])).2.length ≤ txtSum (ts.take j) := by
  cases ts with
  | nil => simp at h
  | cons t ts =>
    obtain ⟨i, rfl⟩ : ∃ i, j = i + 1 := ⟨j - 1, by omega⟩
    rw [List.take_succ_cons, txtSum_cons]
    simp
theorem Qst.bytes_at {q : Qst} {j : Nat} (ok : q.Ok) (hj : j < q.ts.length) (h : j = 0 → q.taken = 0) :
    q.bytes = ({ q with ts := q.ts.take j ++ q.ts.drop (j + 1) } : Qst).bytes + (q.ts.getD j (0, [])).2.length := by
  have h1 := txtSum_at q.ts j hj
  have h2 := ok.front (by omega)
  unfold Qst.bytes
  simp only [txtSum_append]
  by_cases h0 : j = 0
  · have := h h0
    omega
  · have := txtSum_first q.ts j (by omega) (by omega)
    omega
theorem Qst.discard_ok {q : Qst} {j : Nat} (ok : q.Ok) (hj : j < q.ts.length) (h : j = 0 → q.taken = 0) : ({ q with ts := q.ts.take j ++ q.ts.drop (j + 1) } : Qst).Ok := by
  have heach : ∀ t ∈ q.ts.take j ++ q.ts.drop (j + 1), 1 ≤ t.2.length ∧ t.2.length ≤ 1000 := by
    intro t ht
    rcases List.mem_append.1 ht with ht | ht
    · exact ok.each t (List.mem_of_mem_take ht)
    · exact ok.each t (List.mem_of_mem_drop ht)
  refine ⟨ok.room0, ok.room, by have := ok.n; simp; omega, heach, ?_, ?_, ok.last⟩
  · by_cases h0 : j = 0
    · have ht := h h0
      simp only [ht]
      revert heach
      cases q.ts.take j ++ q.ts.drop (j + 1) with
      | nil => intro _; exact trivial
      | cons t ts => intro he; have := he t (by simp); show 0 < t.2.length; omega
    · have h1 := ok.taken
      cases hq : q.ts with
      | nil => rw [hq] at hj; simp at hj
      | cons t ts =>
        rw [hq] at h1
        obtain ⟨i, rfl⟩ : ∃ i, j = i + 1 := ⟨j - 1, by omega⟩
        simp only [List.take_succ_cons, List.cons_append]
        exact h1
  · have h1 := txtSum_at q.ts j hj
    have := ok.sum
    rw [txtSum_append]
    omega

theorem seg_pre2 {w : World} {T : Nat → Prop} {ao : Option Addr} {n cap : Nat} {cs : List Value} (h : Seg w T ao n cap cs) (size k : Nat) (hcs : cs.length = n * size) (hk : k ≤ n) : Seg w T ao k cap (cs.take (k * size)) :=
  ⟨by have := h.le; omega, h.max, h.nil, fun hc => by
    obtain ⟨b, off, e, hb, hcell⟩ := h.at_ (by rintro rfl; simp at hc)
    refine ⟨b, off, e, hb, fun j u hu => hcell j u ?_⟩
    rw [List.getElem?_take] at hu
    split at hu
    · exact hu
    · cases hu⟩

theorem txtCells_take {ts : List Txt} {vs : List Value} (h : vs.length = ts.length) (n : Nat) : txtCells (ts.take n) (vs.take n) = (txtCells ts vs).take (n * 2) := by
  induction ts generalizing vs n with
  | nil => cases vs <;> simp [txtCells]
  | cons t ts ih =>
    cases vs with
    | nil => simp at h
    | cons v vs =>
      cases n with
      | zero => simp [txtCells]
      | succ n =>
        rw [show (n + 1) * 2 = n * 2 + 1 + 1 by omega]
        simp only [List.take_succ_cons, txtCells]
        rw [ih (by simpa using h)]

theorem discard_final (p : Nat) (T : Nat → Prop) (q : Qst) (j : Nat) (w w6 : World) (m : Nat) (vs : List Value) (ao6 : Option Addr) (cap6 : Nat) (hvl : vs.length = q.ts.length) (hTp : ¬ T p) (hp : p < w.heap.size) (ok : q.Ok)
    (hlt : j < q.ts.length) (h0 : j = 0 → q.taken = 0) (hm : (q.ts.getD j (0, [])).2.length = m)
    (hb6 : Blk w6 p #[.int .i64 (q.room : Int), .slice ao6 (j + (q.ts.length - (j + 1))) cap6, .int .i64 (q.taken : Int), .int .u64 (q.last : Int), .int .i64 ((q.bytes : Int) - (m : Int))] 164)
    (hbv : ∀ (i : Nat) (v : Value), vs[i]? = some v → BVal w T v (q.ts.getD i (0, [])).2) (B : Nat)
    (hs : Seg w6 (From B) ao6 (j + (q.ts.length - (j + 1))) cap6 ((txtCells q.ts vs).take (j * 2) ++ ((txtCells q.ts vs).drop ((j + 1) * 2)).take ((q.ts.length - (j + 1)) * 2)))
    (hmm : Mod (One p) w w6) (hB : w.heap.size ≤ B) : Q w6 p (New T w) { q with ts := q.ts.take j ++ q.ts.drop (j + 1) } := by
  have hl : (q.ts.take j ++ q.ts.drop (j + 1)).length = j + (q.ts.length - (j + 1)) := by
    rw [List.length_append, List.length_take, List.length_drop]; omega
  have hcells : txtCells (q.ts.take j ++ q.ts.drop (j + 1)) (vs.take j ++ vs.drop (j + 1)) = (txtCells q.ts vs).take (j * 2) ++ ((txtCells q.ts vs).drop ((j + 1) * 2)).take ((q.ts.length - (j + 1)) * 2) := by
    rw [txtCells_append (by rw [List.length_take, List.length_take, hvl]), txtCells_take hvl, txtCells_drop hvl, Nat.mul_comm 2]
    congr 1
    rw [List.take_of_length_le (by rw [List.length_drop, txtCells_length hvl]; omega)]
  refine ⟨ao6, cap6, vs.take j ++ vs.drop (j + 1), ?_, ?_, ?_, fun i x hx => ?_, ?_, Qst.discard_ok ok hlt h0⟩
  · have hby := Qst.bytes_at ok hlt h0
    rw [hm] at hby
    have : (({ q with ts := q.ts.take j ++ q.ts.drop (j + 1) } : Qst).bytes : Int) = (q.bytes : Int) - (m : Int) := by omega
    rw [this]
    simp only [hl]
    exact hb6
  · simp only [hl]
    rw [List.length_append, List.length_take, List.length_drop]; omega
  · simp only [hl, hcells]
    exact hs.mono (fun k _ hk => .inr (by simp only [From] at hk; omega))
  · have hT2 : ∀ k, k < w.heap.size → T k → ¬ One p k := fun k _ hk h => by cases h; exact hTp hk
    have key : ∃ i', vs[i']? = some x ∧ (q.ts.take j ++ q.ts.drop (j + 1)).getD i (0, []) = q.ts.getD i' (0, []) := by
      rw [List.getElem?_append] at hx
      simp only [List.getD_eq_getElem?_getD]
      split at hx
      · rename_i hi
        rw [List.length_take] at hi
        rw [List.getElem?_take] at hx
        split at hx
        · refine ⟨i, hx, ?_⟩
          rw [List.getElem?_append_left (by rw [List.length_take]; omega), List.getElem?_take, if_pos (by omega)]
        · cases hx
      · rename_i hi
        rw [List.length_take] at hi hx
        rw [List.getElem?_drop] at hx
        refine ⟨_, hx, ?_⟩
        rw [List.getElem?_append_right (by rw [List.length_take]; omega), List.getElem?_drop, List.length_take]
        congr 2
        omega
    obtain ⟨i', hi', he⟩ := key
    rw [he]
    exact ((hbv i' x hi').mod hmm hT2).mono (fun k _ hk => .inl hk)
  · rintro (hk | hk)
    · exact hTp hk
    · omega

theorem queue_Discard (p : Nat) (T : Nat → Prop) (q : Qst) (id : Nat) (w : World) (h : Q w p T q) :
    Calls Try.prog 49 #[.pointer (some ⟨p, 0, none⟩), .int .u64 (id : Int)] w fun e w' =>
      e = .returned (.int .i64 ((q.discard id).1 : Int)) ∧ Mod (One p) w w' ∧ Q w' p (New T w) (q.discard id).2 := by
  obtain ⟨R, hR⟩ : ∃ R, q.discard id = R := ⟨_, rfl⟩
  rw [hR]
  have HR := Lib.hid hR; clear hR
  have H := Lib.hid h
  obtain ⟨aol, capl, vs, hb, hvl, hseg, hbv, hTp, hok⟩ := h
  have hok' := Lib.hid hok
  have hl64 := hok.n
  have hle := hseg.le
  have c1 : w.cell? ⟨p, 1, none⟩ = some (.slice aol q.ts.length capl) := hb.cell 1
  have c2 : w.cell? ⟨p, 2, none⟩ = some (.int .i64 (q.taken : Int)) := hb.cell 2
  have c4 : w.cell? ⟨p, 4, none⟩ = some (.int .i64 (q.bytes : Int)) := hb.cell 4
  have f4 : w.frozen? ⟨p, 4, none⟩ = false := hb.free 4
  have hplt := hb.lt
  clear hok
  go_enter Try.func49, Try.ntmps49
  go_wp2_with (go_at_call 102; refine (queue_made p T q w H.out).mono ?_; rintro e w1 ⟨rfl, rfl⟩)
  refine wp_scope_one 0 (fun a' w' => ∃ (j : Nat), j ≤ q.ts.length ∧ Hid (∀ k, k < j → (q.ts.getD k (0, [])).1 ≠ id) ∧ w' = w ∧
      (∃ u2 u3 u4 u6 u7 u8 u9 u10 u11 u12 u13 u14 u15 u16 u17 u18 u19 u20 u21 u22 u23 u24 u25 u26 u27 u28 u29 u30 u31 u32 u33 u34 u35 u36 u37 u38 u39 u40 u41 u42 u43 u44 u45 u46 u47 u48 u49 u50 u51 u52 u53 u54 u55 u56 u57 u58 u59 u60 u61 u62 u63 u64 u65 u66 u67 u68 u69 u70 u71 u72 u73 : Value, a' = { tmps := #[.pointer (some ⟨p, 0, none⟩), .int .u64 (id : Int), u2, u3, u4, .int .i64 (j : Nat), u6, u7, u8, u9, u10, u11, u12, u13, u14, u15, u16, u17, u18, u19, u20, u21, u22, u23, u24, u25, u26, u27, u28, u29, u30, u31, u32, u33, u34, u35, u36, u37, u38, u39, u40, u41, u42, u43, u44, u45, u46, u47, u48, u49, u50, u51, u52, u53, u54, u55, u56, u57, u58, u59, u60, u61, u62, u63, u64, u65, u66, u67, u68, u69, u70, u71, u72, u73], defers := [] }))
    (fun a' _ => q.ts.length - (intOf (a'.tmps.getD 5 undef)).toNat) rfl ?_ ?_
  · rintro a' w' ⟨j, hj, hinv, hw, ⟨u2, u3, u4, u6, u7, u8, u9, u10, u11, u12, u13, u14, u15, u16, u17, u18, u19, u20, u21, u22, u23, u24, u25, u26, u27, u28, u29, u30, u31, u32, u33, u34, u35, u36, u37, u38, u39, u40, u41, u42, u43, u44, u45, u46, u47, u48, u49, u50, u51, u52, u53, u54, u55, u56, u57, u58, u59, u60, u61, u62, u63, u64, u65, u66, u67, u68, u69, u70, u71, u72, u73, rfl⟩⟩
    subst hw
    by_cases hlt : j < q.ts.length
    · obtain ⟨bb, off, rfl, hTbb, hblt, hcells⟩ := hseg.get (j := 2 * j) (by rw [txtCells_length hvl]; omega)
      have hg := txtCells_get hvl j hlt
      have hv0 : vs[j]? = some vs[j] := List.getElem?_eq_getElem (by omega)
      obtain ⟨aj, cj, hvj, hsj⟩ := hbv j _ hv0
      obtain ⟨x, hx⟩ : ∃ x, (q.ts.getD j (0, [])).1 = x := ⟨_, rfl⟩
      obtain ⟨m, hm⟩ : ∃ m, (q.ts.getD j (0, [])).2.length = m := ⟨_, rfl⟩
      have d0 : w'.cell? ⟨bb, off + j * 2, none⟩ = some (.int .u64 (x : Int)) := by
        rw [Nat.mul_comm]; exact hcells _ _ (by rw [← hx]; exact hg.1)
      have d1 : w'.cell? ⟨bb, off + (j * 2 + 1), none⟩ = some (.slice aj m cj) := by
        rw [Nat.mul_comm]; exact hcells _ _ (by rw [hg.2, hv0, hvj, hm])
      have d1' : w'.cell? ⟨bb, off + j * 2 + 1, none⟩ = some (.slice aj m cj) := by rw [Nat.add_assoc]; exact d1
      have g1 : 0 ≤ (j : Int) := by omega
      have g2 : (j : Int) < (q.ts.length : Int) := by omega
      have g3 : ((j : Int) == (q.ts.length : Int)) = false := by simp only [beq_eq_false_iff_ne]; omega
      have hseg' := Lib.hid hseg
      have hbv' := Lib.hid hbv
      have hx' := Lib.hid hx
      have hm' := Lib.hid hm
      clear hg hv0 hvj hsj hcells hx hm hseg hbv
      by_cases hid : x = id
      · subst hid
        have g4 : ((x : Int) == (x : Int)) = true := by simp
        by_cases hst : j = 0 ∧ 0 < q.taken
        · obtain ⟨hj0, ht⟩ := hst
          have g5 : decide (0 < (q.taken : Int)) = true := by simp; omega
          have g6 : ((j : Int) == 0) = true := by rw [hj0]; rfl
          have hj0' := Lib.hid hj0
          clear hj0
          go_wp2_with fail
          simp only [Exit.jumps]
          go_ret
          have hd := Qst.discard_at (q := q) hlt (fun k hk => hinv.out k hk) hx'.out
          rw [if_pos ⟨hj0'.out, ht⟩] at hd
          rw [← HR.out, hd]
          exact ⟨rfl, Mod.refl _ _, H.out.new (Mod.refl _ _)⟩
        · have hst' := Lib.hid hst
          have hby := Qst.bytes_at hok'.out hlt (by omega)
          rw [hm'.out] at hby
          have hby64 : q.bytes ≤ 64000 := by have := hok'.out.sum; unfold Qst.bytes; omega
          have hmb : m ≤ q.bytes := by omega
          have e1 : IntKind.i64.wrap ((q.bytes : Int) - (m : Int)) = (q.bytes : Int) - (m : Int) := IntWalk.i64_in _ (by omega)
          have e2 : IntKind.i64.wrap ((j : Int) + 1) = (j : Int) + 1 := IntWalk.i64_in _ (by omega)
          have g8 : (0 : Int) ≤ (j : Int) + 1 := by omega
          have g9 : (j : Int) + 1 ≤ (q.ts.length : Int) := by omega
          have g10 : (j : Int) ≤ (capl : Int) := by omega
          have g11 : (q.ts.length : Int) ≤ (capl : Int) := by omega
          have hcase : (((j : Int) == 0) = true ∧ decide (0 < q.taken) = false) ∨ ((j : Int) == 0) = false := by
            by_cases hj0 : j = 0
            · exact .inl ⟨by rw [hj0]; rfl, by simp; omega⟩
            · exact .inr (by simp only [beq_eq_false_iff_ne]; omega)
          have Hby := Lib.hid hby
          clear hby hst
          rcases hcase with ⟨g6, g7⟩ | g6
          all_goals
            go_wp2_with fail
            refine wp_region_still_tail 14 (by kernel_rfl) (by kernel_rfl) ?_
            simp only [List.take_succ_cons, List.take_zero, List.drop_succ_cons, List.drop_zero]
            change wpStill _ _ w'.drew _ _ _
            repeat (refine wpStill_step (fun K hK => ?_); go_simp; refine hK _ ?_; clear hK K)
            refine wpStill_nil ?_
            change wpList _ _ _ _ _ w'.drew
            go_wp2_with fail
            have hb2 := (hb.setCell 4 (.int .i64 ((q.bytes : Int) - (m : Int)))).drew
            have m2 : Mod (One p) w' (w'.setCell ⟨p, 4, none⟩ (.int .i64 ((q.bytes : Int) - (m : Int)))).drew := (Mod.setCell (F := One p) (Mod.refl (One p) w') (p := ⟨p, 4, none⟩) (fun _ => (rfl : p = p)) _).drew
            generalize (w'.setCell ⟨p, 4, none⟩ (.int .i64 ((q.bytes : Int) - (m : Int)))).drew = w2 at hb2 m2 ⊢
            simp only [List.setIfInBounds_toArray, List.set_cons_zero, List.set_cons_succ] at hb2
            have r1 : w2.cell? ⟨p, 1, none⟩ = some (.slice (some ⟨bb, off, none⟩) q.ts.length capl) := hb2.cell 1
            have k1 : w2.frozen? ⟨p, 1, none⟩ = false := hb2.free 1
            clear c1 c2 c4 f4 d0 d1 d1' g3 g4 g6 e1 hb
            refine wp_region_noPanic (wp_region_headG (fun w' => w'.cell? ⟨p, 1, none⟩ = some (.slice (some ⟨bb, off, none⟩) q.ts.length capl))
              [true, true, true, true, true, true, true, true, true, true, true, true, true, true, false, false] 16 rfl (by kernel_rfl) (by kernel_rfl) (fun _ _ _ _ _ h => h) r1 ?_)
            simp only [List.take_succ_cons, List.take_zero, List.drop_succ_cons, List.drop_zero]
            repeat (refine goG_take ?_ (by rfl) (fun w' s1 => ?_) ?_; rotate_left; (go_simp; (try with_reducible rfl)); try simp only [Act.put, List.setIfInBounds_toArray, List.set_cons_zero, List.set_cons_succ])
            refine goG_act (fun K hK => ?_)
            go_simp
            obtain ⟨ao3, hif3⟩ : ∃ ao3, (if capl = j + 1 then (some ⟨bb, off, none⟩ : Option Addr) else some ⟨bb, off + (j + 1) * 2, none⟩) = ao3 := ⟨_, rfl⟩
            rw [hif3]
            have hcut := hseg'.out.cut 2 (j + 1) q.ts.length capl (txtCells_length hvl) (by omega) hle (Nat.le_refl _) (Nat.le_refl _)
            rw [Option.map_some, Addr.add_lit, hif3] at hcut
            have hTp2 : ∀ k, k < w'.heap.size → T k → ¬ One p k := fun k _ hk h => by cases h; exact hTp hk
            have hpre := seg_pre2 hseg'.out 2 j (txtCells_length hvl) (by omega)
            have hb3 := (hb2.alloc (.cells #[.slice (some ⟨bb, off, none⟩) j capl, .slice ao3 (q.ts.length - (j + 1)) (capl - (j + 1))] 162)).drew
            have m3 : Mod (One p) w' (w2.alloc (.cells #[.slice (some ⟨bb, off, none⟩) j capl, .slice ao3 (q.ts.length - (j + 1)) (capl - (j + 1))] 162)).drew := (m2.alloc _).drew
            have z0 : (w2.alloc (.cells #[.slice (some ⟨bb, off, none⟩) j capl, .slice ao3 (q.ts.length - (j + 1)) (capl - (j + 1))] 162)).drew.cell? ⟨w2.heap.size, 0, none⟩ = some (.slice (some ⟨bb, off, none⟩) j capl) := by
              rw [World.cell?_drew, World.cell?_alloc_new]; rfl
            have z1 : (w2.alloc (.cells #[.slice (some ⟨bb, off, none⟩) j capl, .slice ao3 (q.ts.length - (j + 1)) (capl - (j + 1))] 162)).drew.cell? ⟨w2.heap.size, 1, none⟩ = some (.slice ao3 (q.ts.length - (j + 1)) (capl - (j + 1))) := by
              rw [World.cell?_drew, World.cell?_alloc_new]; rfl
            have hsz3 : w2.heap.size ≤ (w2.alloc (.cells #[.slice (some ⟨bb, off, none⟩) j capl, .slice ao3 (q.ts.length - (j + 1)) (capl - (j + 1))] 162)).drew.heap.size := by
              show w2.heap.size ≤ (w2.alloc _).heap.size
              rw [World.size_alloc]; omega
            generalize (w2.alloc (.cells #[.slice (some ⟨bb, off, none⟩) j capl, .slice ao3 (q.ts.length - (j + 1)) (capl - (j + 1))] 162)).drew = w3 at hb3 m3 z0 z1 hsz3 ⊢
            refine hK _ _ (hb3.cell 1) ?_
            clear hK K
            try simp only [Act.put, List.setIfInBounds_toArray, List.set_cons_zero, List.set_cons_succ]
            refine goG_act (fun K hK => ?_)
            go_simp
            go_at_call 103
            have hon := txt_one hbv'.out
            refine (concatTxt T w2.heap.size _ _ _ _ _ _ _ _ w3 z0 z1 (hpre.mod m3 hTp2) (hcut.mod m3 hTp2) ?_ ?_ ?_ ?_ (by omega)).mono ?_
            · rw [List.length_take, txtCells_length hvl]; omega
            · rw [List.length_take, List.length_drop, txtCells_length hvl]; omega
            · exact fun u hu => hon u (List.mem_of_mem_take hu)
            · exact fun u hu => hon u (List.mem_of_mem_drop (List.mem_of_mem_take hu))
            rintro e w6 ⟨v6, rfl, m6, hown6⟩
            obtain ⟨ao6, cap6, rfl, hs6⟩ := own_seg hown6
            have hb6 := hb3.mod m6 (fun h => h)
            try go_simp
            refine hK _ _ (hb6.cell 1) ?_
            clear hK K
            try simp only [Act.put, List.setIfInBounds_toArray, List.set_cons_zero, List.set_cons_succ]
            refine goG_end ?_
            have t1 : w6.frozen? ⟨p, 1, none⟩ = false := hb6.free 1
            have t2 : w6.cell? ⟨p, 1, none⟩ = some (.slice (some ⟨bb, off, none⟩) q.ts.length capl) := hb6.cell 1
            have hp6 := hb6.lt
            have Hs6 := Lib.hid hs6; have Hown6 := Lib.hid hown6; have Hcut := Lib.hid hcut; have Hpre := Lib.hid hpre; have Hon := Lib.hid hon
            clear hs6 hown6 hcut hpre hon hif3
            go_wp2_with fail
            refine NoPanic.normal ?_
            go_wp2_with fail
            simp only [Exit.jumps]
            go_ret
            have hd := Qst.discard_at (q := q) hlt (fun k hk => hinv.out k hk) hx'.out
            rw [if_neg hst'.out] at hd
            rw [← HR.out, hd]
            have hsz6 := m6.size
            have hsz2 := m2.size
            have hmm6 : Mod (One p) w6 (w6.setCell ⟨p, 1, none⟩ (.slice ao6 (j + (q.ts.length - (j + 1))) cap6)) := Mod.setCell (F := One p) (Mod.refl (One p) w6) (p := ⟨p, 1, none⟩) (fun _ => (rfl : p = p)) _
            have hmm := (m3.trans (Mod.nil m6)).trans hmm6
            have hb7 := hb6.setCell 1 (.slice ao6 (j + (q.ts.length - (j + 1))) cap6)
            simp only [List.setIfInBounds_toArray, List.set_cons_zero, List.set_cons_succ] at hb7
            have hs7 := Hs6.out.mod hmm6 (fun k _ hk h => by cases h; simp only [From] at hk; omega)
            exact ⟨rfl, hmm, discard_final p T q j w' _ m vs ao6 cap6 hvl hTp hplt hok'.out hlt (by have := hst'.out; omega) hm'.out hb7 hbv'.out _ hs7 hmm (by omega)⟩
      · have g4 : ((x : Int) == (id : Int)) = false := by simp only [beq_eq_false_iff_ne]; omega
        have hid' := Lib.hid hid
        clear hid
        go_wp2_with fail
        go_step3
        refine ⟨rfl, ⟨j + 1, by omega, fun k hk => ?_, rfl, ?_⟩, ?_⟩
        · by_cases hkj : k = j
          · subst hkj; rw [hx'.out]; exact hid'.out
          · exact hinv.out k (by omega)
        · (repeat apply Exists.intro); rfl
        · simp [intOf]; omega
    · obtain rfl : j = q.ts.length := by omega
      go_wp2_with fail
      simp only [Exit.jumps]
      go_ret
      have hd := Qst.discard_none (q := q) (id := id) (fun k hk => hinv.out k hk)
      rw [← HR.out, hd]
      exact ⟨rfl, Mod.refl _ _, H.out.new (Mod.refl _ _)⟩
  · intro fall
    have Fall := Lib.hid fall; clear fall
    go_wp2_with (go_at_call 102; refine (queue_made p T q w H.out).mono ?_; rintro e w1 ⟨rfl, rfl⟩)
    go_step3
    go_step
    go_step
    refine Fall.out _ _ ?_
    refine ⟨0, Nat.zero_le _, fun k hk => absurd hk (by omega), rfl, ?_⟩
    repeat apply Exists.intro
    rfl
end Go.Proofs.Ytgokmkceplkngaa

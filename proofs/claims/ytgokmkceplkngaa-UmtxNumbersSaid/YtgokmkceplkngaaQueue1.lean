import Derived.Test.YtgokmkceplkngaaRd
import Derived.Deep.RegionHeld3
import Derived.Deep.AppendLies
set_option maxRecDepth 100000
set_option maxHeartbeats 1000000
set_option linter.unusedVariables false
set_option linter.unusedSimpArgs false
namespace Go.Proofs.Ytgokmkceplkngaa
open Go Go.RowKit

/-- A slice of bytes as a value. -/
def BVal (w : World) (T : Nat → Prop) (v : Value) (bs : List UInt8) : Prop := Sl w T v bs.length (bs.map V8)
theorem BVal.mod {w w' : World} {T F : Nat → Prop} {v : Value} {bs : List UInt8} (h : BVal w T v bs) (m : Mod F w w') (hF : ∀ k, k < w.heap.size → T k → ¬ F k) : BVal w' T v bs := Sl.mod h m hF
theorem BVal.mono {w : World} {T T' : Nat → Prop} {v : Value} {bs : List UInt8} (h : BVal w T v bs) (hT : ∀ k, k < w.heap.size → T k → T' k) : BVal w T' v bs := Sl.mono h hT

/-- A text and its number. -/
abbrev Txt := Nat × List UInt8
/-- Texts as cells. -/
def txtCells : List Txt → List Value → List Value
  | t :: ts, v :: vs => .int .u64 (t.1 : Int) :: v :: txtCells ts vs
  | _, _ => []
theorem txtCells_length {ts : List Txt} {vs : List Value} (h : vs.length = ts.length) : (txtCells ts vs).length = ts.length * 2 := by
  induction ts generalizing vs with
  | nil => cases vs <;> simp [txtCells]
  | cons t ts ih =>
    cases vs with
    | nil => simp at h
    | cons v vs => simp only [txtCells, List.length_cons]; rw [ih (by simpa using h)]; omega
theorem txtCells_get {ts : List Txt} {vs : List Value} (h : vs.length = ts.length) (i : Nat) (hi : i < ts.length) :
    (txtCells ts vs)[2 * i]? = some (.int .u64 ((ts.getD i (0, [])).1 : Int)) ∧ (txtCells ts vs)[2 * i + 1]? = vs[i]? := by
  induction ts generalizing vs i with
  | nil => simp at hi
  | cons t ts ih =>
    cases vs with
    | nil => simp at h
    | cons v vs =>
      cases i with
      | zero => simp [txtCells]
      | succ i =>
        have := ih (vs := vs) (by simpa using h) i (by simpa using hi)
        have e1 : 2 * (i + 1) = 2 * i + 1 + 1 := by omega
        have e2 : 2 * (i + 1) + 1 = (2 * i + 1) + 1 + 1 := by omega
        rw [e1]
        simp only [txtCells, List.getElem?_cons_succ, List.getD_cons_succ]
        exact this
theorem txtCells_append {ts us : List Txt} {vs xs : List Value} (h : vs.length = ts.length) : txtCells (ts ++ us) (vs ++ xs) = txtCells ts vs ++ txtCells us xs := by
  induction ts generalizing vs with
  | nil => cases vs with
    | nil => rfl
    | cons v vs => simp at h
  | cons t ts ih =>
    cases vs with
    | nil => simp at h
    | cons v vs => simp only [List.cons_append, txtCells]; rw [ih (by simpa using h)]
theorem txtCells_drop {ts : List Txt} {vs : List Value} (h : vs.length = ts.length) (n : Nat) : txtCells (ts.drop n) (vs.drop n) = (txtCells ts vs).drop (2 * n) := by
  induction ts generalizing vs n with
  | nil => cases vs <;> simp [txtCells]
  | cons t ts ih =>
    cases vs with
    | nil => simp at h
    | cons v vs =>
      cases n with
      | zero => simp
      | succ n =>
        rw [show 2 * (n + 1) = 2 * n + 1 + 1 by omega]
        simp only [txtCells, List.drop_succ_cons]
        exact ih (by simpa using h) n

/-- A queue: its room, how much of the first text is taken, the last number, and the texts. -/
structure Qst where
  room : Nat
  taken : Nat
  last : Nat
  ts : List Txt
def txtSum (ts : List Txt) : Nat := (ts.map fun t => t.2.length).sum
def Qst.bytes (q : Qst) : Nat := txtSum q.ts - q.taken
/-- What holds of a queue that calls have made. -/
structure Qst.Ok (q : Qst) : Prop where
  room0 : 1 ≤ q.room
  room : q.room ≤ 20000
  n : q.ts.length ≤ 64
  each : ∀ t ∈ q.ts, 1 ≤ t.2.length ∧ t.2.length ≤ 1000
  taken : match q.ts with | [] => q.taken = 0 | t :: _ => q.taken < t.2.length
  sum : txtSum q.ts ≤ 64000
  last : q.last < 2 ^ 62
/-- A queue in memory, at block q; what it holds lies in T. -/
def Q (w : World) (p : Nat) (T : Nat → Prop) (q : Qst) : Prop :=
  ∃ ao cap vs, Blk w p #[.int .i64 (q.room : Int), .slice ao q.ts.length cap, .int .i64 (q.taken : Int), .int .u64 (q.last : Int), .int .i64 (q.bytes : Int)] 164 ∧
    vs.length = q.ts.length ∧ Seg w T ao q.ts.length cap (txtCells q.ts vs) ∧ (∀ (i : Nat) (v : Value), vs[i]? = some v → BVal w T v (q.ts.getD i (0, [])).2) ∧ ¬ T p ∧ q.Ok
theorem Q.lt {w : World} {p : Nat} {T : Nat → Prop} {q : Qst} (h : Q w p T q) : p < w.heap.size := by
  obtain ⟨_, _, _, hb, _⟩ := h; exact hb.lt
theorem Q.mod {w w' : World} {p : Nat} {T F : Nat → Prop} {q : Qst} (h : Q w p T q) (m : Mod F w w') (hp : ¬ F p) (hT : ∀ k, k < w.heap.size → T k → ¬ F k) : Q w' p T q := by
  obtain ⟨ao, cap, vs, hb, h1, h2, h3, h4, h5⟩ := h
  exact ⟨ao, cap, vs, hb.mod m hp, h1, h2.mod m hT, fun i v hv => (h3 i v hv).mod m hT, h4, h5⟩

theorem queue_New_bad (r : Int) (w : World) (hr : r < 1 ∨ 20000 < r) : Calls Try.prog 45 #[.int .i64 r] w fun e w' => e = .returned (.tuple #[.pointer none, .int .i64 1]) ∧ w = w' := by
  go_enter Try.func45, Try.ntmps45
  rcases hr with hr | hr
  all_goals
    go_wp2_with fail
    go_ret2
    exact ⟨rfl, rfl⟩
theorem queue_New (r : Nat) (w : World) (h1 : 1 ≤ r) (h2 : r ≤ 20000) : Calls Try.prog 45 #[.int .i64 (r : Int)] w fun e w' =>
    e = .returned (.tuple #[.pointer (some ⟨w.heap.size, 0, none⟩), .int .i64 0]) ∧ Mod Nil w w' ∧ Q w' w.heap.size Nil ⟨r, 0, 0, []⟩ := by
  go_enter Try.func45, Try.ntmps45
  go_wp2_with fail
  go_ret2
  exact ⟨rfl, (Mod.refl _ _).alloc _, none, 0, [], Blk.new w _ _, rfl, Seg.none_ _ _, fun i v h => by simp at h, fun h => h, ⟨h1, h2, by simp, by simp, rfl, by simp [txtSum], Nat.two_pow_pos 62⟩⟩

theorem queue_made (p : Nat) (T : Nat → Prop) (q : Qst) (w : World) (h : Q w p T q) : Calls Try.prog 102 #[.pointer (some ⟨p, 0, none⟩)] w fun e w' => e = .returned (.bool true) ∧ w = w' := by
  obtain ⟨ao, cap, vs, hb, _, _, _, _, hok⟩ := h
  have c0 : w.cell? ⟨p, 0, none⟩ = some (.int .i64 (q.room : Int)) := hb.cell 0
  have h1 : 0 < q.room := hok.room0
  go_enter Try.func102, Try.ntmps102
  go_wp2_with fail
  go_ret
  exact ⟨rfl, rfl⟩
theorem queue_made_nil (w : World) : Calls Try.prog 102 #[.pointer none] w fun e w' => e = .returned (.bool false) ∧ w = w' := by
  go_enter Try.func102, Try.ntmps102
  go_wp2_with fail
  go_ret
  exact ⟨rfl, rfl⟩
theorem queue_Bytes (p : Nat) (T : Nat → Prop) (q : Qst) (w : World) (h : Q w p T q) : Calls Try.prog 66 #[.pointer (some ⟨p, 0, none⟩)] w fun e w' => e = .returned (.int .i64 (q.bytes : Int)) ∧ w = w' := by
  obtain ⟨ao, cap, vs, hb, _, _, _, _, hok⟩ := h
  have c4 : w.cell? ⟨p, 4, none⟩ = some (.int .i64 (q.bytes : Int)) := hb.cell 4
  go_enter Try.func66, Try.ntmps66
  go_wp2_with fail
  go_ret
  exact ⟨rfl, rfl⟩
theorem queue_Bytes_nil (w : World) : Calls Try.prog 66 #[.pointer none] w fun e w' => e = .returned (.int .i64 0) ∧ w = w' := by
  go_enter Try.func66, Try.ntmps66
  go_wp2_with fail
  go_ret
  exact ⟨rfl, rfl⟩

/-- What Front tells. -/
theorem queue_Front (p : Nat) (T : Nat → Prop) (q : Qst) (w : World) (h : Q w p T q) : Calls Try.prog 64 #[.pointer (some ⟨p, 0, none⟩)] w fun e w' => Mod Nil w w' ∧
    ((q.ts = [] ∧ e = .returned (.tuple #[.int .u64 0, .slice none 0 0, .bool false])) ∨
     ∃ id b rest v, q.ts = (id, b) :: rest ∧ e = .returned (.tuple #[.int .u64 (id : Int), v, .bool (decide (0 < q.taken))]) ∧ w'.ownsRow w.heap.size 5 1 v (b.drop q.taken).length ((b.drop q.taken).map V8)) := by
  have H := Lib.hid h
  obtain ⟨ao, cap, vs, hb, hvl, hseg, hbv, hTp, hok⟩ := h
  have c1 : w.cell? ⟨p, 1, none⟩ = some (.slice ao q.ts.length cap) := hb.cell 1
  have c2 : w.cell? ⟨p, 2, none⟩ = some (.int .i64 (q.taken : Int)) := hb.cell 2
  have hplt := hb.lt
  go_enter Try.func64, Try.ntmps64
  by_cases h0 : q.ts.length = 0
  · have Hnil := Lib.hid (List.eq_nil_of_length_eq_zero h0)
    have h0' : ((q.ts.length : Int) == 0) = true := by rw [h0]; rfl
    clear h0
    go_wp2_with (go_at_call 102; refine (queue_made p T q w H.out).mono ?_; rintro e w1 ⟨rfl, rfl⟩)
    go_ret3
    exact ⟨Mod.refl _ _, .inl ⟨Hnil.out, rfl⟩⟩
  · obtain ⟨bb, off, rfl, _, hblt, hcells⟩ := hseg.get (j := 0) (by rw [txtCells_length hvl]; omega)
    obtain ⟨id, b, rest, hts⟩ : ∃ id b rest, q.ts = (id, b) :: rest := by
      cases hq : q.ts with
      | nil => rw [hq] at h0; simp at h0
      | cons t rest => exact ⟨t.1, t.2, rest, rfl⟩
    have hg := txtCells_get hvl 0 (by omega)
    have hv0 : vs[0]? = some vs[0] := List.getElem?_eq_getElem (by omega)
    obtain ⟨aj, cj, hvj, hsj⟩ := hbv 0 _ hv0
    rw [hts] at hg hsj hvj
    simp only [List.getD_cons_zero] at hg hsj hvj
    have d0 : w.cell? ⟨bb, off, none⟩ = some (.int .u64 (id : Int)) := by have := hcells 0 _ (by rw [hts]; exact hg.1); simpa using this
    have d1 : w.cell? ⟨bb, off + 1, none⟩ = some (.slice aj b.length cj) := hcells 1 _ (by rw [hts]; have h2 := hg.2; rw [hv0, hvj] at h2; exact h2)
    have htk : q.taken < b.length := by have := hok.taken; rw [hts] at this; exact this
    have hbl := hok.each (id, b) (by rw [hts]; simp)
    have h0' : ((q.ts.length : Int) == 0) = false := by
      simp only [beq_eq_false_iff_ne]; omega
    have g1 : 0 ≤ (q.taken : Int) := by omega
    have g2 : (q.taken : Int) ≤ (b.length : Int) := by omega
    have g3 : 0 < q.ts.length := by omega
    obtain ⟨ao2, hif, hcut⟩ := hsj.from1 q.taken (by simp) (by omega)
    rw [← List.map_drop] at hcut
    obtain ⟨cs, hcs⟩ : ∃ cs, b.drop q.taken = cs := ⟨_, rfl⟩
    have hcl : b.length - q.taken = cs.length := by rw [← hcs]; simp
    rw [hcs, hcl] at hcut
    have Hcl := Lib.hid hcl; have Hts := Lib.hid hts; have Hcs := Lib.hid hcs
    have hcs5 : cs.length ≤ 1000 := by have := hbl.2; simp at this; omega
    clear hts hcs hcl hg hbl htk hcells hv0 hvj hsj
    go_wp2_with (go_at_call 102; refine (queue_made p T q w H.out).mono ?_; rintro e w1 ⟨rfl, rfl⟩)
    go_region_held3 (fun w' => w'.cell? ⟨p, 1, none⟩ = some (.slice (some ⟨bb, off, none⟩) q.ts.length cap) ∧ w'.cell? ⟨p, 2, none⟩ = some (.int .i64 (q.taken : Int)) ∧ w'.cell? ⟨bb, off, none⟩ = some (.int .u64 (id : Int)) ∧ w'.cell? ⟨bb, off + 1, none⟩ = some (.slice aj b.length cj))
      (first
        | go_keep
        | exact ⟨by rw [hm2.cell hplt (fun h => h)]; exact c1, by rw [hm2.cell hplt (fun h => h)]; exact c2, by rw [hm2.cell hblt (fun h => h)]; exact d0, by rw [hm2.cell hblt (fun h => h)]; exact d1⟩)
      (first
        | (go_simp; go_at_call 74; rw [Hcl.out]; refine (clone8 T ao2 (cj - q.taken) cs _ hcut.drew (by omega)).mono ?_; rintro e w2 ⟨x, rfl, hm2, hownx⟩; obtain ⟨aox, capx, rfl, hsx⟩ := own_seg hownx))
    go_wp2_with fail
    go_ret3
    refine ⟨(Mod.refl _ w).drew.trans hm2, .inr ⟨id, b, rest, _, Hts.out, rfl, ?_⟩⟩
    rw [Hcs.out]
    exact hownx
end Go.Proofs.Ytgokmkceplkngaa

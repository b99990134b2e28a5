import Derived.Test.YtgokmkceplkngaaCut1
import Derived.Test.YtgokmkceplkngaaUmd5
import Derived.Test.YtgokmkceplkngaaQueue7
import Derived.Deep.AppendLies
set_option maxRecDepth 100000
set_option maxHeartbeats 4000000
set_option linter.unusedVariables false
set_option linter.unusedSimpArgs false
namespace Go.Proofs.Ytgokmkceplkngaa
open Go Go.RowKit

/-- What cut.Build took: the queue behind it, FI, the fields and the texts that are done. -/
structure CutR where
  q : Qst
  fi : Nat
  fields : List (List UInt8)
  done : List Nat
def fiOf (b c : Bool) : Nat := (if b then 2 else 0) + (if c then 1 else 0)
/-- Fields out of texts: of the first one tk bytes are gone; so many bytes are used; fb: begun ahead of the fields; the fields and what is done so far. -/
def cutGo (room W : Nat) (q : Qst) : List Txt → Nat → Nat → Bool → List (List UInt8) → List Nat → CutR
  | [], tk, _, fb, fs, dn => ⟨{ q with taken := tk, ts := [] }, fiOf fb false, fs, dn⟩
  | t :: rest, tk, used, fb, fs, dn =>
    if room < used + lsz fs.length W + 1 ∨ fs.length = 24 then ⟨{ q with taken := tk, ts := t :: rest }, fiOf fb false, fs, dn⟩ else
    if t.2.length - tk ≤ room - used - lsz fs.length W then
      cutGo room W q rest 0 (used + (t.2.length - tk)) (fb || decide (0 < tk)) (fs ++ [t.2.drop tk]) (dn ++ [t.1])
    else ⟨{ q with taken := tk + (room - used - lsz fs.length W), ts := t :: rest }, fiOf (fb || decide (0 < tk)) true, fs ++ [(t.2.drop tk).take (room - used - lsz fs.length W)], dn⟩
def Qst.cut (q : Qst) (room W : Nat) : CutR := cutGo room W q q.ts q.taken 0 false [] []

theorem blk_apart {w : World} {b base e s n : Nat} {cs : Array Value} {ty : TypeId} {v : Value} {xs : List Value} (hb : Blk w b cs ty) (h : w.ownsRow base e s v n xs) (hne : e ≠ ty) : v.ownBlock ≠ some b := by
  intro hv
  rcases h.2 with ⟨rfl, _⟩ | ⟨g, cap, cur, rfl, hg, hh, _⟩
  · cases hv
  · have : g = b := by simpa [Value.ownBlock] using hv
    subst this
    have h2 : w.heap[g]? = some (.cells cs ty (0, 0)) := hb
    rw [h2] at hh
    simp at hh
    exact hne hh.2.symm

theorem own_other {w w' : World} {b base e s n : Nat} {cs : Array Value} {ty : TypeId} {v : Value} {xs : List Value} (h : w.ownsRow base e s v n xs) (hb : Blk w b cs ty) (m : Mod (One b) w w') (hne : e ≠ ty) : w'.ownsRow base e s v n xs :=
  own_mod h m (fun g hg _ hk => by cases hk; exact blk_apart hb h hne hg)
theorem OwnRowsAt.other {w w' : World} {b base : Nat} {cs : Array Value} {ty : TypeId} {v : Value} {fs : List (List UInt8)} {vs : List Value} (h : OwnRowsAt w base v fs vs) (hb : Blk w b cs ty) (m : Mod (One b) w w') (h1 : 30 ≠ ty) (h2 : 5 ≠ ty) : OwnRowsAt w' base v fs vs :=
  ⟨h.1, own_other h.2.1 hb m h1, fun i x hx => own_other (h.2.2 i x hx) hb m h2⟩

/-- What has just been laid into a new block of one cell, its number told by itself. -/
theorem news_one (w : World) (n : Nat) (h : w.heap.size = n) (x : Value) (t : TypeId) : ∀ (j : Nat) (u : Value), [x][j]? = some u → (w.alloc (.cells #[x] t)).cell? ((⟨n, 0, none⟩ : Addr).add j) = some u := by
  subst h; exact cell_one_new w x t

/-- What holds ahead of a round of cut.Build. -/
structure CutAt (w : World) (p : Nat) (T : Nat → Prop) (w' : World) (rb pb : Nat) (fv dv : Value) (fb cb : Bool) (fs : List (List UInt8)) (vs : List Value) (dn : List Nat) (q' : Qst) (T' : Nat → Prop) : Prop where
  mod : Mod (One p) w w'
  res : Blk w' rb #[.int .i64 0, .slice none 0 0, .slice none 0 0] 113
  blk : Blk w' pb #[.int .i64 (fiOf fb cb : Nat), fv, dv] 113
  rb0 : w.heap.size ≤ rb
  pb0 : w.heap.size ≤ pb
  ne : rb ≠ pb
  que : Q w' p T' q'
  tb : ∀ k, T' k → k < w'.heap.size
  t0 : ∀ k, T' k → T k ∨ w.heap.size ≤ k
  t1 : ¬ T' rb
  t2 : ¬ T' pb
  t3 : ∀ k, fv.ownBlock = some k → ¬ T' k
  t4 : ∀ k, dv.ownBlock = some k → ¬ T' k
  rows : OwnRowsAt w' w.heap.size fv fs vs
  ids : w'.ownsRow w.heap.size 33 1 dv dn.length (dn.map VU)
  le : fs.length ≤ 24
  dle : dn.length ≤ fs.length
  plt : p < w.heap.size
  nT : ¬ T p

theorem cut_Build_tail {w : World} {p : Nat} {T : Nat → Prop} {w' : World} {rb pb : Nat} {fv dv : Value} {fb cb : Bool} {fs : List (List UInt8)} {vs : List Value} {dn : List Nat} {q' : Qst} {T' : Nat → Prop}
    (h : CutAt w p T w' rb pb fv dv fb cb fs vs dn q' T') (a b c : Value) :
    Mod (One p) w (((w'.setCell ⟨rb, 0, none⟩ a).setCell ⟨rb, 1, none⟩ b).setCell ⟨rb, 2, none⟩ c) ∧ Q (((w'.setCell ⟨rb, 0, none⟩ a).setCell ⟨rb, 1, none⟩ b).setCell ⟨rb, 2, none⟩ c) p (New T w) q' ∧
      OwnRows (((w'.setCell ⟨rb, 0, none⟩ a).setCell ⟨rb, 1, none⟩ b).setCell ⟨rb, 2, none⟩ c) w.heap.size fv fs ∧ (((w'.setCell ⟨rb, 0, none⟩ a).setCell ⟨rb, 1, none⟩ b).setCell ⟨rb, 2, none⟩ c).ownsRow w.heap.size 33 1 dv dn.length (dn.map VU) := by
  have hm : Mod (One rb) w' (((w'.setCell ⟨rb, 0, none⟩ a).setCell ⟨rb, 1, none⟩ b).setCell ⟨rb, 2, none⟩ c) :=
    (((Mod.refl (One rb) w').setCell (p := ⟨rb, 0, none⟩) (fun _ => rfl) _).setCell (p := ⟨rb, 1, none⟩) (fun _ => rfl) _).setCell (p := ⟨rb, 2, none⟩) (fun _ => rfl) _
  have hrb := h.rb0
  have hp := h.plt
  refine ⟨h.mod.trans' hm (fun i hi hk => by cases hk; omega), ?_, ⟨vs, h.rows.other h.res hm (by decide) (by decide)⟩, own_other h.ids h.res hm (by decide)⟩
  have h1 := h.que.mod hm (fun hk => by cases hk; omega) (fun k _ hk hk2 => by cases hk2; exact h.t1 hk)
  refine h1.widen (fun k _ hk => h.t0 k hk) ?_
  rintro (hk | hk)
  · exact h.nT hk
  · omega

theorem CutAt.step {w : World} {p : Nat} {T : Nat → Prop} {w' w2 : World} {rb pb : Nat} {fv dv : Value} {fb cb : Bool} {fs : List (List UInt8)} {vs : List Value} {dn : List Nat} {q' : Qst} {T' : Nat → Prop}
    (h : CutAt w p T w' rb pb fv dv fb cb fs vs dn q' T') (m : Mod Nil w' w2) : CutAt w p T w2 rb pb fv dv fb cb fs vs dn q' T' :=
  ⟨h.mod.trans (Mod.nil m), h.res.mod m (fun h => h), h.blk.mod m (fun h => h), h.rb0, h.pb0, h.ne, h.que.mod m (fun h => h) (fun _ _ _ h => h), fun k hk => Nat.lt_of_lt_of_le (h.tb k hk) m.size, h.t0, h.t1, h.t2, h.t3, h.t4, h.rows.mod m (fun _ _ h => h), own_mod h.ids m (fun _ _ _ h => h), h.le, h.dle, h.plt, h.nT⟩

section
variable {w : World} {p : Nat} {T : Nat → Prop} {w' w2 w3 w5 : World} {rb pb : Nat} {fv dv x : Value} {fb cb : Bool} {fs : List (List UInt8)} {f : List UInt8} {vs : List Value} {dn : List Nat} {q' q3 : Qst} {T' : Nat → Prop}
/-- FI is turned. -/
theorem CutAt.fi (h : CutAt w p T w' rb pb fv dv fb cb fs vs dn q' T') (fb2 cb2 : Bool) (n : Int) (hn : n = (fiOf fb2 cb2 : Nat)) : CutAt w p T (w'.setCell ⟨pb, 0, none⟩ (.int .i64 n)) rb pb fv dv fb2 cb2 fs vs dn q' T' := by
  subst hn
  have hm : Mod (One pb) w' (w'.setCell ⟨pb, 0, none⟩ (.int .i64 (fiOf fb2 cb2 : Nat))) := (Mod.refl (One pb) w').setCell (p := ⟨pb, 0, none⟩) (fun _ => rfl) _
  have h1 := h.pb0
  have h2 := h.plt
  have hb := h.blk.setCell 0 (.int .i64 (fiOf fb2 cb2 : Nat))
  simp only [List.setIfInBounds_toArray, List.set_cons_zero] at hb
  exact ⟨h.mod.trans' hm (fun i hi hk => by cases hk; omega), h.res.mod hm (fun hk => h.ne hk), hb, h.rb0, h.pb0, h.ne, h.que.mod hm (fun hk => by cases hk; omega) (fun k _ hk hk2 => by cases hk2; exact h.t2 hk),
    fun k hk => Nat.lt_of_lt_of_le (h.tb k hk) hm.size, h.t0, h.t1, h.t2, h.t3, h.t4, h.rows.other h.blk hm (by decide) (by decide), own_other h.ids h.blk hm (by decide), h.le, h.dle, h.plt, h.nT⟩
/-- Bytes are taken of the queue. -/
theorem CutAt.take (h : CutAt w p T w2 rb pb fv dv fb cb fs vs dn q' T') (m : Mod (One p) w2 w3) (hq : Q w3 p (New T' w2) q3) :
    CutAt w p T w3 rb pb fv dv fb cb fs vs dn q3 (fun k => New T' w2 k ∧ k < w3.heap.size) := by
  have h1 := h.plt
  have h2 := h.rb0
  have h3 := h.pb0
  have h4 := h.mod.size
  have h5 := h.res.lt
  have h6 := h.blk.lt
  refine ⟨h.mod.trans m, h.res.mod m (fun hk => by cases hk; omega), h.blk.mod m (fun hk => by cases hk; omega), h.rb0, h.pb0, h.ne, hq.widen (fun k hk ht => ⟨ht, hk⟩) (fun hk => hq.nT hk.1), fun k hk => hk.2, ?_, ?_, ?_, ?_, ?_,
    h.rows.mod m (fun k hk hk2 => by cases hk2; omega), own_mod h.ids m (fun g _ hg hk => by cases hk; omega), h.le, h.dle, h.plt, h.nT⟩
  · rintro k ⟨hk | hk, _⟩
    · exact h.t0 k hk
    · right; omega
  · rintro ⟨hk | hk, _⟩
    · exact h.t1 hk
    · omega
  · rintro ⟨hk | hk, _⟩
    · exact h.t2 hk
    · omega
  · rintro k hv ⟨hk | hk, _⟩
    · exact h.t3 k hv hk
    · have := h.rows.2.1.lt k hv; omega
  · rintro k hv ⟨hk | hk, _⟩
    · exact h.t4 k hv hk
    · have := h.ids.lt k hv; omega
theorem CutAt.push (h : CutAt w p T w3 rb pb fv dv fb cb fs vs dn q' T') (hx : w3.ownsRow w.heap.size 5 1 x f.length (f.map V8)) {g cap : Nat} (hown : w5.ownsRow w.heap.size 30 1 (.slice (some ⟨g, 0, none⟩) (fs.length + 1) cap) (fs.length + 1) (vs ++ [x]))
    (hgrow : (w3.alloc (.cells #[x] 30)).grownBy w5 fv.ownBlock) (hat : fv.ownBlock = some g ∨ g = w3.heap.size + 1) (hl : fs.length < 24) :
    CutAt w p T (w5.setCell ⟨pb, 1, none⟩ (.slice (some ⟨g, 0, none⟩) (fs.length + 1) cap)) rb pb (.slice (some ⟨g, 0, none⟩) (fs.length + 1) cap) dv fb cb (fs ++ [f]) (vs ++ [x]) dn q' T' := by
  have h1 := h.plt
  have h2 := h.rb0
  have h3 := h.pb0
  have h4 := h.mod.size
  have h5 := h.res.lt
  have h6 := h.blk.lt
  have m1 : Mod (BlockOf fv) w3 w5 := ((Mod.refl (BlockOf fv) w3).alloc _).trans (Mod.of_grown hgrow)
  have hfp : ∀ k, fv.ownBlock = some k → w.heap.size ≤ k := fun k hk => (h.rows.2.1.lt k hk).1
  have hpf : fv.ownBlock ≠ some pb := blk_apart h.blk h.rows.2.1 (by decide)
  have hrf : fv.ownBlock ≠ some rb := blk_apart h.res h.rows.2.1 (by decide)
  have hrows : OwnRowsAt w5 w.heap.size (.slice (some ⟨g, 0, none⟩) (fs.length + 1) cap) (fs ++ [f]) (vs ++ [x]) := by
    have hA2 := h.rows.mod (F := Nil) ((Mod.refl _ w3).alloc (.cells #[x] 30)) (fun _ _ h => h)
    exact hA2.snoc (hx.alloc _) hown hgrow
  have hids5 : w5.ownsRow w.heap.size 33 1 dv dn.length (dn.map VU) := own_mod h.ids m1 (fun k hk _ hk2 => own_apart h.rows.2.1 h.ids (by decide) k hk2 hk)
  have hb5 := h.blk.mod m1 hpf
  have m2 : Mod (One pb) w5 (w5.setCell ⟨pb, 1, none⟩ (.slice (some ⟨g, 0, none⟩) (fs.length + 1) cap)) := (Mod.refl (One pb) w5).setCell (p := ⟨pb, 1, none⟩) (fun _ => rfl) _
  have hb7 := hb5.setCell 1 (.slice (some ⟨g, 0, none⟩) (fs.length + 1) cap)
  simp only [List.setIfInBounds_toArray, List.set_cons_zero, List.set_cons_succ] at hb7
  have m3 : Mod (fun k => fv.ownBlock = some k ∨ k = pb) w3 (w5.setCell ⟨pb, 1, none⟩ (.slice (some ⟨g, 0, none⟩) (fs.length + 1) cap)) := (m1.mono (fun k _ hk => .inl hk)).trans (m2.mono (fun k _ hk => .inr hk))
  have hs := m1.size
  refine ⟨h.mod.trans' m3 (fun i hi hk => ?_), h.res.mod m3 (fun hk => ?_), hb7, h.rb0, h.pb0, h.ne, h.que.mod m3 (fun hk => ?_) (fun k _ hk hk2 => ?_), fun k hk => Nat.lt_of_lt_of_le (h.tb k hk) m3.size, h.t0, h.t1, h.t2, ?_, h.t4,
    hrows.other hb5 m2 (by decide) (by decide), own_other hids5 hb5 m2 (by decide), by simp; omega, by have := h.dle; simp; omega, h.plt, h.nT⟩
  · rcases hk with hk | rfl
    · have := hfp i hk; omega
    · omega
  · rcases hk with hk | hk
    · exact hrf hk
    · exact h.ne hk
  · rcases hk with hk | hk
    · have := hfp p hk; omega
    · omega
  · rcases hk2 with hk2 | hk2
    · exact h.t3 k hk2 hk
    · exact h.t2 (hk2 ▸ hk)
  · intro k hk ht
    have hg : g = k := by simpa [Value.ownBlock] using hk
    subst hg
    rcases hat with h8 | h8
    · exact h.t3 g h8 ht
    · have := h.tb g ht; omega
theorem CutAt.finish (h : CutAt w p T w3 rb pb fv dv fb cb fs vs dn q' T') (id : Nat) {g cap : Nat} (hown : w5.ownsRow w.heap.size 33 1 (.slice (some ⟨g, 0, none⟩) (dn.length + 1) cap) (dn.length + 1) (dn.map VU ++ [VU id]))
    (hgrow : (w3.alloc (.cells #[VU id] 33)).grownBy w5 dv.ownBlock) (hat : dv.ownBlock = some g ∨ g = w3.heap.size + 1) (hl : dn.length < fs.length) :
    CutAt w p T (w5.setCell ⟨pb, 2, none⟩ (.slice (some ⟨g, 0, none⟩) (dn.length + 1) cap)) rb pb fv (.slice (some ⟨g, 0, none⟩) (dn.length + 1) cap) fb cb fs vs (dn ++ [id]) q' T' := by
  have h1 := h.plt
  have h2 := h.rb0
  have h3 := h.pb0
  have h4 := h.mod.size
  have h5 := h.res.lt
  have h6 := h.blk.lt
  have m1 : Mod (BlockOf dv) w3 w5 := ((Mod.refl (BlockOf dv) w3).alloc _).trans (Mod.of_grown hgrow)
  have hfp : ∀ k, dv.ownBlock = some k → w.heap.size ≤ k := fun k hk => (h.ids.lt k hk).1
  have hpf : dv.ownBlock ≠ some pb := blk_apart h.blk h.ids (by decide)
  have hrf : dv.ownBlock ≠ some rb := blk_apart h.res h.ids (by decide)
  have hrows5 : OwnRowsAt w5 w.heap.size fv fs vs :=
    ⟨h.rows.1, own_mod h.rows.2.1 m1 (fun k hk _ hk2 => own_apart h.rows.2.1 h.ids (by decide) k hk hk2), fun i x hx => own_mod (h.rows.2.2 i x hx) m1 (fun k hk _ hk2 => own_apart (h.rows.2.2 i x hx) h.ids (by decide) k hk hk2)⟩
  have hb5 := h.blk.mod m1 hpf
  have m2 : Mod (One pb) w5 (w5.setCell ⟨pb, 2, none⟩ (.slice (some ⟨g, 0, none⟩) (dn.length + 1) cap)) := (Mod.refl (One pb) w5).setCell (p := ⟨pb, 2, none⟩) (fun _ => rfl) _
  have hb7 := hb5.setCell 2 (.slice (some ⟨g, 0, none⟩) (dn.length + 1) cap)
  simp only [List.setIfInBounds_toArray, List.set_cons_zero, List.set_cons_succ] at hb7
  have m3 : Mod (fun k => dv.ownBlock = some k ∨ k = pb) w3 (w5.setCell ⟨pb, 2, none⟩ (.slice (some ⟨g, 0, none⟩) (dn.length + 1) cap)) := (m1.mono (fun k _ hk => .inl hk)).trans (m2.mono (fun k _ hk => .inr hk))
  have hs := m1.size
  refine ⟨h.mod.trans' m3 (fun i hi hk => ?_), h.res.mod m3 (fun hk => ?_), hb7, h.rb0, h.pb0, h.ne, h.que.mod m3 (fun hk => ?_) (fun k _ hk hk2 => ?_), fun k hk => Nat.lt_of_lt_of_le (h.tb k hk) m3.size, h.t0, h.t1, h.t2, h.t3, ?_,
    hrows5.other hb5 m2 (by decide) (by decide), own_other (by simpa using hown) hb5 m2 (by decide), h.le, by simp; omega, h.plt, h.nT⟩
  · rcases hk with hk | rfl
    · have := hfp i hk; omega
    · omega
  · rcases hk with hk | hk
    · exact hrf hk
    · exact h.ne hk
  · rcases hk with hk | hk
    · have := hfp p hk; omega
    · omega
  · rcases hk2 with hk2 | hk2
    · exact h.t4 k hk2 hk
    · exact h.t2 (hk2 ▸ hk)
  · intro k hk ht
    have hg : g = k := by simpa [Value.ownBlock] using hk
    subst hg
    rcases hat with h8 | h8
    · exact h.t4 g h8 ht
    · have := h.tb g ht; omega
end

theorem queue_Front_nil (p : Nat) (T : Nat → Prop) (q : Qst) (w : World) (h : Q w p T q) (h0 : q.ts = []) : Calls Try.prog 64 #[.pointer (some ⟨p, 0, none⟩)] w fun e w' => e = .returned (.tuple #[.int .u64 0, .slice none 0 0, .bool false]) ∧ Mod Nil w w' :=
  (queue_Front p T q w h).mono fun e w' ⟨m, hh⟩ => by
    rcases hh with ⟨_, rfl⟩ | ⟨id, b, rest, v, h1, _⟩
    · exact ⟨rfl, m⟩
    · rw [h0] at h1; cases h1
theorem queue_Front_cons (p : Nat) (T : Nat → Prop) (q : Qst) (id : Nat) (b : List UInt8) (rest : List Txt) (w : World) (h : Q w p T q) (h0 : q.ts = (id, b) :: rest) : Calls Try.prog 64 #[.pointer (some ⟨p, 0, none⟩)] w fun e w' =>
    ∃ ao cap, e = .returned (.tuple #[.int .u64 (id : Int), .slice ao (b.length - q.taken) cap, .bool (decide (0 < q.taken))]) ∧ Mod Nil w w' :=
  (queue_Front p T q w h).mono fun e w' ⟨m, hh⟩ => by
    rcases hh with ⟨h1, rfl⟩ | ⟨id', b', rest', v, h1, rfl, hv⟩
    · rw [h0] at h1; cases h1
    · rw [h0] at h1
      injection h1 with h1 h2
      injection h1 with h1 h3
      subst h1; subst h3
      obtain ⟨ao, cap, rfl, _⟩ := own_seg hv
      exact ⟨ao, cap, by rw [List.length_drop], m⟩

theorem cut_Build (p : Nat) (T : Nat → Prop) (q : Qst) (room W : Nat) (hW : W = 11 ∨ W = 15) (hroom : room ≤ 4000) (w : World) (h : Q w p T q) :
    Calls Try.prog 51 #[.pointer (some ⟨p, 0, none⟩), .int .i64 (room : Int), .int .i64 (W : Int)] w fun e w' => ∃ fv dv, e = .returned (.tuple #[.agg (if (q.cut room W).fields.length = 0 then #[.int .i64 0, .slice none 0 0, .slice none 0 0] else #[.int .i64 ((q.cut room W).fi : Nat), fv, dv]), .int .i64 (if (q.cut room W).fields.length = 0 then 4 else 0)]) ∧
      Mod (One p) w w' ∧ Q w' p (New T w) (q.cut room W).q ∧ OwnRows w' w.heap.size fv (q.cut room W).fields ∧ w'.ownsRow w.heap.size 33 1 dv (q.cut room W).done.length ((q.cut room W).done.map VU) := by
  obtain ⟨R, hR⟩ : ∃ R, q.cut room W = R := ⟨_, rfl⟩
  rw [hR]
  have HR := Lib.hid hR; clear hR
  have H := Lib.hid h
  have hp := h.lt
  have hWi : (W : Int) = 11 ∨ (W : Int) = 15 := by omega
  obtain ⟨i0, hi, hz0, hz1, hz2⟩ := info_parts Try.infoBytes
  obtain ⟨i1, hi1, hy0, hy1, hy2⟩ := info_parts Try.infoU64
  go_enter Try.func51, Try.ntmps51
  go_wp2_with fail
  refine wp_scope_all (fun l a' w' => match l with
      | 0 => ∃ (pb : Nat) (ts : List Txt) (tk used : Nat) (fb : Bool) (fs : List (List UInt8)) (vs : List Value) (dn : List Nat) (fv dv : Value) (T' : Nat → Prop), CutAt w p T w' w.heap.size pb fv dv fb false fs vs dn { q with taken := tk, ts := ts } T' ∧
          Hid (cutGo room W q ts tk used fb fs dn = R) ∧ used ≤ room ∧
          (∃ u : Nat → Value, a' = { tmps := #[.pointer (some ⟨p, 0, none⟩), .int .i64 (room : Nat), .int .i64 (W : Nat), u 3, u 4, u 5, .pointer (some ⟨w.heap.size, 0, none⟩), u 7, u 8, u 9, u 10, u 11, .pointer (some ⟨pb, 0, none⟩), .int .i64 (used : Nat), u 14, u 15, u 16, u 17, u 18, u 19, u 20, u 21, u 22, u 23, u 24, u 25, u 26, u 27, u 28, u 29, u 30, u 31, u 32, u 33, u 34, u 35, u 36, u 37, u 38, u 39, u 40, u 41, u 42, u 43, u 44, u 45, u 46, u 47, u 48, u 49, u 50, u 51, u 52, u 53, u 54, u 55, u 56, u 57, u 58, u 59, u 60, u 61, u 62, u 63, u 64, u 65, u 66, u 67, u 68, u 69, u 70, u 71, u 72, u 73, u 74, u 75, u 76, u 77, u 78, u 79, u 80, u 81, u 82, u 83, u 84, u 85, u 86, u 87, u 88, u 89, u 90, u 91, u 92, u 93, u 94, u 95, u 96, u 97, u 98, u 99, u 100, u 101, u 102, u 103, u 104, u 105, u 106, u 107, u 108, u 109, u 110], defers := [] })
      | 1 => ∃ (pb : Nat) (q' : Qst) (fb cb : Bool) (fs : List (List UInt8)) (vs : List Value) (dn : List Nat) (fv dv : Value) (T' : Nat → Prop), CutAt w p T w' w.heap.size pb fv dv fb cb fs vs dn q' T' ∧
          Hid ((⟨q', fiOf fb cb, fs, dn⟩ : CutR) = R) ∧
          (∃ u : Nat → Value, a' = { tmps := #[u 0, u 1, u 2, u 3, u 4, u 5, .pointer (some ⟨w.heap.size, 0, none⟩), u 7, u 8, u 9, u 10, u 11, .pointer (some ⟨pb, 0, none⟩), u 13, u 14, u 15, u 16, u 17, u 18, u 19, u 20, u 21, u 22, u 23, u 24, u 25, u 26, u 27, u 28, u 29, u 30, u 31, u 32, u 33, u 34, u 35, u 36, u 37, u 38, u 39, u 40, u 41, u 42, u 43, u 44, u 45, u 46, u 47, u 48, u 49, u 50, u 51, u 52, u 53, u 54, u 55, u 56, u 57, u 58, u 59, u 60, u 61, u 62, u 63, u 64, u 65, u 66, u 67, u 68, u 69, u 70, u 71, u 72, u 73, u 74, u 75, u 76, u 77, u 78, u 79, u 80, u 81, u 82, u 83, u 84, u 85, u 86, u 87, u 88, u 89, u 90, u 91, u 92, u 93, u 94, u 95, u 96, u 97, u 98, u 99, u 100, u 101, u 102, u 103, u 104, u 105, u 106, u 107, u 108, u 109, u 110], defers := [] })
      | _ => False)
    (fun l a' _ => match l with | 0 => room + 1 - (intOf (a'.tmps.getD 13 undef)).toNat | _ => 0) ?_ ?_
  · intro l a' w' hJ
    rcases l with _ | _ | l
    · obtain ⟨pb, ts, tk, used, fb, fs, vs, dn, fv, dv, T', A, hG, hu, u, rfl⟩ := hJ
      refine ⟨_, rfl, ?_⟩
      have hpb := A.blk.lt
      obtain ⟨aof, capf, rfl, hsf⟩ := own_seg A.rows.2.1
      have hfl := A.le
      have hll := lsz_le fs.length W hW
      have HW := Lib.hid hW
      obtain ⟨s, hs⟩ : ∃ s, lsz fs.length W = s := ⟨_, rfl⟩
      rw [hs] at hll
      have Hs := Lib.hid hs
      clear hsf hs hW hWi
      cases ts with
      | nil =>
        go_wp2_with fail
        refine (queue_Front_nil p T' _ w' A.que rfl).mono ?_
        rintro e w1 ⟨rfl, m1⟩
        have A1 := A.step m1
        have HA := Lib.hid A1
        have c1 : w1.cell? ⟨pb, 1, none⟩ = some (.slice aof fs.length capf) := A1.blk.cell 1
        have hpb1 := A1.blk.lt
        clear A A1 m1
        go_wp2_with fail
        refine (lens_SizeV _ fs.length W s rfl Hs.out HW.out (by omega) _).mono ?_
        rintro e w2 ⟨rfl, rfl⟩
        go_wp2_with fail
        go_step3
        refine ⟨⟨pb, _, fb, false, fs, vs, dn, _, dv, T', HA.out, ?_, frame_fn rfl⟩, ?_⟩
        · have := hG.out
          unfold cutGo at this
          exact this
        · show 0 < room + 1 - (intOf _).toNat
          simp [intOf]; omega
      | cons t rest =>
        obtain ⟨id, b⟩ := t
        have hok := A.que.ok
        have hb1 := hok.each (id, b) (by simp)
        have hb2 := hok.taken
        simp only at hb1 hb2
        go_wp2_with fail
        refine (queue_Front_cons p T' _ id b rest w' A.que rfl).mono ?_
        simp only
        rintro e w1 ⟨aoq, capq, rfl, m1⟩
        have A1 := A.step m1
        have HA := Lib.hid A1
        have c0 : w1.cell? ⟨pb, 0, none⟩ = some (.int .i64 (fiOf fb false : Nat)) := A1.blk.cell 0
        have c1 : w1.cell? ⟨pb, 1, none⟩ = some (.slice aof fs.length capf) := A1.blk.cell 1
        have d0 : w1.frozen? ⟨pb, 0, none⟩ = false := A1.blk.free 0
        have hpb1 := A1.blk.lt
        clear A A1 m1 hok
        go_wp2_with fail
        refine (lens_SizeV _ fs.length W s rfl Hs.out HW.out (by omega) _).mono ?_
        rintro e w2 ⟨rfl, rfl⟩
        obtain ⟨m, hm⟩ : ∃ m, b.length - tk = m := ⟨_, rfl⟩
        rw [hm]
        have Hm := Lib.hid hm
        have hm1 : 1 ≤ m := by omega
        have hm2 : m ≤ 1000 := by omega
        have g0 : ((m : Int) == 0) = false := by simp only [beq_eq_false_iff_ne]; omega
        clear hm
        by_cases hstop : room < used + s + 1 ∨ fs.length = 24
        · have hG2 := hG.out
          unfold cutGo at hG2
          rw [Hs.out, if_pos hstop] at hG2
          have HG2 := Lib.hid hG2; clear hG2
          rcases (show room < used + s + 1 ∨ (used + s + 1 ≤ room ∧ fs.length = 24) by omega) with h5 | ⟨h5, h6⟩
          · have g1 : decide ((room : Int) - (used : Int) - (s : Int) < 1) = true := by simp; omega
            clear hstop
            go_wp2_with fail
            go_step3
            refine ⟨⟨pb, _, fb, false, fs, vs, dn, _, dv, T', HA.out, HG2, frame_fn rfl⟩, ?_⟩
            show 0 < room + 1 - (intOf _).toNat
            simp [intOf]; omega
          · have g1 : decide ((room : Int) - (used : Int) - (s : Int) < 1) = false := by simp; omega
            have g2 : ((fs.length : Int) == 24) = true := by rw [h6]; rfl
            have H6 := Lib.hid h6
            clear hstop h6
            go_wp2_with fail
            go_step3
            refine ⟨⟨pb, _, fb, false, fs, vs, dn, _, dv, T', HA.out, HG2, frame_fn rfl⟩, ?_⟩
            show 0 < room + 1 - (intOf _).toNat
            simp [intOf]; omega
        · have hG2 := hG.out
          unfold cutGo at hG2
          rw [Hs.out, if_neg hstop] at hG2
          simp only [Hm.out] at hG2
          have HG2 := Lib.hid hG2; clear hG2 hG
          have h5 : used + s + 1 ≤ room := by omega
          have h6 : fs.length < 24 := by omega
          have g1 : decide ((room : Int) - (used : Int) - (s : Int) < 1) = false := by simp; omega
          have g2 : ((fs.length : Int) == 24) = false := by simp only [beq_eq_false_iff_ne]; omega
          clear hstop
          obtain ⟨fb2, hfb⟩ : ∃ fb2, (fb || decide (0 < tk)) = fb2 := ⟨_, rfl⟩
          rw [hfb] at HG2
          have Hfb := Lib.hid hfb; clear hfb
          by_cases ht : 0 < tk
          · have e1 : decide (0 < tk) = true := by simpa using ht
            have e2 : fb2 = true := by rw [← Hfb.out, e1]; simp
            have A2 := HA.out.fi fb2 false 2 (by rw [e2]; rfl)
            clear e2
            have o1 : bits BinOp.or IntKind.i64 0 2 = 2 := by decide
            have o2 : bits BinOp.or IntKind.i64 2 2 = 2 := by decide
            cases fb
            all_goals
              simp [fiOf] at c0
              go_wp2_with fail
              generalize hw2 : World.setCell _ _ _ = w2 at A2 ⊢
              clear c0 c1 d0 hw2 o1 o2
              by_cases hall : m ≤ room - used - s
              · have e5 : min ((room : Int) - (used : Int) - (s : Int)) (m : Int) = (m : Int) := by omega
                have hG3 := HG2.out
                rw [if_pos hall] at hG3
                have hmr : used + m ≤ room := by omega
                have HG3 := Lib.hid hG3; clear hG3 HG2 hall
                rw [e5]
                clear e5
                have htm : tk + m = b.length := by have := Hm.out; omega
                have Htm := Lib.hid htm; clear htm
                refine (queue_Take p T' _ id b rest m _ A2.que rfl hm1 (by have := Htm.out; simp only; omega)).mono ?_
                simp only
                rintro e w3 ⟨x, rfl, m3, hx, hq3⟩
                rw [show decide (tk + m = b.length) = true from decide_eq_true Htm.out]
                have e6 : Qst.take { room := q.room, taken := tk, last := q.last, ts := (id, b) :: rest } m = { q with taken := 0, ts := rest } := by
                  unfold Qst.take; simp only; rw [if_neg (by have := Htm.out; omega)]
                rw [e6] at hq3
                clear e6
                have hfe : (b.drop tk).take m = b.drop tk := List.take_of_length_le (by rw [List.length_drop]; have := Htm.out; omega)
                rw [hfe] at hx
                clear hfe
                obtain ⟨f, hf⟩ : ∃ f, b.drop tk = f := ⟨_, rfl⟩
                have hfm : f.length = m := by rw [← hf, List.length_drop]; have := Htm.out; omega
                have hf1k : f.length ≤ 1000 := by omega
                have hfu : used + f.length ≤ room := by omega
                have hf1 : 1 ≤ f.length := by omega
                rw [hf] at hx
                rw [← hfm] at hx
                have Hf := Lib.hid hf; have Hfm := Lib.hid hfm
                clear hf hfm
                have A3 := A2.take m3 hq3
                have HA3 := Lib.hid A3
                have hx0 : w3.ownsRow w.heap.size 5 1 x f.length (f.map V8) := own_mono hx A2.mod.size
                obtain ⟨aox, capx, rfl, hsx⟩ := own_seg hx
                have Hx0 := Lib.hid hx0
                have k1 : w3.cell? ⟨pb, 1, none⟩ = some (.slice aof fs.length capf) := A3.blk.cell 1
                have hsz3 := A3.mod.size
                have hpb3 := A3.blk.lt
                have hrows3 := A3.rows.2.1
                clear A2 A3 m3 hx hq3 hsx hx0
                go_wp2_with (at_builtin; refine wpList_append_lies _ rfl _ _ 40 rfl w.heap.size 30 i0 _ 1 24 Try.underlying40 hi hz0 hz1 hz2 rfl (by decide) _ fs.length vs rfl (hrows3.alloc _) ⟨w3.heap.size, 0, none⟩ 1 1 [.slice aox f.length capx] rfl rfl (World.news_of_block (cs := #[.slice aox f.length capx]) (t := 30) (fr := (0, 0)) (heap_alloc_new w3 _)) (by simp [Value.oneCell']) (by omega) (by unfold maxLen; omega) (by omega) (by simp; omega) (w3.heap.size + 1) (by simp) ?_)
                intro g cap w5 hown hgrow hat hlt
                have A5 := HA3.out.push Hx0.out hown hgrow hat h6
                have hpf := blk_apart HA3.out.blk hrows3 (by decide)
                have hb5 := HA3.out.blk.mod (((Mod.refl (BlockOf (.slice aof fs.length capf)) w3).alloc (.cells #[.slice aox f.length capx] 30)).trans (Mod.of_grown hgrow)) hpf
                have HA5 := Lib.hid A5
                have k2 : w5.cell? ⟨pb, 2, none⟩ = some dv := hb5.cell 2
                have k3 : w5.frozen? ⟨pb, 1, none⟩ = false := hb5.free 1
                have k4 : w5.frozen? ⟨pb, 2, none⟩ = false := hb5.free 2
                have k5 : w5.cell? ⟨pb, 1, none⟩ = some (.slice aof fs.length capf) := hb5.cell 1
                have hpb5 := hb5.lt
                have hids5 := A5.ids
                have hdle := A5.dle
                have hle := HA3.out.dle
                have hsz5 : w.heap.size ≤ w5.heap.size := by have := A5.mod.size; simpa using this
                have HFb := Lib.hid hb5
                clear A5 hown hgrow hat k1 hpb3 hrows3 hsz3 hpf hb5
                go_wp2_with (at_builtin; refine wpList_append_lies _ rfl _ _ 37 rfl w.heap.size 33 i1 _ 1 8 Try.underlying37 hi1 hy0 hy1 hy2 rfl (by decide) _ dn.length (dn.map VU) rfl (hids5.alloc _) ⟨w5.heap.size, 0, none⟩ 1 1 [VU id] rfl rfl (news_one _ _ (by simp) _ _) (by simp [Value.oneCell', VU]) (by omega) (by unfold maxLen; omega) (by omega) (by simp; omega) (w5.heap.size + 1) (by simp) ?_)
                intro g2 cap2 w7 hown7 hgrow7 hat7 hlt7
                have A7 := HA5.out.finish id hown7 hgrow7 (by simpa using hat7) (by simp; omega)
                have hb7 := HA5.out.blk.mod (((Mod.refl (BlockOf dv) _).alloc (.cells #[VU id] 33)).trans (Mod.of_grown hgrow7)) (blk_apart HA5.out.blk HA5.out.ids (by decide))
                have HA7 := Lib.hid A7
                have k6 : w7.frozen? ⟨pb, 2, none⟩ = false := hb7.free 2
                have k7 : w7.cell? ⟨pb, 2, none⟩ = some dv := hb7.cell 2
                have hpb7 := hb7.lt
                clear A7 hown7 hgrow7 hat7 k2 k3 k4 k5 hpb5 hids5 hb7 hdle
                go_wp2_with fail
                go_step3
                refine ⟨⟨pb, rest, 0, used + f.length, fb2, fs ++ [f], _, dn ++ [id], _, _, _, HA7.out, ?_, ?_, frame_fn rfl⟩, ?_⟩
                · have := HG3.out
                  rw [Hf.out, ← Hfm.out] at this
                  exact this
                · omega
                · show room + 1 - (intOf (.int .i64 _)).toNat < room + 1 - (intOf (.int .i64 _)).toNat
                  have e8 : ((used : Int) + (f.length : Int)).toNat = used + f.length := by omega
                  simp only [intOf, e8, Int.toNat_natCast]
                  omega
              · have hn3 : room - used - s < m := by omega
                obtain ⟨n, hn⟩ : ∃ n, room - used - s = n := ⟨_, rfl⟩
                have e5 : min ((room : Int) - (used : Int) - (s : Int)) (m : Int) = (n : Int) := by omega
                have hG3 := HG2.out
                rw [if_neg hall, hn] at hG3
                have HG3 := Lib.hid hG3; clear hG3 HG2 hall
                rw [e5]
                clear e5
                have hn1 : 1 ≤ n := by omega
                have hn1k : n ≤ 1000 := by omega
                have hnr : used + n ≤ room := by omega
                have htm : tk + n < b.length := by have := Hm.out; omega
                have Htm := Lib.hid htm; have Hn := Lib.hid hn; clear htm hn
                refine (queue_Take p T' _ id b rest n _ A2.que rfl hn1 (by have := Htm.out; simp only; omega)).mono ?_
                simp only
                rintro e w3 ⟨x, rfl, m3, hx, hq3⟩
                rw [show decide (tk + n = b.length) = false from decide_eq_false (by have := Htm.out; omega)]
                have e6 : Qst.take { room := q.room, taken := tk, last := q.last, ts := (id, b) :: rest } n = { q with taken := tk + n, ts := (id, b) :: rest } := by
                  unfold Qst.take; simp only; rw [if_pos (by have := Htm.out; omega)]
                rw [e6] at hq3
                clear e6
                obtain ⟨f, hf⟩ : ∃ f, (b.drop tk).take n = f := ⟨_, rfl⟩
                have hfm : f.length = n := by rw [← hf, List.length_take, List.length_drop]; have := Htm.out; omega
                have hf1k : f.length ≤ 1000 := by omega
                rw [hf] at hx
                rw [← hfm] at hx
                have Hf := Lib.hid hf; have Hfm := Lib.hid hfm
                clear hf hfm
                have A3 := A2.take m3 hq3
                have HA3 := Lib.hid A3
                have hx0 : w3.ownsRow w.heap.size 5 1 x f.length (f.map V8) := own_mono hx A2.mod.size
                obtain ⟨aox, capx, rfl, hsx⟩ := own_seg hx
                have Hx0 := Lib.hid hx0
                have k1 : w3.cell? ⟨pb, 1, none⟩ = some (.slice aof fs.length capf) := A3.blk.cell 1
                have hsz3 := A3.mod.size
                have hpb3 := A3.blk.lt
                have hrows3 := A3.rows.2.1
                clear A2 A3 m3 hx hq3 hsx hx0
                go_wp2_with (at_builtin; refine wpList_append_lies _ rfl _ _ 40 rfl w.heap.size 30 i0 _ 1 24 Try.underlying40 hi hz0 hz1 hz2 rfl (by decide) _ fs.length vs rfl (hrows3.alloc _) ⟨w3.heap.size, 0, none⟩ 1 1 [.slice aox f.length capx] rfl rfl (World.news_of_block (cs := #[.slice aox f.length capx]) (t := 30) (fr := (0, 0)) (heap_alloc_new w3 _)) (by simp [Value.oneCell']) (by omega) (by unfold maxLen; omega) (by omega) (by simp; omega) (w3.heap.size + 1) (by simp) ?_)
                intro g cap w5 hown hgrow hat hlt
                have A5 := HA3.out.push Hx0.out hown hgrow hat h6
                have hpf := blk_apart HA3.out.blk hrows3 (by decide)
                have hb5 := HA3.out.blk.mod (((Mod.refl (BlockOf (.slice aof fs.length capf)) w3).alloc (.cells #[.slice aox f.length capx] 30)).trans (Mod.of_grown hgrow)) hpf
                have HA6 := Lib.hid (A5.fi fb2 true (fiOf fb2 true : Nat) rfl)
                have k0 : w5.cell? ⟨pb, 0, none⟩ = some (.int .i64 (fiOf fb2 false : Nat)) := hb5.cell 0
                have k2 : w5.cell? ⟨pb, 2, none⟩ = some dv := hb5.cell 2
                have k3 : w5.frozen? ⟨pb, 1, none⟩ = false := hb5.free 1
                have k4 : w5.frozen? ⟨pb, 0, none⟩ = false := hb5.free 0
                have k5 : w5.cell? ⟨pb, 1, none⟩ = some (.slice aof fs.length capf) := hb5.cell 1
                have hb5r := HA3.out.res.mod (((Mod.refl (BlockOf (.slice aof fs.length capf)) w3).alloc (.cells #[.slice aox f.length capx] 30)).trans (Mod.of_grown hgrow)) (blk_apart HA3.out.res hrows3 (by decide))
                have r0 : w5.frozen? ⟨w.heap.size, 0, none⟩ = false := hb5r.free 0
                have r1 : w5.frozen? ⟨w.heap.size, 1, none⟩ = false := hb5r.free 1
                have r2 : w5.frozen? ⟨w.heap.size, 2, none⟩ = false := hb5r.free 2
                have q0 : w5.cell? ⟨w.heap.size, 0, none⟩ = some (.int .i64 0) := hb5r.cell 0
                have q1 : w5.cell? ⟨w.heap.size, 1, none⟩ = some (.slice none 0 0) := hb5r.cell 1
                have q2 : w5.cell? ⟨w.heap.size, 2, none⟩ = some (.slice none 0 0) := hb5r.cell 2
                have hrl := hb5r.lt
                have hne := HA3.out.ne
                have hpb5 := hb5.lt
                have o1 : bits BinOp.or IntKind.i64 0 1 = 1 := by decide
                have o2 : bits BinOp.or IntKind.i64 2 1 = 3 := by decide
                have z0 : ((fs.length : Int) + 1 == 0) = false := by simp only [beq_eq_false_iff_ne]; omega
                clear A5 hown hgrow hat k1 hpb3 hrows3 hsz3 hpf hb5 hb5r
                cases fb2
                · simp [fiOf] at k0
                  go_wp2_with fail
                  have A9 := HA6.out
                  simp only [fiOf, Bool.false_eq_true, if_false, if_true, Nat.zero_add] at A9
                  generalize hw9 : World.setCell _ _ _ = w9 at A9 ⊢
                  have t0 : w9.cell? ⟨pb, 0, none⟩ = some (.int .i64 _) := A9.blk.cell 0
                  have t1 : w9.cell? ⟨pb, 1, none⟩ = some (.slice (some ⟨g, 0, none⟩) (fs.length + 1) cap) := A9.blk.cell 1
                  have t2 : w9.cell? ⟨pb, 2, none⟩ = some dv := A9.blk.cell 2
                  have s0 : w9.frozen? ⟨w.heap.size, 0, none⟩ = false := A9.res.free 0
                  have s1 : w9.frozen? ⟨w.heap.size, 1, none⟩ = false := A9.res.free 1
                  have s2 : w9.frozen? ⟨w.heap.size, 2, none⟩ = false := A9.res.free 2
                  have u0 : w9.cell? ⟨w.heap.size, 0, none⟩ = some (.int .i64 0) := A9.res.cell 0
                  have u1 : w9.cell? ⟨w.heap.size, 1, none⟩ = some (.slice none 0 0) := A9.res.cell 1
                  have u2 : w9.cell? ⟨w.heap.size, 2, none⟩ = some (.slice none 0 0) := A9.res.cell 2
                  have l1 := A9.res.lt
                  have l2 := A9.blk.lt
                  have ne9 := A9.ne
                  have HA9 := Lib.hid A9
                  obtain ⟨aod, capd, rfl, _⟩ := own_seg A9.ids
                  clear hw9 A9 k0 k2 k3 k4 k5 r0 r1 r2 q0 q1 q2 hne hrl hpb5 o1 o2
                  simp only [fiOf] at t0
                  refine wp_label ?_
                  go_wp2_with fail
                  simp only [Exit.jumps]
                  refine bodyPost_ret (v := .tuple #[.agg #[.int .i64 1, .slice (some ⟨g, 0, none⟩) (fs.length + 1) cap, .slice aod dn.length capd], .int .i64 0]) (by simp [results, Try.results51, go_sem, u0, u1, u2]) rfl ⟨.slice (some ⟨g, 0, none⟩) (fs.length + 1) cap, .slice aod dn.length capd, ?_, ?_⟩
                  · rw [← HG3.out, Hf.out]
                    simp only [List.length_append, List.length_cons, List.length_nil, Nat.zero_add, Nat.add_eq_zero_iff, Nat.one_ne_zero, and_false, if_false]
                    rfl
                  · rw [← HG3.out, Hf.out]
                    exact cut_Build_tail HA9.out _ _ _
                · simp [fiOf] at k0
                  go_wp2_with fail
                  have A9 := HA6.out
                  simp only [fiOf, Bool.false_eq_true, if_false, if_true, Nat.zero_add] at A9
                  generalize hw9 : World.setCell _ _ _ = w9 at A9 ⊢
                  have t0 : w9.cell? ⟨pb, 0, none⟩ = some (.int .i64 _) := A9.blk.cell 0
                  have t1 : w9.cell? ⟨pb, 1, none⟩ = some (.slice (some ⟨g, 0, none⟩) (fs.length + 1) cap) := A9.blk.cell 1
                  have t2 : w9.cell? ⟨pb, 2, none⟩ = some dv := A9.blk.cell 2
                  have s0 : w9.frozen? ⟨w.heap.size, 0, none⟩ = false := A9.res.free 0
                  have s1 : w9.frozen? ⟨w.heap.size, 1, none⟩ = false := A9.res.free 1
                  have s2 : w9.frozen? ⟨w.heap.size, 2, none⟩ = false := A9.res.free 2
                  have u0 : w9.cell? ⟨w.heap.size, 0, none⟩ = some (.int .i64 0) := A9.res.cell 0
                  have u1 : w9.cell? ⟨w.heap.size, 1, none⟩ = some (.slice none 0 0) := A9.res.cell 1
                  have u2 : w9.cell? ⟨w.heap.size, 2, none⟩ = some (.slice none 0 0) := A9.res.cell 2
                  have l1 := A9.res.lt
                  have l2 := A9.blk.lt
                  have ne9 := A9.ne
                  have HA9 := Lib.hid A9
                  obtain ⟨aod, capd, rfl, _⟩ := own_seg A9.ids
                  clear hw9 A9 k0 k2 k3 k4 k5 r0 r1 r2 q0 q1 q2 hne hrl hpb5 o1 o2
                  simp only [fiOf] at t0
                  refine wp_label ?_
                  go_wp2_with fail
                  simp only [Exit.jumps]
                  refine bodyPost_ret (v := .tuple #[.agg #[.int .i64 3, .slice (some ⟨g, 0, none⟩) (fs.length + 1) cap, .slice aod dn.length capd], .int .i64 0]) (by simp [results, Try.results51, go_sem, u0, u1, u2]) rfl ⟨.slice (some ⟨g, 0, none⟩) (fs.length + 1) cap, .slice aod dn.length capd, ?_, ?_⟩
                  · rw [← HG3.out, Hf.out]
                    simp only [List.length_append, List.length_cons, List.length_nil, Nat.zero_add, Nat.add_eq_zero_iff, Nat.one_ne_zero, and_false, if_false]
                    rfl
                  · rw [← HG3.out, Hf.out]
                    exact cut_Build_tail HA9.out _ _ _
          · have e1 : decide (0 < tk) = false := by simpa using ht
            have e2 : fb2 = fb := by rw [← Hfb.out, e1]; simp
            subst e2
            have A2 := HA.out
            go_wp2_with fail
            clear c0 c1 d0
            by_cases hall : m ≤ room - used - s
            · have e5 : min ((room : Int) - (used : Int) - (s : Int)) (m : Int) = (m : Int) := by omega
              have hG3 := HG2.out
              rw [if_pos hall] at hG3
              have hmr : used + m ≤ room := by omega
              have HG3 := Lib.hid hG3; clear hG3 HG2 hall
              rw [e5]
              clear e5
              have htm : tk + m = b.length := by have := Hm.out; omega
              have Htm := Lib.hid htm; clear htm
              refine (queue_Take p T' _ id b rest m _ A2.que rfl hm1 (by have := Htm.out; simp only; omega)).mono ?_
              simp only
              rintro e w3 ⟨x, rfl, m3, hx, hq3⟩
              rw [show decide (tk + m = b.length) = true from decide_eq_true Htm.out]
              have e6 : Qst.take { room := q.room, taken := tk, last := q.last, ts := (id, b) :: rest } m = { q with taken := 0, ts := rest } := by
                unfold Qst.take; simp only; rw [if_neg (by have := Htm.out; omega)]
              rw [e6] at hq3
              clear e6
              have hfe : (b.drop tk).take m = b.drop tk := List.take_of_length_le (by rw [List.length_drop]; have := Htm.out; omega)
              rw [hfe] at hx
              clear hfe
              obtain ⟨f, hf⟩ : ∃ f, b.drop tk = f := ⟨_, rfl⟩
              have hfm : f.length = m := by rw [← hf, List.length_drop]; have := Htm.out; omega
              have hf1k : f.length ≤ 1000 := by omega
              have hfu : used + f.length ≤ room := by omega
              have hf1 : 1 ≤ f.length := by omega
              rw [hf] at hx
              rw [← hfm] at hx
              have Hf := Lib.hid hf; have Hfm := Lib.hid hfm
              clear hf hfm
              have A3 := A2.take m3 hq3
              have HA3 := Lib.hid A3
              have hx0 : w3.ownsRow w.heap.size 5 1 x f.length (f.map V8) := own_mono hx A2.mod.size
              obtain ⟨aox, capx, rfl, hsx⟩ := own_seg hx
              have Hx0 := Lib.hid hx0
              have k1 : w3.cell? ⟨pb, 1, none⟩ = some (.slice aof fs.length capf) := A3.blk.cell 1
              have hsz3 := A3.mod.size
              have hpb3 := A3.blk.lt
              have hrows3 := A3.rows.2.1
              clear A2 A3 m3 hx hq3 hsx hx0
              go_wp2_with (at_builtin; refine wpList_append_lies _ rfl _ _ 40 rfl w.heap.size 30 i0 _ 1 24 Try.underlying40 hi hz0 hz1 hz2 rfl (by decide) _ fs.length vs rfl (hrows3.alloc _) ⟨w3.heap.size, 0, none⟩ 1 1 [.slice aox f.length capx] rfl rfl (World.news_of_block (cs := #[.slice aox f.length capx]) (t := 30) (fr := (0, 0)) (heap_alloc_new w3 _)) (by simp [Value.oneCell']) (by omega) (by unfold maxLen; omega) (by omega) (by simp; omega) (w3.heap.size + 1) (by simp) ?_)
              intro g cap w5 hown hgrow hat hlt
              have A5 := HA3.out.push Hx0.out hown hgrow hat h6
              have hpf := blk_apart HA3.out.blk hrows3 (by decide)
              have hb5 := HA3.out.blk.mod (((Mod.refl (BlockOf (.slice aof fs.length capf)) w3).alloc (.cells #[.slice aox f.length capx] 30)).trans (Mod.of_grown hgrow)) hpf
              have HA5 := Lib.hid A5
              have k2 : w5.cell? ⟨pb, 2, none⟩ = some dv := hb5.cell 2
              have k3 : w5.frozen? ⟨pb, 1, none⟩ = false := hb5.free 1
              have k4 : w5.frozen? ⟨pb, 2, none⟩ = false := hb5.free 2
              have k5 : w5.cell? ⟨pb, 1, none⟩ = some (.slice aof fs.length capf) := hb5.cell 1
              have hpb5 := hb5.lt
              have hids5 := A5.ids
              have hdle := A5.dle
              have hle := HA3.out.dle
              have hsz5 : w.heap.size ≤ w5.heap.size := by have := A5.mod.size; simpa using this
              have HFb := Lib.hid hb5
              clear A5 hown hgrow hat k1 hpb3 hrows3 hsz3 hpf hb5
              go_wp2_with (at_builtin; refine wpList_append_lies _ rfl _ _ 37 rfl w.heap.size 33 i1 _ 1 8 Try.underlying37 hi1 hy0 hy1 hy2 rfl (by decide) _ dn.length (dn.map VU) rfl (hids5.alloc _) ⟨w5.heap.size, 0, none⟩ 1 1 [VU id] rfl rfl (news_one _ _ (by simp) _ _) (by simp [Value.oneCell', VU]) (by omega) (by unfold maxLen; omega) (by omega) (by simp; omega) (w5.heap.size + 1) (by simp) ?_)
              intro g2 cap2 w7 hown7 hgrow7 hat7 hlt7
              have A7 := HA5.out.finish id hown7 hgrow7 (by simpa using hat7) (by simp; omega)
              have hb7 := HA5.out.blk.mod (((Mod.refl (BlockOf dv) _).alloc (.cells #[VU id] 33)).trans (Mod.of_grown hgrow7)) (blk_apart HA5.out.blk HA5.out.ids (by decide))
              have HA7 := Lib.hid A7
              have k6 : w7.frozen? ⟨pb, 2, none⟩ = false := hb7.free 2
              have k7 : w7.cell? ⟨pb, 2, none⟩ = some dv := hb7.cell 2
              have hpb7 := hb7.lt
              clear A7 hown7 hgrow7 hat7 k2 k3 k4 k5 hpb5 hids5 hb7 hdle
              go_wp2_with fail
              go_step3
              refine ⟨⟨pb, rest, 0, used + f.length, fb2, fs ++ [f], _, dn ++ [id], _, _, _, HA7.out, ?_, ?_, frame_fn rfl⟩, ?_⟩
              · have := HG3.out
                rw [Hf.out, ← Hfm.out] at this
                exact this
              · omega
              · show room + 1 - (intOf (.int .i64 _)).toNat < room + 1 - (intOf (.int .i64 _)).toNat
                have e8 : ((used : Int) + (f.length : Int)).toNat = used + f.length := by omega
                simp only [intOf, e8, Int.toNat_natCast]
                omega
            · have hn3 : room - used - s < m := by omega
              obtain ⟨n, hn⟩ : ∃ n, room - used - s = n := ⟨_, rfl⟩
              have e5 : min ((room : Int) - (used : Int) - (s : Int)) (m : Int) = (n : Int) := by omega
              have hG3 := HG2.out
              rw [if_neg hall, hn] at hG3
              have HG3 := Lib.hid hG3; clear hG3 HG2 hall
              rw [e5]
              clear e5
              have hn1 : 1 ≤ n := by omega
              have hn1k : n ≤ 1000 := by omega
              have hnr : used + n ≤ room := by omega
              have htm : tk + n < b.length := by have := Hm.out; omega
              have Htm := Lib.hid htm; have Hn := Lib.hid hn; clear htm hn
              refine (queue_Take p T' _ id b rest n _ A2.que rfl hn1 (by have := Htm.out; simp only; omega)).mono ?_
              simp only
              rintro e w3 ⟨x, rfl, m3, hx, hq3⟩
              rw [show decide (tk + n = b.length) = false from decide_eq_false (by have := Htm.out; omega)]
              have e6 : Qst.take { room := q.room, taken := tk, last := q.last, ts := (id, b) :: rest } n = { q with taken := tk + n, ts := (id, b) :: rest } := by
                unfold Qst.take; simp only; rw [if_pos (by have := Htm.out; omega)]
              rw [e6] at hq3
              clear e6
              obtain ⟨f, hf⟩ : ∃ f, (b.drop tk).take n = f := ⟨_, rfl⟩
              have hfm : f.length = n := by rw [← hf, List.length_take, List.length_drop]; have := Htm.out; omega
              have hf1k : f.length ≤ 1000 := by omega
              rw [hf] at hx
              rw [← hfm] at hx
              have Hf := Lib.hid hf; have Hfm := Lib.hid hfm
              clear hf hfm
              have A3 := A2.take m3 hq3
              have HA3 := Lib.hid A3
              have hx0 : w3.ownsRow w.heap.size 5 1 x f.length (f.map V8) := own_mono hx A2.mod.size
              obtain ⟨aox, capx, rfl, hsx⟩ := own_seg hx
              have Hx0 := Lib.hid hx0
              have k1 : w3.cell? ⟨pb, 1, none⟩ = some (.slice aof fs.length capf) := A3.blk.cell 1
              have hsz3 := A3.mod.size
              have hpb3 := A3.blk.lt
              have hrows3 := A3.rows.2.1
              clear A2 A3 m3 hx hq3 hsx hx0
              go_wp2_with (at_builtin; refine wpList_append_lies _ rfl _ _ 40 rfl w.heap.size 30 i0 _ 1 24 Try.underlying40 hi hz0 hz1 hz2 rfl (by decide) _ fs.length vs rfl (hrows3.alloc _) ⟨w3.heap.size, 0, none⟩ 1 1 [.slice aox f.length capx] rfl rfl (World.news_of_block (cs := #[.slice aox f.length capx]) (t := 30) (fr := (0, 0)) (heap_alloc_new w3 _)) (by simp [Value.oneCell']) (by omega) (by unfold maxLen; omega) (by omega) (by simp; omega) (w3.heap.size + 1) (by simp) ?_)
              intro g cap w5 hown hgrow hat hlt
              have A5 := HA3.out.push Hx0.out hown hgrow hat h6
              have hpf := blk_apart HA3.out.blk hrows3 (by decide)
              have hb5 := HA3.out.blk.mod (((Mod.refl (BlockOf (.slice aof fs.length capf)) w3).alloc (.cells #[.slice aox f.length capx] 30)).trans (Mod.of_grown hgrow)) hpf
              have HA6 := Lib.hid (A5.fi fb2 true (fiOf fb2 true : Nat) rfl)
              have k0 : w5.cell? ⟨pb, 0, none⟩ = some (.int .i64 (fiOf fb2 false : Nat)) := hb5.cell 0
              have k2 : w5.cell? ⟨pb, 2, none⟩ = some dv := hb5.cell 2
              have k3 : w5.frozen? ⟨pb, 1, none⟩ = false := hb5.free 1
              have k4 : w5.frozen? ⟨pb, 0, none⟩ = false := hb5.free 0
              have k5 : w5.cell? ⟨pb, 1, none⟩ = some (.slice aof fs.length capf) := hb5.cell 1
              have hb5r := HA3.out.res.mod (((Mod.refl (BlockOf (.slice aof fs.length capf)) w3).alloc (.cells #[.slice aox f.length capx] 30)).trans (Mod.of_grown hgrow)) (blk_apart HA3.out.res hrows3 (by decide))
              have r0 : w5.frozen? ⟨w.heap.size, 0, none⟩ = false := hb5r.free 0
              have r1 : w5.frozen? ⟨w.heap.size, 1, none⟩ = false := hb5r.free 1
              have r2 : w5.frozen? ⟨w.heap.size, 2, none⟩ = false := hb5r.free 2
              have q0 : w5.cell? ⟨w.heap.size, 0, none⟩ = some (.int .i64 0) := hb5r.cell 0
              have q1 : w5.cell? ⟨w.heap.size, 1, none⟩ = some (.slice none 0 0) := hb5r.cell 1
              have q2 : w5.cell? ⟨w.heap.size, 2, none⟩ = some (.slice none 0 0) := hb5r.cell 2
              have hrl := hb5r.lt
              have hne := HA3.out.ne
              have hpb5 := hb5.lt
              have o1 : bits BinOp.or IntKind.i64 0 1 = 1 := by decide
              have o2 : bits BinOp.or IntKind.i64 2 1 = 3 := by decide
              have z0 : ((fs.length : Int) + 1 == 0) = false := by simp only [beq_eq_false_iff_ne]; omega
              clear A5 hown hgrow hat k1 hpb3 hrows3 hsz3 hpf hb5 hb5r
              cases fb2
              · simp [fiOf] at k0
                go_wp2_with fail
                have A9 := HA6.out
                simp only [fiOf, Bool.false_eq_true, if_false, if_true, Nat.zero_add] at A9
                generalize hw9 : World.setCell _ _ _ = w9 at A9 ⊢
                have t0 : w9.cell? ⟨pb, 0, none⟩ = some (.int .i64 _) := A9.blk.cell 0
                have t1 : w9.cell? ⟨pb, 1, none⟩ = some (.slice (some ⟨g, 0, none⟩) (fs.length + 1) cap) := A9.blk.cell 1
                have t2 : w9.cell? ⟨pb, 2, none⟩ = some dv := A9.blk.cell 2
                have s0 : w9.frozen? ⟨w.heap.size, 0, none⟩ = false := A9.res.free 0
                have s1 : w9.frozen? ⟨w.heap.size, 1, none⟩ = false := A9.res.free 1
                have s2 : w9.frozen? ⟨w.heap.size, 2, none⟩ = false := A9.res.free 2
                have u0 : w9.cell? ⟨w.heap.size, 0, none⟩ = some (.int .i64 0) := A9.res.cell 0
                have u1 : w9.cell? ⟨w.heap.size, 1, none⟩ = some (.slice none 0 0) := A9.res.cell 1
                have u2 : w9.cell? ⟨w.heap.size, 2, none⟩ = some (.slice none 0 0) := A9.res.cell 2
                have l1 := A9.res.lt
                have l2 := A9.blk.lt
                have ne9 := A9.ne
                have HA9 := Lib.hid A9
                obtain ⟨aod, capd, rfl, _⟩ := own_seg A9.ids
                clear hw9 A9 k0 k2 k3 k4 k5 r0 r1 r2 q0 q1 q2 hne hrl hpb5 o1 o2
                simp only [fiOf] at t0
                refine wp_label ?_
                go_wp2_with fail
                simp only [Exit.jumps]
                refine bodyPost_ret (v := .tuple #[.agg #[.int .i64 1, .slice (some ⟨g, 0, none⟩) (fs.length + 1) cap, .slice aod dn.length capd], .int .i64 0]) (by simp [results, Try.results51, go_sem, u0, u1, u2]) rfl ⟨.slice (some ⟨g, 0, none⟩) (fs.length + 1) cap, .slice aod dn.length capd, ?_, ?_⟩
                · rw [← HG3.out, Hf.out]
                  simp only [List.length_append, List.length_cons, List.length_nil, Nat.zero_add, Nat.add_eq_zero_iff, Nat.one_ne_zero, and_false, if_false]
                  rfl
                · rw [← HG3.out, Hf.out]
                  exact cut_Build_tail HA9.out _ _ _
              · simp [fiOf] at k0
                go_wp2_with fail
                have A9 := HA6.out
                simp only [fiOf, Bool.false_eq_true, if_false, if_true, Nat.zero_add] at A9
                generalize hw9 : World.setCell _ _ _ = w9 at A9 ⊢
                have t0 : w9.cell? ⟨pb, 0, none⟩ = some (.int .i64 _) := A9.blk.cell 0
                have t1 : w9.cell? ⟨pb, 1, none⟩ = some (.slice (some ⟨g, 0, none⟩) (fs.length + 1) cap) := A9.blk.cell 1
                have t2 : w9.cell? ⟨pb, 2, none⟩ = some dv := A9.blk.cell 2
                have s0 : w9.frozen? ⟨w.heap.size, 0, none⟩ = false := A9.res.free 0
                have s1 : w9.frozen? ⟨w.heap.size, 1, none⟩ = false := A9.res.free 1
                have s2 : w9.frozen? ⟨w.heap.size, 2, none⟩ = false := A9.res.free 2
                have u0 : w9.cell? ⟨w.heap.size, 0, none⟩ = some (.int .i64 0) := A9.res.cell 0
                have u1 : w9.cell? ⟨w.heap.size, 1, none⟩ = some (.slice none 0 0) := A9.res.cell 1
                have u2 : w9.cell? ⟨w.heap.size, 2, none⟩ = some (.slice none 0 0) := A9.res.cell 2
                have l1 := A9.res.lt
                have l2 := A9.blk.lt
                have ne9 := A9.ne
                have HA9 := Lib.hid A9
                obtain ⟨aod, capd, rfl, _⟩ := own_seg A9.ids
                clear hw9 A9 k0 k2 k3 k4 k5 r0 r1 r2 q0 q1 q2 hne hrl hpb5 o1 o2
                simp only [fiOf] at t0
                refine wp_label ?_
                go_wp2_with fail
                simp only [Exit.jumps]
                refine bodyPost_ret (v := .tuple #[.agg #[.int .i64 3, .slice (some ⟨g, 0, none⟩) (fs.length + 1) cap, .slice aod dn.length capd], .int .i64 0]) (by simp [results, Try.results51, go_sem, u0, u1, u2]) rfl ⟨.slice (some ⟨g, 0, none⟩) (fs.length + 1) cap, .slice aod dn.length capd, ?_, ?_⟩
                · rw [← HG3.out, Hf.out]
                  simp only [List.length_append, List.length_cons, List.length_nil, Nat.zero_add, Nat.add_eq_zero_iff, Nat.one_ne_zero, and_false, if_false]
                  rfl
                · rw [← HG3.out, Hf.out]
                  exact cut_Build_tail HA9.out _ _ _
    · obtain ⟨pb, q', fb, cb, fs, vs, dn, fv, dv, T', A, hG, u, rfl⟩ := hJ
      refine ⟨_, rfl, ?_⟩
      obtain ⟨aof, capf, rfl, _⟩ := own_seg A.rows.2.1
      obtain ⟨aod, capd, rfl, _⟩ := own_seg A.ids
      have t0 : w'.cell? ⟨pb, 0, none⟩ = some (.int .i64 (fiOf fb cb : Nat)) := A.blk.cell 0
      have t1 : w'.cell? ⟨pb, 1, none⟩ = some (.slice aof fs.length capf) := A.blk.cell 1
      have t2 : w'.cell? ⟨pb, 2, none⟩ = some (.slice aod dn.length capd) := A.blk.cell 2
      have s0 : w'.frozen? ⟨w.heap.size, 0, none⟩ = false := A.res.free 0
      have s1 : w'.frozen? ⟨w.heap.size, 1, none⟩ = false := A.res.free 1
      have s2 : w'.frozen? ⟨w.heap.size, 2, none⟩ = false := A.res.free 2
      have u0 : w'.cell? ⟨w.heap.size, 0, none⟩ = some (.int .i64 0) := A.res.cell 0
      have u1 : w'.cell? ⟨w.heap.size, 1, none⟩ = some (.slice none 0 0) := A.res.cell 1
      have u2 : w'.cell? ⟨w.heap.size, 2, none⟩ = some (.slice none 0 0) := A.res.cell 2
      have l1 := A.res.lt
      have l2 := A.blk.lt
      have ne9 := A.ne
      have hle := A.le
      have HA := Lib.hid A
      obtain ⟨N, hN⟩ : ∃ N : Int, ((fiOf fb cb : Nat) : Int) = N := ⟨_, rfl⟩
      rw [hN] at t0
      have HN := Lib.hid hN
      clear A hN
      by_cases hf0 : fs.length = 0
      · have z0 : ((fs.length : Int) == 0) = true := by rw [hf0]; rfl
        have Hf0 := Lib.hid hf0
        clear hf0
        go_wp2_with fail
        simp only [Exit.jumps]
        refine bodyPost_ret (v := .tuple #[.agg #[.int .i64 0, .slice none 0 0, .slice none 0 0], .int .i64 4]) (by simp [results, Try.results51, go_sem, u0, u1, u2]) rfl ⟨.slice aof fs.length capf, .slice aod dn.length capd, ?_, ?_⟩
        · rw [← hG.out]
          simp only [Hf0.out, if_true]
        · rw [← hG.out]
          exact cut_Build_tail HA.out _ _ _
      · have z0 : ((fs.length : Int) == 0) = false := by simp only [beq_eq_false_iff_ne]; omega
        have Hf0 := Lib.hid hf0
        clear hf0
        go_wp2_with fail
        simp only [Exit.jumps]
        refine bodyPost_ret (v := .tuple #[.agg #[.int .i64 N, .slice aof fs.length capf, .slice aod dn.length capd], .int .i64 0]) (by simp [results, Try.results51, go_sem, u0, u1, u2]) rfl ⟨.slice aof fs.length capf, .slice aod dn.length capd, ?_, ?_⟩
        · rw [← hG.out]
          simp only [Hf0.out, if_false, HN.out]
        · rw [← hG.out]
          exact cut_Build_tail HA.out _ _ _
    · exact hJ.elim
  · intro fall
    have Fall := Lib.hid fall; clear fall
    have g0 : ((if (room : Int) < 0 ∨ 4000 < (room : Int) then (1 : Int) else 0)) = 0 := by rw [if_neg (by omega)]
    have hm0 : Mod Nil w (w.alloc (.cells #[.int .i64 0, .slice none 0 0, .slice none 0 0] 113)) := (Mod.refl Nil w).alloc _
    have h0 := h.mod hm0 (fun h => h) (fun _ _ _ h => h)
    have hb0 : Blk (w.alloc (.cells #[.int .i64 0, .slice none 0 0, .slice none 0 0] 113)) w.heap.size #[.int .i64 0, .slice none 0 0, .slice none 0 0] 113 := Blk.new w _ _
    have H0 := Lib.hid h0
    have hnT := h.nT
    have hnar : Q w p (fun k => T k ∧ k < w.heap.size) q := h.widen (fun k hk ht => ⟨ht, hk⟩) (fun hk => hnT hk.1)
    have Hnar := Lib.hid (hnar.mod hm0 (fun h => h) (fun _ _ _ h => h))
    clear h0 h hnar
    go_wp2_with (go_at_call 105; refine (cut_ask p room W _ hWi).mono ?_; rintro e w1 ⟨rfl, rfl⟩; rw [g0])
    obtain ⟨E, hE⟩ : ∃ E : Int, (if q.ts.length = 0 then (4 : Int) else 1) = E := ⟨_, rfl⟩
    have g1 : (E == 6) = false := by rw [← hE]; split <;> rfl
    refine (queue_Take_zero p T q _ H0.out).mono ?_
    rw [hE]
    rintro e w1 ⟨rfl, m1⟩
    have hb1 := hb0.mod m1 (fun h => h)
    have hq1 := Hnar.out.mod m1 (fun h => h) (fun _ _ _ h => h)
    have hm1 := hm0.trans m1
    have hsz := m1.size
    rw [World.size_alloc] at hsz
    have Hq1 := Lib.hid hq1; have Hb1 := Lib.hid hb1
    have hplt : p < w1.heap.size := by omega
    clear hE hb0 hb1 hq1 m1
    go_wp2_with fail
    go_step3
    go_step
    go_step
    refine Fall.out 0 _ _ _ ?_ rfl
    have ma : Mod Nil w1 (w1.alloc (.cells #[.int .i64 0, .slice none 0 0, .slice none 0 0] 113)) := (Mod.refl Nil w1).alloc _
    refine ⟨w1.heap.size, q.ts, q.taken, 0, false, [], [], [], .slice none 0 0, .slice none 0 0, (fun k => T k ∧ k < w.heap.size), ?_, HR.out, Nat.zero_le _, frame_fn rfl⟩
    have hq2 := Hq1.out.mod ma (fun h => h) (fun _ _ _ h => h)
    exact ⟨(Mod.nil hm1).trans (Mod.nil ma), Hb1.out.mod ma (fun h => h), Blk.new w1 _ _, Nat.le_refl _, by omega, by omega, hq2, fun k hk => by rw [World.size_alloc]; omega, fun k hk => .inl hk.1,
      fun hk => by omega, fun hk => by omega, fun k hk => (by cases hk), fun k hk => (by cases hk), ⟨rfl, World.ownsRow_nil _ _ _ _, fun i v h => by simp at h⟩, World.ownsRow_nil _ _ _ _, by simp, by simp, hp, hnT⟩
end Go.Proofs.Ytgokmkceplkngaa

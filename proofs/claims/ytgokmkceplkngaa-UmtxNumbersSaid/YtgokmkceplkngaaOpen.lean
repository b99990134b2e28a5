import Derived.Test.YtgokmkceplkngaaRd
import Derived.Deep.Slices
import Derived.Deep.Fields
import Derived.ChangeSame
import Derived.OpenShut
set_option maxRecDepth 100000
set_option linter.unusedVariables false
set_option linter.unusedSimpArgs false
namespace Go.Proofs.Ytgokmkceplkngaa
open Go Go.RowKit Go.ChangeShapes Go.WideShapes Go.Deep

/-- Blocks below a number. -/
def Under (b : Nat) : Nat → Prop := fun k => k < b
section
variable {H : Type} {enc : TypeId × Value → H} {w : World} {base : Nat} {held : Bool}
theorem u8_of {n : Int} (h : (Lit.int .u8 n).wf = true) : ((UInt8.ofNat n.toNat).toNat : Int) = n := by
  have := bounds_u8 h
  rw [UInt8.toNat_ofNat_of_lt' (by show n.toNat < 256; omega)]; omega
/-- Bytes that came in. -/
theorem open_bytes {fuel : Nat} {cs : List Value} {x : DataW H × List MemPlace} (h : DataW.trod enc Try.prog w base (fun _ => true) held fuel 30 cs = some x) :
    ∃ ao cap, ∃ bs : List UInt8, cs = [.slice ao bs.length cap] ∧ Seg w (Under w.heap.size) ao bs.length cap (bs.map V8) := by
  rcases open_ints Try.underlying30 Try.underlying5 (by kernel_rfl) h with ⟨hcs, _⟩ | ⟨a, len, cap, zs, hcs, _, hl, hm, hz, _, hcell, hwz⟩
  · exact ⟨none, 0, [], hcs, Seg.none_ _ _⟩
  · have hz : zs.length = cap := by simpa using hz
    refine ⟨some a, cap, (zs.take len).map (fun n => UInt8.ofNat n.toNat), by rw [hcs]; simp; omega, ?_⟩
    have hlen : ((zs.take len).map (fun n => UInt8.ofNat n.toNat)).length = len := by simp; omega
    rw [hlen]
    refine ⟨hl, by unfold maxLen at hm; omega, fun h => by simp at h, fun hne => ?_⟩
    have hpos : 0 < zs.length := by
      rcases Nat.eq_zero_or_pos zs.length with h0 | h0
      · have : zs = [] := List.eq_nil_of_length_eq_zero h0
        subst this; simp at hne
      · exact h0
    obtain ⟨b, off, rfl, hc⟩ := ints_at hcell hpos
    refine ⟨b, off, rfl, World.block_lt_of_cell? w _ (hc 0 hpos), fun j u hj => ?_⟩
    have hjl : j < ((zs.take len).map (fun n => UInt8.ofNat n.toNat)).length := by
      have := (List.getElem?_eq_some_iff.1 hj).1
      simpa using this
    rw [hlen] at hjl
    have hjz : j < zs.length := by omega
    have h1 := hc j hjz
    simp only [List.getElem?_map, List.getElem?_take, if_pos hjl, List.getElem?_eq_getElem hjz, Option.map_some, Option.some.injEq] at hj
    rw [h1, ← hj, List.getD_eq_getElem?_getD, List.getElem?_eq_getElem hjz]
    simp only [Option.getD_some, V8]
    rw [u8_of (hwz _ (List.getElem_mem hjz))]
/-- A field of a struct's cells. -/
theorem open_field {fs : Array Field} {t : TypeId} {fuel : Nat} {cs : List Value} {x : DataW H × List MemPlace} {spare : Nat → Bool} (hs : Try.prog.underlying t = some (.struct fs)) (hone : oneCellFields Try.prog fs = true)
    (h : DataW.trod enc Try.prog w base spare held fuel t cs = some x) (hC : Try.prog.cellsOf t = fs.size) :
    cs.length = fs.size ∧ ∀ (j : Nat) (f : Field), fs[j]? = some f → ∃ n v y, cs[j]? = some v ∧ DataW.trod enc Try.prog w base spare held n f.type [v] = some y := by
  obtain ⟨xs, n, _, _, hlen, hxl, hf⟩ := DataW.trod_struct hs h
  rw [hC] at hlen
  refine ⟨hlen, fun j f hj => ?_⟩
  obtain ⟨ho, hk⟩ := hone_of hone j f hj
  have hjl : j < fs.size := (Array.getElem?_eq_some_iff.1 hj).1
  have h1 := hf j f hj
  have hjc : j < cs.length := by omega
  rw [ho, hk, List.drop_eq_getElem_cons hjc, List.take_succ_cons, List.take_zero] at h1
  have hxj : j < xs.length := by omega
  exact ⟨n, _, _, List.getElem?_eq_getElem hjc, h1.trans (List.getElem?_eq_getElem hxj)⟩
/-- A number in one cell. -/
theorem open_i64 {fuel : Nat} {v : Value} {x : DataW H × List MemPlace} {spare : Nat → Bool} (h : DataW.trod enc Try.prog w base spare held fuel 3 [v] = some x) : ∃ n : Int, v = .int .i64 n ∧ -9223372036854775808 ≤ n ∧ n ≤ 9223372036854775807 := by
  obtain ⟨n, hv, _, hw⟩ := DataW.trod_int Try.underlying3 h
  have := bounds_i64 hw
  exact ⟨n, by simpa using hv, this.1, this.2⟩
/-- A call that a law asks for: its kind, its number, its bytes. -/
structure OpD where
  kind : Int
  n : Int
  b : List UInt8
def OpD.Is (w : World) (b off : Nat) (o : OpD) : Prop := ∃ aoB capB, w.cell? ⟨b, off, none⟩ = some (.int .i64 o.kind) ∧ w.cell? ⟨b, off + 1, none⟩ = some (.int .i64 o.n) ∧
    w.cell? ⟨b, off + 2, none⟩ = some (.slice aoB o.b.length capB) ∧ Seg w (Under w.heap.size) aoB o.b.length capB (o.b.map V8) ∧ -9223372036854775808 ≤ o.n ∧ o.n ≤ 9223372036854775807
/-- A slice of calls that came in. -/
def OpsAt (w : World) (ao : Option Addr) (cap : Nat) (ops : List OpD) : Prop :=
  ops.length ≤ cap ∧ cap ≤ 9223372036854775807 ∧ ∀ (i : Nat) (o : OpD), ops[i]? = some o → ∃ b off, ao = some ⟨b, off, none⟩ ∧ b < w.heap.size ∧ o.Is w b (off + i * 3)
/-- Three fields are a number, a number and bytes. -/
def opFields (fs : Array Field) : Bool := fs.size == 3 && (fs[0]?.map Field.type == some 3) && (fs[1]?.map Field.type == some 3) && (fs[2]?.map Field.type == some 30)
theorem open_ops {t e : TypeId} {fs : Array Field} {fuel : Nat} {cs : List Value} {x : DataW H × List MemPlace} (ht : Try.prog.underlying t = some (.slice e)) (he : Try.prog.underlying e = some (.struct fs)) (hone : oneCellFields Try.prog fs = true)
    (hC : Try.prog.cellsOf e = fs.size) (hF : opFields fs = true) (h : DataW.trod enc Try.prog w base (fun _ => true) held fuel t cs = some x) : ∃ ao cap, ∃ ops : List OpD, cs = [.slice ao ops.length cap] ∧ OpsAt w ao cap ops := by
  simp only [opFields, Bool.and_eq_true, beq_iff_eq, Option.map_eq_some_iff] at hF
  obtain ⟨⟨⟨hsz, f0, hf0, ht0⟩, f1, hf1, ht1⟩, f2, hf2, ht2⟩ := hF
  rcases open_slice ht h with ⟨h0, _⟩ | ⟨a, len, cap, m, n, D, Pl, hcs, _, hl, hm, hmm, _, hi⟩
  · exact ⟨none, 0, [], h0, by simp, by omega, fun i o h => by simp at h⟩
  · have hmm : m = cap := by simpa using hmm
    subst hmm
    rw [hC, hsz] at hi
    have hspot0 : 0 < len → a.spot = none := fun hp => by
      obtain ⟨cs', hc, htr⟩ := hi 0 (by omega)
      obtain ⟨_, hcl, hat⟩ := World.cells?_some hc
      have h0 := (hat 0 (by omega)).trans (List.getElem?_eq_getElem (by omega))
      have := World.cell?_spot h0
      simpa [Addr.add] using this
    have each : ∀ i, i < len → a.spot = none ∧ a.block < w.heap.size ∧ ∃ o : OpD, o.Is w a.block (a.off + i * 3) := fun i hil => by
      obtain ⟨cs', hc, htr⟩ := hi i (by omega)
      obtain ⟨_, hcl, hat⟩ := World.cells?_some hc
      obtain ⟨_, hf⟩ := open_field he hone htr hC
      obtain ⟨n0, v0, y0, hv0, hr0⟩ := hf 0 f0 hf0
      obtain ⟨n1, v1, y1, hv1, hr1⟩ := hf 1 f1 hf1
      obtain ⟨n2, v2, y2, hv2, hr2⟩ := hf 2 f2 hf2
      rw [ht0] at hr0; rw [ht1] at hr1; rw [ht2] at hr2
      obtain ⟨k, rfl, _⟩ := open_i64 hr0
      obtain ⟨nn, rfl, hn⟩ := open_i64 hr1
      obtain ⟨aoB, capB, bs, hb, hseg⟩ := open_bytes hr2
      have hb : v2 = .slice aoB bs.length capB := by simpa using hb
      subst hb
      have c0 := (hat 0 (by omega)).trans hv0
      have c1 := (hat 1 (by omega)).trans hv1
      have c2 := (hat 2 (by omega)).trans hv2
      obtain ⟨b, off, spot⟩ := a
      have hspot : spot = none := hspot0 (by omega)
      subst hspot
      rw [add_plain, add_plain] at c0 c1 c2
      rw [Nat.add_zero] at c0
      have hlt := World.block_lt_of_cell? w _ c0
      exact ⟨rfl, hlt, ⟨k, nn, bs⟩, aoB, capB, c0, c1, c2, hseg, hn.1, hn.2⟩
    have hx : ∀ i, ∃ o : OpD, i < len → o.Is w a.block (a.off + i * 3) := fun i => by
      by_cases hil : i < len
      · obtain ⟨_, _, o, ho⟩ := each i hil
        exact ⟨o, fun _ => ho⟩
      · exact ⟨⟨0, 0, []⟩, fun h => absurd h hil⟩
    obtain ⟨f, hf⟩ := Classical.axiomOfChoice hx
    refine ⟨some a, m, (List.range len).map f, by rw [hcs]; simp, by simpa using hl, by unfold maxLen at hm; omega, fun i o ho => ?_⟩
    have hil : i < len := by
      have := (List.getElem?_eq_some_iff.1 ho).1
      simpa using this
    have ho2 : f i = o := by
      rw [List.getElem?_map, List.getElem?_range hil] at ho
      simpa using ho
    obtain ⟨e1, e2, _⟩ := each i hil
    obtain ⟨b, off, spot⟩ := a
    simp only at e1
    subst e1
    exact ⟨b, off, rfl, e2, ho2 ▸ hf i hil⟩
end
end Go.Proofs.Ytgokmkceplkngaa

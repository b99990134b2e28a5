import Derived.Test.YtgokmkceplkngaaUmtx1
import Derived.Test.YtgokmkceplkngaaOpen
set_option maxRecDepth 100000
set_option linter.unusedVariables false
set_option linter.unusedSimpArgs false
namespace Go.Proofs.Ytgokmkceplkngaa
open Go Go.RowKit Go.ChangeShapes Go.WideShapes Go.Deep
theorem ten {α : Type} (l : List α) (h : l.length = 10) : ∃ a0 a1 a2 a3 a4 a5 a6 a7 a8 a9, l = [a0, a1, a2, a3, a4, a5, a6, a7, a8, a9] := by
  match l, h with
  | [a0, a1, a2, a3, a4, a5, a6, a7, a8, a9], _ => exact ⟨a0, a1, a2, a3, a4, a5, a6, a7, a8, a9, rfl⟩
def cfgFields (fs : Array Field) : Bool := fs.size == 10 && (List.range 10).all fun i => fs[i]?.map Field.type == some 3
theorem open_cfg {H : Type} {enc : TypeId × Value → H} {w : World} {base : Nat} {held : Bool} {spare : Nat → Bool} {r : Reach} {b0 : Nat} {t : TypeId} {fs : Array Field} {v : Value} {d : DataW H} {p : List MemPlace} (hs : Try.prog.underlying t = some (.struct fs)) (hone : oneCellFields Try.prog fs = true)
    (hC : Try.prog.cellsOf t = fs.size) (hF : cfgFields fs = true) (hv : Value.okWide Try.prog w r b0 t v) (h : DataW.Trod enc Try.prog w base spare held t v d p) :
    ∃ c : Cfg, v = .agg #[.int .i64 c.mode, .int .i64 c.bits, .int .i64 c.window, .int .i64 c.reorder, .int .i64 c.c4, .int .i64 c.c5, .int .i64 c.c6, .int .i64 c.c7, .int .i64 c.c8, .int .i64 c.bytes] := by
  simp only [cfgFields, Bool.and_eq_true, beq_iff_eq, List.all_eq_true, List.mem_range, Option.map_eq_some_iff] at hF
  obtain ⟨hsz, hF⟩ := hF
  obtain ⟨cs, rfl, hlen⟩ := okWide_struct hs hv
  obtain ⟨fuel, hf⟩ := h
  obtain ⟨hl, hg⟩ := open_field hs hone hf hC
  have each : ∀ j, j < 10 → ∃ n : Int, cs.toList[j]? = some (.int .i64 n) := fun j hj => by
    obtain ⟨f, hfj, hft⟩ := hF j hj
    obtain ⟨n, v, y, hv, hr⟩ := hg j f hfj
    rw [hft] at hr
    obtain ⟨k, rfl, _⟩ := open_i64 hr
    exact ⟨k, hv⟩
  obtain ⟨l⟩ := cs
  obtain ⟨a0, a1, a2, a3, a4, a5, a6, a7, a8, a9, rfl⟩ := ten l (by rw [hsz] at hC; rw [hC] at hlen; simpa using hlen)
  obtain ⟨n0, h0⟩ := each 0 (by decide)
  obtain rfl : a0 = .int .i64 n0 := by simpa using h0
  obtain ⟨n1, h1⟩ := each 1 (by decide)
  obtain rfl : a1 = .int .i64 n1 := by simpa using h1
  obtain ⟨n2, h2⟩ := each 2 (by decide)
  obtain rfl : a2 = .int .i64 n2 := by simpa using h2
  obtain ⟨n3, h3⟩ := each 3 (by decide)
  obtain rfl : a3 = .int .i64 n3 := by simpa using h3
  obtain ⟨n4, h4⟩ := each 4 (by decide)
  obtain rfl : a4 = .int .i64 n4 := by simpa using h4
  obtain ⟨n5, h5⟩ := each 5 (by decide)
  obtain rfl : a5 = .int .i64 n5 := by simpa using h5
  obtain ⟨n6, h6⟩ := each 6 (by decide)
  obtain rfl : a6 = .int .i64 n6 := by simpa using h6
  obtain ⟨n7, h7⟩ := each 7 (by decide)
  obtain rfl : a7 = .int .i64 n7 := by simpa using h7
  obtain ⟨n8, h8⟩ := each 8 (by decide)
  obtain rfl : a8 = .int .i64 n8 := by simpa using h8
  obtain ⟨n9, h9⟩ := each 9 (by decide)
  obtain rfl : a9 = .int .i64 n9 := by simpa using h9
  exact ⟨⟨n0, n1, n2, n3, n4, n5, n6, n7, n8, n9⟩, rfl⟩
end Go.Proofs.Ytgokmkceplkngaa

import Derived.Test.YtgokmkceplkngaaUmtx6
import Derived.Test.YtgokmkceplkngaaUmdBack
import Derived.Test.YtgokmkceplkngaaOpen
set_option maxRecDepth 100000
set_option maxHeartbeats 8000000
set_option linter.unusedVariables false
set_option linter.unusedSimpArgs false
namespace Go.Proofs.Ytgokmkceplkngaa
open Go Go.RowKit

/-- What holds ahead of a round. -/
structure NumAt (w : World) (c : Cfg) (z : Int) (b : Nat) (s p : Nat) (wr : World) (i next : Nat) (q : Qst) (T : Nat → Prop) : Prop where
  mod : Mod Nil w wr
  cfg : Blk wr w.heap.size #[.int .i64 c.mode, .int .i64 z, .int .i64 c.window, .int .i64 c.reorder, .int .i64 c.c4, .int .i64 c.c5, .int .i64 c.c6, .int .i64 c.c7, .int .i64 c.c8, .int .i64 c.bytes] 23
  snd : Snd wr s p T c next q
  s0 : w.heap.size < s
  p0 : w.heap.size < p
  last : q.last ≤ i
  i80 : i ≤ 80
  nx : next < 2 ^ b
theorem NumAt.step {w : World} {c : Cfg} {z : Int} {b s p : Nat} {wr w2 : World} {i i2 next next2 : Nat} {q q2 : Qst} {T T2 : Nat → Prop} (h : NumAt w c z b s p wr i next q T) (m : Mod (Two s p) wr w2) (hs : Snd w2 s p T2 c next2 q2) (hl : q2.last ≤ i2) (hi : i2 ≤ 80) (hn : next2 < 2 ^ b) : NumAt w c z b s p w2 i2 next2 q2 T2 := by
  have h1 := h.s0
  have h2 := h.p0
  refine ⟨h.mod.trans' m (fun k hk e => ?_), h.cfg.mod m (fun e => ?_), hs, h1, h2, hl, hi, hn⟩
  · rcases e with rfl | rfl <;> omega
  · rcases e with e | e <;> omega
theorem push_last {q : Qst} (b : List UInt8) : (q.push b).2.2.last ≤ q.last + 1 := by
  unfold Qst.push
  repeat' split
  all_goals simp
theorem discard_last {q : Qst} (id : Nat) : (q.discard id).2.last = q.last := by
  unfold Qst.discard
  dsimp only
  repeat' split
  all_goals rfl
theorem cutGo_last (room W : Nat) (q : Qst) : ∀ ts tk used fb fs dn, (cutGo room W q ts tk used fb fs dn).q.last = q.last := by
  intro ts
  induction ts with
  | nil => intros; rfl
  | cons t rest ih =>
    intro tk used fb fs dn
    unfold cutGo
    repeat' split
    · rfl
    · exact ih _ _ _ _ _
    · rfl
theorem ask_ok {b : Nat} {q : Qst} {n : Int} (h : askOf b q n = 0) : 0 ≤ n ∧ n ≤ 4096 ∧ q.bytes ≠ 0 ∧ ((b / 5 : Nat) : Int) < n := by
  unfold askOf at h
  by_cases h1 : n < 0 ∨ 4096 < n
  · rw [if_pos h1] at h; cases h
  rw [if_neg h1] at h
  by_cases h2 : q.bytes = 0
  · rw [if_pos h2] at h; cases h
  rw [if_neg h2] at h
  by_cases h3 : n ≤ ((b / 5 : Nat) : Int)
  · rw [if_pos h3] at h; cases h
  omega
theorem flatten_length (fs : List (List UInt8)) : fs.flatten.length = fieldsSum fs := by
  unfold fieldsSum; exact List.length_flatten
/-- What is built is read as it was. -/
theorem built_reads (b h : Nat) (hb : b = 5 ∧ h = 1 ∨ b = 10 ∧ h = 2) (fi next room : Nat) (fs : List (List UInt8)) (hd ls : List UInt8) (hf : CutFits room 11 fs) (hne : fs ≠ []) (hr : h + room ≤ 4000) (hfi : fi ≤ 3) (hn : next < 2 ^ b)
    (hh : bitsOf hd = uHead b h fi next fs.length) (hp : Packs ls (lenBits 11 (fs.dropLast.map List.length))) : uRead b h (hd ++ ls ++ fs.flatten) = (0, fi, next, fs) := by
  have hl := List.length_pos_iff.2 hne
  refine uRead_write b h hb fi next fs hd ls hfi hn (by omega) hf.le (fun f hx => ?_) (fun f hx => ?_) hh hp ?_
  · have := hf.each f hx
    rintro rfl
    simp at this
  · have := hf.each f (List.dropLast_subset _ hx); omega
  · have hs := hf.sum hne
    have h1 : hd.length = h := by
      have := congrArg List.length hh
      rw [bitsOf_length] at this
      simp [uHead] at this
      omega
    have h2 := hp.length
    rw [lenBits_length] at h2
    simp only [List.length_map, List.length_dropLast] at h2
    have h3 : ls.length ≤ lsz (fs.length - 1) 11 := by
      rcases lsz_mono1 (fs.length - 1) 11 (by have := hf.le; omega) with h4 | ⟨h4, h5⟩
      · omega
      · rw [h4] at h2; omega
    rw [List.length_append, List.length_append, flatten_length]
    omega
end Go.Proofs.Ytgokmkceplkngaa

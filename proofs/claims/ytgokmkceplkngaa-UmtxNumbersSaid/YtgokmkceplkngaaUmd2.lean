import Derived.Test.YtgokmkceplkngaaUmd1
import Derived.Test.YtgokmkceplkngaaShJoin
set_option maxRecDepth 100000
set_option maxHeartbeats 1000000
set_option linter.unusedVariables false
set_option linter.unusedSimpArgs false
namespace Go.Proofs.Ytgokmkceplkngaa
open Go Go.RowKit

theorem bv_of_fresh {B : Nat} {w : World} {v : Value} {l : List UInt8} (h : Lib.FreshBytes B w v l) : BV w (From B) v l := by
  obtain ⟨g, cap, zs, rfl, hB, hlc, hcm, hz, hr, hb, hc, hf⟩ := h
  refine ⟨_, cap, rfl, hlc, by unfold maxLen at hcm; omega, by simp, fun _ => ⟨g, 0, rfl, hB, fun j u hu => ?_⟩⟩
  rw [List.getElem?_map] at hu
  obtain ⟨c, hc1, rfl⟩ := Option.map_eq_some_iff.1 hu
  have hjl : j < l.length := by
    rcases Nat.lt_or_ge j l.length with h | h
    · exact h
    · rw [List.getElem?_eq_none h] at hc1; cases hc1
  rw [Nat.zero_add, hc j (by omega)]
  rw [← hb] at hc1
  unfold Lib.bytesOf at hc1
  rw [List.getElem?_map, List.getElem?_take_of_lt hjl] at hc1
  have hzj : j < zs.length := by omega
  rw [List.getElem?_eq_getElem hzj] at hc1
  simp only [Option.map_some, Option.some.injEq] at hc1
  have hrr := hr _ (List.getElem_mem hzj)
  subst hc1
  simp only [V8, List.getD_eq_getElem?_getD, List.getElem?_eq_getElem hzj, Option.getD_some]
  congr 2
  simp only [UInt8.toNat_ofNat']
  omega
theorem join_flat (ls : List (List UInt8)) : Lib.join ls [] = ls.flatten := by
  induction ls with
  | nil => rfl
  | cons x r ih => rw [Lib.join_cons]; simp [Lib.joinTail]
theorem holds_nil (w : World) : Lib.HoldsBytes w (.slice none 0 0) [] := ⟨none, 0, rfl, fun _ => rfl, fun a h => by cases h⟩

theorem join_any (T : Nat → Prop) (ao : Option Addr) (cap : Nat) (fs : List (List UInt8)) (w : World) (h : Rows w T ao cap fs) (hs : fieldsSum fs ≤ 140737488355328) (hn : fs.length ≤ 1000) :
    Calls Try.prog 113 #[.slice ao fs.length cap, .slice none 0 0] w fun e w' => ∃ v, e = .returned v ∧ Mod Nil w w' ∧ BV w' (From w.heap.size) v fs.flatten := by
  have hlen := h.len
  by_cases h0 : fs.length = 0
  · obtain rfl : fs = [] := List.eq_nil_of_length_eq_zero h0
    refine (Try.bytes_Join_none ao cap _ w).mono ?_
    rintro e w' ⟨rfl, rfl⟩
    exact ⟨_, rfl, (Mod.refl _ _).alloc _, _, 0, rfl, Nat.le_refl _, by omega, by simp, fun h => absurd rfl h⟩
  · obtain ⟨b, off, rfl, hTb, hblt, hcells⟩ := h.get (i := 0) (by omega)
    by_cases h1 : fs.length = 1
    · obtain ⟨f, rfl⟩ := List.length_eq_one_iff.1 h1
      obtain ⟨aj, cj, hc, hseg⟩ := hcells 0 (by simp)
      simp only [List.getD_cons_zero, Nat.add_zero] at hc hseg
      by_cases hf : f.length = 0
      · obtain rfl : f = [] := List.eq_nil_of_length_eq_zero hf
        refine (Try.bytes_Join_one_empty b off cap aj cj _ w hc).mono ?_
        rintro e w' ⟨rfl, rfl⟩
        exact ⟨_, rfl, Mod.refl _ _, Sl.nil _ _⟩
      · obtain ⟨b2, off2, rfl, _, _, hcell2⟩ := hseg.get (j := 0) (by simp; omega)
        refine (Try.bytes_Join_one b off cap ⟨b2, off2, none⟩ cj f _ w hc (fun i x hx => by rw [Addr.add_lit]; exact hcell2 i _ (by rw [List.getElem?_map, hx]; rfl)) (by omega) (by simpa [fieldsSum] using hs)).mono ?_
        rintro e w' ⟨v, rfl, hfr, hbl⟩
        exact ⟨v, rfl, Mod.of_below hbl (fun k hk hk2 => by omega), by simpa using bv_of_fresh hfr⟩
    · obtain ⟨vs, hv1, hv2, hv3⟩ := h.ex
      have hP : Lib.PartsAt w ⟨b, off, none⟩ vs fs := by
        refine ⟨hv1, fun i v hv => ?_, fun i v l hv hl => ?_⟩
        · obtain ⟨b2, off2, e2, _, hc2⟩ := hv2.at_ (by rintro rfl; simp at hv)
          cases e2
          rw [Addr.add_lit]; exact hc2 i v hv
        · obtain ⟨aj, cj, rfl, hseg⟩ := hv3 i v hv
          have hl' : fs.getD i [] = l := by rw [List.getD_eq_getElem?_getD, hl]; rfl
          rw [hl'] at hseg ⊢
          refine ⟨aj, cj, rfl, fun hn => ?_, fun a ha j x hx => ?_⟩
          · have h2 := hseg.nil hn; have h3 := hseg.le
            exact List.eq_nil_of_length_eq_zero (by omega)
          · obtain ⟨b2, off2, e2, _, hc2⟩ := hseg.at_ (by intro h; rw [List.map_eq_nil_iff] at h; subst h; simp at hx)
            rw [ha] at e2
            cases e2
            rw [Addr.add_lit]; exact hc2 j _ (by rw [List.getElem?_map, hx]; rfl)
      refine (Try.bytes_Join_many b off fs.length cap vs fs _ [] w rfl (by omega) hP hlen.1 (holds_nil w) (by omega) (by simp only [List.length_nil, Nat.zero_mul, Nat.add_zero]; exact hs)).mono ?_
      rintro e w' ⟨v, rfl, hfr, hbl⟩
      rw [join_flat] at hfr
      exact ⟨v, rfl, Mod.of_below hbl (fun k hk hk2 => by omega), bv_of_fresh hfr⟩
end Go.Proofs.Ytgokmkceplkngaa

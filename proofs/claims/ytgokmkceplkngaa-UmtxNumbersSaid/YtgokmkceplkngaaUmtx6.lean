import Derived.Test.YtgokmkceplkngaaUmtx5
import Derived.Lib.SlBytesConst
import Derived.Laws.IdiomStrings
set_option maxRecDepth 100000
set_option maxHeartbeats 4000000
set_option linter.unusedVariables false
set_option linter.unusedSimpArgs false
namespace Go.Proofs.Ytgokmkceplkngaa
open Go Go.RowKit

theorem pdu_Usual_um (w : World) : Calls Try.prog 46 #[.int .i64 1] w fun e w' =>
    e = .returned (.agg #[.int .i64 1, .int .i64 5, .int .i64 16, .int .i64 4, .int .i64 0, .int .i64 0, .int .i64 0, .int .i64 0, .int .i64 0, .int .i64 5000]) ∧ Mod Nil w w' := by
  go_enter Try.func46, Try.ntmps46
  go_wp2_with fail
  refine bodyPost_ret (v := .agg #[.int .i64 1, .int .i64 5, .int .i64 16, .int .i64 4, .int .i64 0, .int .i64 0, .int .i64 0, .int .i64 0, .int .i64 0, .int .i64 5000]) (by simp [results, Try.results46, go_sem]) rfl ⟨rfl, ?_⟩
  exact (Mod.refl Nil w).alloc _
/-- A constant's bytes, laid anew. -/
theorem seg_const (w : World) (cs : Array Value) (t : TypeId) (fr : Nat × Nat) (n : Nat) (hn : n ≤ 9223372036854775807) : Seg (w.alloc (.cells cs t fr)) (From w.heap.size) (some ⟨w.heap.size, 0, none⟩) n n cs.toList :=
  ⟨Nat.le_refl _, hn, fun h => by simp at h, fun _ => ⟨w.heap.size, 0, rfl, Nat.le_refl _, fun j u hj => by
    have : (w.alloc (.cells cs t fr)).heap[w.heap.size]? = some (.cells cs t fr) := heap_alloc_new w _
    unfold World.cell?
    simp only [this]
    simpa using hj⟩⟩
def cfgUM : Cfg := ⟨1, 5, 16, 4, 0, 0, 0, 0, 0, 5000⟩
theorem cfgUM_check : cfgUM.check = 0 := by decide
theorem bitsOf_eq {hd : List UInt8} {l : List Bool} {bs : List UInt8} (h : bitsOf hd = l) (h2 : bitsOf bs = l) : hd = bs := bitsOf_inj (h.trans h2.symm)
theorem Packs.nil_inv {ls : List UInt8} (h : Packs ls []) : ls = [] := h.inj Packs.nil
/-- A row of bytes as a string. -/
theorem own_string {w : World} {base n : Nat} {v : Value} {bs : List UInt8} (h : w.ownsRow base 5 1 v n (bs.map V8)) (hn : bs ≠ []) : ∃ ao cap, v = .slice (some ao) bs.length cap ∧ (convert 30 9 v).run Try.prog w = .ok (.string ⟨bs.toArray⟩) w := by
  have hl : n = bs.length := by have := h.1; simpa using this.symm
  subst hl
  obtain ⟨ao, cap, rfl, hs⟩ := own_seg h
  obtain ⟨b, off, rfl, _, hc⟩ := hs.at_ (by simpa using hn)
  refine ⟨_, cap, rfl, ?_⟩
  exact run_convert_bytes_back w _ _ 5 _ cap bs Try.underlying30 Try.underlying5 Try.underlying9 (fun j hj => by
    rw [Addr.add_lit]
    exact hc j _ (by simp [List.getElem?_eq_getElem hj]))
theorem Mod.allocs {F : Nat → Prop} {w : World} (o : Obj) : Mod F w (w.alloc o) := (Mod.refl F w).alloc o

def qA0 : Qst := ⟨cfgUM.bytes.toNat, 0, 0, []⟩
def qA1 : Qst := ⟨5000, 0, 1, [(1, [97, 98])]⟩
def qA2 : Qst := ⟨5000, 1, 1, [(1, [97, 98])]⟩
def qA3 : Qst := ⟨5000, 0, 1, []⟩
theorem qA_push : qA0.push [97, 98] = (1, 0, qA1) := rfl
theorem qA_cut1 : qA1.cut 1 11 = ⟨qA2, 1, [[97]], []⟩ := rfl
theorem qA_cut2 : qA2.cut 1 11 = ⟨qA3, 2, [[98]], [1]⟩ := rfl
theorem askA1 : askOf 5 qA1 2 = 0 := rfl
theorem askA2 : askOf 5 qA2 2 = 0 := rfl
theorem askA3 : askOf 5 qA3 2 = 4 := rfl
theorem headA1 {hd : List UInt8} (h : bitsOf hd = uHead 5 1 1 0 1) : hd = [64] := bitsOf_eq h (by decide)
theorem headA2 {hd : List UInt8} (h : bitsOf hd = uHead 5 1 2 1 1) : hd = [129] := bitsOf_eq h (by decide)

theorem aliveA1 (s p : Nat) (T : Nat → Prop) (w : World) (hS : Snd w s p T cfgUM 0 qA1) : Calls Try.prog 12 #[.pointer (some ⟨s, 0, none⟩), .int .i64 2] w fun e w' =>
    ∃ v dv, e = .returned (.tuple #[v, dv, .int .i64 0]) ∧ Mod (Two s p) w w' ∧ w'.ownsRow w.heap.size 5 1 v 2 ([64, 97].map V8) ∧ w'.ownsRow w.heap.size 33 1 dv 0 [] ∧ Snd w' s p (New T w) cfgUM 1 qA2 :=
  (umtx_Build s p T cfgUM 0 qA1 2 5 1 (.inl ⟨rfl, rfl⟩) rfl (by decide) w hS).mono fun e w' h => by
    rcases h with ⟨h, _⟩ | ⟨_, v, dv, hd, ls, h1, h2, h3, h4, h5, h6, h7⟩
    · exact absurd askA1 h
    · rw [show min (2 : Int).toNat 4000 - 1 = 1 from rfl, qA_cut1] at h3 h4 h5 h6 h7
      have e1 := headA1 h4
      have e2 := Packs.nil_inv h5
      subst e1; subst e2
      exact ⟨v, dv, h1, h2, h3, h6, h7⟩
theorem aliveA2 (s p : Nat) (T : Nat → Prop) (w : World) (hS : Snd w s p T cfgUM 1 qA2) : Calls Try.prog 12 #[.pointer (some ⟨s, 0, none⟩), .int .i64 2] w fun e w' =>
    ∃ v dv, e = .returned (.tuple #[v, dv, .int .i64 0]) ∧ Mod (Two s p) w w' ∧ w'.ownsRow w.heap.size 5 1 v 2 ([129, 98].map V8) ∧ w'.ownsRow w.heap.size 33 1 dv 1 [VU 1] ∧ Snd w' s p (New T w) cfgUM 2 qA3 :=
  (umtx_Build s p T cfgUM 1 qA2 2 5 1 (.inl ⟨rfl, rfl⟩) rfl (by decide) w hS).mono fun e w' h => by
    rcases h with ⟨h, _⟩ | ⟨_, v, dv, hd, ls, h1, h2, h3, h4, h5, h6, h7⟩
    · exact absurd askA2 h
    · rw [show min (2 : Int).toNat 4000 - 1 = 1 from rfl, qA_cut2] at h3 h4 h5 h6 h7
      have e1 := headA2 h4
      have e2 := Packs.nil_inv h5
      subst e1; subst e2
      exact ⟨v, dv, h1, h2, h3, h6, h7⟩
theorem aliveA3 (s p : Nat) (T : Nat → Prop) (w : World) (hS : Snd w s p T cfgUM 2 qA3) : Calls Try.prog 12 #[.pointer (some ⟨s, 0, none⟩), .int .i64 2] w fun e w' =>
    e = .returned (.tuple #[.slice none 0 0, .slice none 0 0, .int .i64 4]) ∧ w = w' :=
  (umtx_Build s p T cfgUM 2 qA3 2 5 1 (.inl ⟨rfl, rfl⟩) rfl (by decide) w hS).mono fun e w' h => by
    rcases h with ⟨_, h1, h2⟩ | ⟨h, _⟩
    · exact ⟨h1, h2⟩
    · rw [askA3] at h; cases h

theorem umtx_alive (w : World) : Calls Try.prog 9 #[] w fun e w' => e = .returned (.bool true) ∧ Mod Nil w w' := by
  have kc := fun (w : World) (C : Array Value) (n c : Nat) => Lib.run_convert_bytes_const (P := Try.prog) w 30 5 C n c Try.underlying30 Try.underlying5
  go_enter Try.func9, Try.ntmps9
  go_wp2_with (go_at_call 46; refine (pdu_Usual_um _).mono ?_; rintro e w1 ⟨rfl, m1⟩; have M1 := Lib.hid m1; clear m1)
  refine (umtx_New_ok cfgUM w1 cfgUM_check rfl).mono ?_
  rintro e w2 ⟨s, p, rfl, m2, hs, hp, hS⟩
  have hz1 := M1.out.size
  have M2 := Lib.hid (M1.out.trans m2); have H0 := Lib.hid hS
  have hws : w.heap.size ≤ s := by omega
  have hwp : w.heap.size ≤ p := by omega
  clear m2 hS hs hp hz1
  go_wp2_with fail
  have hseg : Seg (w2.alloc (.cells #[.int .u8 97, .int .u8 98] 5 (2, 3))) (From w2.heap.size) (some ⟨w2.heap.size, 0, none⟩) [(97 : UInt8), 98].length 2 ([(97 : UInt8), 98].map V8) := seg_const w2 #[.int .u8 97, .int .u8 98] 5 (2, 3) 2 (by decide)
  have m3 : Mod Nil w2 (w2.alloc (.cells #[.int .u8 97, .int .u8 98] 5 (2, 3))) := Mod.allocs _
  have hpl := H0.out.que.lt
  have hP := umtx_Push s p Nil (From w2.heap.size) cfgUM 0 qA0 _ 2 [97, 98] _ (H0.out.mod m3) hseg (fun k hk e => by subst e; simp only [From] at hk; omega) (by decide) (by decide)
  rw [qA_push] at hP
  refine hP.mono ?_
  rintro e w4 ⟨rfl, m4, hS4⟩
  have M4 : Hid (Mod Nil w w4) := Lib.hid ((M2.out.trans m3).trans' m4 (fun i hi e => by cases e; omega))
  have H4 := Lib.hid hS4
  clear m3 m4 hS4 hP hseg
  go_wp2_with fail
  refine (aliveA1 s p _ w4 H4.out).mono ?_
  rintro e w5 ⟨v5, dv5, rfl, m5, hv5, hd5, hS5⟩
  have M5 : Hid (Mod Nil w w5) := Lib.hid (M4.out.trans' m5 (fun i hi e => by rcases e with rfl | rfl <;> omega))
  have H5 := Lib.hid hS5
  have hs5 := hS5.blk.lt
  have hz5 := m5.size
  clear m5 hS5
  go_wp2_with fail
  refine (aliveA2 s p _ w5 H5.out).mono ?_
  rintro e w6 ⟨v6, dv6, rfl, m6, hv6, hd6, hS6⟩
  have M6 : Hid (Mod Nil w w6) := Lib.hid (M5.out.trans' m6 (fun i hi e => by rcases e with rfl | rfl <;> omega))
  have H6 := Lib.hid hS6
  have hv56 := own_mod hv5 m6 (fun g _ hg e => by
    have h1 := H4.out.blk.lt
    have h2 := H4.out.que.lt
    rcases e with rfl | rfl <;> omega)
  obtain ⟨ao5, cap5, rfl, st5⟩ := own_string hv56 (by simp)
  obtain ⟨ao6, cap6, rfl, st6⟩ := own_string hv6 (by simp)
  obtain ⟨aod5, capd5, rfl, _⟩ := own_seg hd5
  obtain ⟨aod6, capd6, rfl, _⟩ := own_seg hd6
  clear hv5 hd5 hv6 hd6 hv56 m6 hS6
  change (convert 30 9 (.slice (some ao5) 2 cap5)).run Try.prog w6 = .ok (.string ⟨#[64, 97]⟩) w6 at st5
  change (convert 30 9 (.slice (some ao6) 2 cap6)).run Try.prog w6 = .ok (.string ⟨#[129, 98]⟩) w6 at st6
  go_wp2_with fail
  refine (aliveA3 s p _ w6 H6.out).mono ?_
  rintro e w7 ⟨rfl, rfl⟩
  go_wp2_with (go_at_call 15; refine (umtx_Next s p _ cfgUM 2 qA3 w6 H6.out).mono ?_; rintro e w8 ⟨rfl, rfl⟩)
  go_ret
  exact ⟨rfl, M6.out⟩
end Go.Proofs.Ytgokmkceplkngaa

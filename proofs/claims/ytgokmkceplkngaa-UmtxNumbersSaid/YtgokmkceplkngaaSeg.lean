import Derived.Test.YtgokmkceplkngaaBase
import Derived.Deep.AppendSrc
set_option maxRecDepth 100000
set_option linter.unusedVariables false
namespace Go.Proofs.Ytgokmkceplkngaa
open Go Go.RowKit

/-- A slice's address, length and capacity: its elements' cells are cs; they lie in a block of T. -/
structure Seg (w : World) (T : Nat → Prop) (ao : Option Addr) (n cap : Nat) (cs : List Value) : Prop where
  le : n ≤ cap
  max : cap ≤ 9223372036854775807
  nil : ao = none → cap = 0
  at_ : cs ≠ [] → ∃ b off, ao = some ⟨b, off, none⟩ ∧ T b ∧ ∀ j u, cs[j]? = some u → w.cell? ⟨b, off + j, none⟩ = some u
/-- A value that is such a slice. -/
def Sl (w : World) (T : Nat → Prop) (v : Value) (n : Nat) (cs : List Value) : Prop := ∃ ao cap, v = .slice ao n cap ∧ Seg w T ao n cap cs

section
variable {w w' : World} {T T' F : Nat → Prop} {ao : Option Addr} {n cap : Nat} {cs : List Value} {v : Value}
theorem Seg.none_ (w : World) (T : Nat → Prop) : Seg w T none 0 0 [] := ⟨Nat.le_refl _, by omega, fun _ => rfl, fun h => absurd rfl h⟩
theorem Seg.mono (h : Seg w T ao n cap cs) (hT : ∀ k, k < w.heap.size → T k → T' k) : Seg w T' ao n cap cs :=
  ⟨h.le, h.max, h.nil, fun hc => by
    obtain ⟨b, off, e, hb, hcell⟩ := h.at_ hc
    refine ⟨b, off, e, hT b ?_ hb, hcell⟩
    obtain ⟨u, rest, rfl⟩ : ∃ u rest, cs = u :: rest := by
      cases cs with
      | nil => exact absurd rfl hc
      | cons u rest => exact ⟨u, rest, rfl⟩
    exact World.block_lt_of_cell? w _ (hcell 0 u rfl)⟩
theorem Seg.mod (h : Seg w T ao n cap cs) (m : Mod F w w') (hF : ∀ k, k < w.heap.size → T k → ¬ F k) : Seg w' T ao n cap cs :=
  ⟨h.le, h.max, h.nil, fun hc => by
    obtain ⟨b, off, e, hb, hcell⟩ := h.at_ hc
    refine ⟨b, off, e, hb, fun j u hu => ?_⟩
    have h1 := hcell j u hu
    have hlt := World.block_lt_of_cell? w _ h1
    rw [m.cell hlt (hF b hlt hb)]; exact h1⟩
theorem Seg.alloc (h : Seg w T ao n cap cs) (o : Obj) : Seg (w.alloc o) T ao n cap cs := h.mod (F := Nil) ((Mod.refl _ w).alloc o) (fun _ _ _ hk => hk)
theorem Seg.drew (h : Seg w T ao n cap cs) : Seg w.drew T ao n cap cs := h.mod (F := Nil) ((Mod.refl _ w).drew) (fun _ _ _ hk => hk)
theorem Sl.mono (h : Sl w T v n cs) (hT : ∀ k, k < w.heap.size → T k → T' k) : Sl w T' v n cs := by
  obtain ⟨ao, cap, e, hs⟩ := h; exact ⟨ao, cap, e, hs.mono hT⟩
theorem Sl.mod (h : Sl w T v n cs) (m : Mod F w w') (hF : ∀ k, k < w.heap.size → T k → ¬ F k) : Sl w' T v n cs := by
  obtain ⟨ao, cap, e, hs⟩ := h; exact ⟨ao, cap, e, hs.mod m hF⟩
theorem Sl.nil (w : World) (T : Nat → Prop) : Sl w T (.slice none 0 0) 0 [] := ⟨none, 0, rfl, Seg.none_ w T⟩
/-- The cells of an element. -/
theorem Seg.get (h : Seg w T ao n cap cs) {j : Nat} (hj : j < cs.length) : ∃ b off, ao = some ⟨b, off, none⟩ ∧ T b ∧ b < w.heap.size ∧ ∀ j u, cs[j]? = some u → w.cell? ⟨b, off + j, none⟩ = some u := by
  obtain ⟨b, off, e, hb, hcell⟩ := h.at_ (by intro hc; subst hc; simp at hj)
  exact ⟨b, off, e, hb, World.block_lt_of_cell? w _ (hcell j cs[j] (List.getElem?_eq_getElem hj)), hcell⟩
/-- A piece of a slice. -/
theorem Seg.cut (h : Seg w T ao n cap cs) (size l hi m : Nat) (hcs : cs.length = n * size) (h1 : l ≤ hi) (h2 : hi ≤ m) (h3 : m ≤ cap) (h4 : hi ≤ n) :
    Seg w T (if m = l then ao else ao.map (·.add (l * size))) (hi - l) (m - l) ((cs.drop (l * size)).take ((hi - l) * size)) := by
  refine ⟨by omega, by have := h.max; omega, fun hn => ?_, fun hc => ?_⟩
  · split at hn
    · omega
    · have := h.nil (by simpa using hn); omega
  · have hc' : cs ≠ [] := by rintro rfl; simp at hc
    obtain ⟨b, off, e, hb, hcell⟩ := h.at_ hc'
    have hml : ¬ m = l := by
      rintro rfl
      apply hc
      rw [show hi - m = 0 by omega]; simp
    refine ⟨b, off + l * size, by rw [if_neg hml, e]; simp [Addr.add_lit], hb, fun j u hu => ?_⟩
    rw [List.getElem?_take] at hu
    split at hu
    · rw [List.getElem?_drop] at hu
      rw [Nat.add_assoc]; exact hcell _ u hu
    · simp at hu
/-- The same, its address under a name: the walk then parts no ways at it. -/
theorem Seg.from1 (h : Seg w T ao n cap cs) (l : Nat) (hcs : cs.length = n) (h1 : l ≤ n) :
    ∃ ao2, (if cap = l then ao else Option.map (fun x => x.add l) ao) = ao2 ∧ Seg w T ao2 (n - l) (cap - l) (cs.drop l) := by
  have h2 := h.cut 1 l n cap (by simpa using hcs) h1 h.le (Nat.le_refl _) (Nat.le_refl _)
  rw [Nat.mul_one, Nat.mul_one, List.take_of_length_le (by simp [hcs])] at h2
  exact ⟨_, rfl, h2⟩
theorem Seg.take (h : Seg w T ao n cap cs) (size k : Nat) (hcs : cs.length = n * size) (hk : k ≤ n) : Seg w T ao k k (cs.take (k * size)) := by
  have h2 := h.cut size 0 k k hcs (by omega) (by omega) (by have := h.le; omega) hk
  have e : (if k = 0 then ao else ao.map (·.add (0 * size))) = ao := by
    split
    · rfl
    · cases ao with
      | none => rfl
      | some a =>
        obtain ⟨b, off, sp⟩ := a
        cases sp <;> simp [Addr.add]
  rw [e] at h2
  simpa using h2
theorem Seg.pre (h : Seg w T ao n cap cs) (k : Nat) (hcs : cs.length = n) (hk : k ≤ n) : Seg w T ao k cap (cs.take k) :=
  ⟨by have := h.le; omega, h.max, h.nil, fun hc => by
    obtain ⟨b, off, e, hb, hcell⟩ := h.at_ (by rintro rfl; simp at hc)
    refine ⟨b, off, e, hb, fun j u hu => hcell j u ?_⟩
    rw [List.getElem?_take] at hu
    split at hu
    · exact hu
    · simp at hu⟩
theorem own_mod {base : Nat} {e : TypeId} {size : Nat} (h : w.ownsRow base e size v n cs) (m : Mod F w w') (hF : ∀ g, v.ownBlock = some g → base ≤ g → ¬ F g) : w'.ownsRow base e size v n cs := by
  refine ⟨h.1, ?_⟩
  rcases h.2 with h2 | ⟨g, cap, cur, hv, hg, hh, r⟩
  · exact .inl h2
  · exact .inr ⟨g, cap, cur, hv, hg, (m.block g (lt_of_block hh) (hF g (by rw [hv]; rfl) hg)).trans hh, r⟩
def sliceLen : Value → Nat | .slice _ n _ => n | _ => 0
theorem own_len {base : Nat} {e : TypeId} {size : Nat} (h : w.ownsRow base e size v n cs) : sliceLen v = n := by
  rcases h.2 with ⟨rfl, rfl⟩ | ⟨g, cap, cur, rfl, _⟩ <;> rfl
/-- The block of a row. -/
def BlockOf (v : Value) : Nat → Prop := fun k => v.ownBlock = some k
theorem Mod.of_grown {row : Value} {w1 w2 : World} (h : w1.grownBy w2 row.ownBlock) : Mod (BlockOf row) w1 w2 :=
  (Mod.refl _ w1).grown h (fun k hk _ => hk)
theorem own_mono {base base' : Nat} {e : TypeId} {size : Nat} (h : w.ownsRow base e size v n cs) (hb : base' ≤ base) : w.ownsRow base' e size v n cs := by
  refine ⟨h.1, ?_⟩
  rcases h.2 with h2 | ⟨g, cap, cur, hv, hg, r⟩
  · exact .inl h2
  · exact .inr ⟨g, cap, cur, hv, by omega, r⟩
theorem own_seg {base e size : Nat} (h : w.ownsRow base e size v n cs) : Sl w (From base) v n cs := by
  obtain ⟨h1, h2⟩ := h
  rcases h2 with ⟨rfl, rfl⟩ | ⟨g, cap, cur, rfl, hg, hh, r1, r2, r3, r4⟩
  · exact ⟨none, 0, rfl, ⟨Nat.le_refl _, by omega, fun _ => rfl, fun hc => by
      have : cs = [] := List.eq_nil_of_length_eq_zero (by simpa using h1)
      exact absurd this hc⟩⟩
  · refine ⟨_, cap, rfl, ⟨r1, by unfold maxLen at r2; omega, by simp, fun hc => ⟨g, 0, rfl, hg, fun j u hu => ?_⟩⟩⟩
    rw [Nat.zero_add, cell_of_row w g j cur e (0, 0) hh]
    rw [← r4, List.getElem?_take] at hu
    split at hu
    · simpa using hu
    · simp at hu
end

section
variable {P : Program} (w : World) {ops : Array Oper} {rest : List Oper} {o : Oper} {a : Act} {Q : Exit → Act → World → Prop}
/-- append onto a row of the call's own, whatever slice is appended. -/
theorem wpList_app (hg : o.guard = none) (s x : Operand) (t : TypeId) (hop : o.op = Op.call { callee := Callee.builtin Builtin.append, args := #[s, x], argTypes := #[t, t] })
    (base : Nat) (e : TypeId) (i : TypeInfo) (z : Value) (size bytes : Nat) (h1 : P.underlying t = some (.slice e)) (h2 : P.info? e = some i) (h3 : i.zero = some z) (h4 : i.size = size) (h5 : i.bytes = bytes) (h6 : z.cells.size = size) (h7 : 0 < size)
    (v : Value) (n : Nat) (xs : List Value) (hs : a.eval s = v) (hown : w.ownsRow base e size v n xs)
    (T : Nat → Prop) (ao : Option Addr) (m c : Nat) (news : List Value) (hx : a.eval x = .slice ao m c) (hsrc : Seg w T ao m c news) (hn : news.length = m * size) (h1c : ∀ u ∈ news, u.oneCell' = true)
    (b1 : n + m ≤ maxLen) (b2 : (n + m) * bytes ≤ 140737488355328) (b3 : base ≤ w.heap.size)
    (hK : ∀ v' w', w'.ownsRow base e size v' (n + m) (xs ++ news) → w.grownBy w' v.ownBlock → wpList P ops Q rest (a.put o.dst v') w') :
    wpList P ops Q (o :: rest) a w := by
  cases ao with
  | some ad =>
    refine wpList_append_own w hg s x t hop base e i z size bytes h1 h2 h3 h4 h5 h6 h7 v n xs hs hown ad m c news hx hn (fun j u hj => ?_) h1c b1 b2 b3 (fun v' w' r1 r2 _ => hK v' w' r1 r2)
    obtain ⟨b, off, e', hb, hcell⟩ := hsrc.at_ (by rintro rfl; simp at hj)
    injection e' with e'
    subst e'
    rw [Addr.add_lit]; exact hcell j u hj
  | none =>
    have hc0 := hsrc.nil rfl
    have hm0 : m = 0 := by have := hsrc.le; omega
    subst hm0
    have hnews : news = [] := List.eq_nil_of_length_eq_zero (by simpa using hn)
    subst hnews; subst hc0
    refine wpList_plain hg fun K hK' => ?_
    have hrun := run_append_owned_none (P := P) w base t o.type e i size h1 h2 v n xs hown
    unfold Oper.wp
    simp [execOp, hop, resolve, invoke, builtin, hs, hx, hrun, Result.andThen] at hrun ⊢
    exact hK' _ _ (by
      have := hK v w (by simpa using hown) (World.grownBy.refl _ _)
      exact this)
/-- append onto a slice without room behind it: a new row. -/
theorem wpList_app_full (hg : o.guard = none) (s x : Operand) (t : TypeId) (hop : o.op = Op.call { callee := Callee.builtin Builtin.append, args := #[s, x], argTypes := #[t, t] })
    (e : TypeId) (i : TypeInfo) (z : Value) (size bytes : Nat) (h1 : P.underlying t = some (.slice e)) (h2 : P.info? e = some i) (h3 : i.zero = some z) (h4 : i.size = size) (h5 : i.bytes = bytes) (h6 : z.cells.size = size) (h7 : 0 < size)
    (T0 : Nat → Prop) (ao0 : Option Addr) (n : Nat) (xs : List Value) (hs : a.eval s = .slice ao0 n n) (hdst : Seg w T0 ao0 n n xs) (hxs : xs.length = n * size)
    (T : Nat → Prop) (ao : Option Addr) (m c : Nat) (news : List Value) (hx : a.eval x = .slice ao m c) (hsrc : Seg w T ao m c news) (hn : news.length = m * size) (h1c : ∀ u ∈ news, u.oneCell' = true) (hm : 0 < m)
    (b1 : n + m ≤ maxLen) (b2 : (n + m) * bytes ≤ 140737488355328)
    (hK : ∀ v' w', w'.ownsRow w.heap.size e size v' (n + m) (xs ++ news) → w.grownBy w' none → wpList P ops Q rest (a.put o.dst v') w') :
    wpList P ops Q (o :: rest) a w := by
  have hne : news ≠ [] := by
    rintro rfl
    have : m * size = 0 := by simpa using hn.symm
    have := Nat.mul_pos hm h7
    omega
  obtain ⟨b, off, rfl, hb, hcell⟩ := hsrc.at_ hne
  refine wpList_append_grows w hg s x t hop e i z size bytes h1 h2 h3 h4 h5 h6 h7 ao0 n n xs hs (fun h => ?_) hxs (fun b' hb' j u hj => ?_) ⟨b, off, none⟩ m c news hx hn (fun j u hj => by rw [Addr.add_lit]; exact hcell j u hj) h1c (by omega) b1 b2 hK
  · have := hdst.nil h; exact ⟨this, this⟩
  · obtain ⟨b2, off2, e2, _, hcell2⟩ := hdst.at_ (by rintro rfl; simp at hj)
    rw [e2] at hb'
    injection hb' with hb'
    subst hb'
    rw [Addr.add_lit]; exact hcell2 j u hj
end
end Go.Proofs.Ytgokmkceplkngaa

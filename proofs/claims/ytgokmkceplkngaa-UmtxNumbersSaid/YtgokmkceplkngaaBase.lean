import Derived.WalkKit
import Derived.KernelRfl
import Derived.WalkLawsBesides
import Derived.WalkSpells
import Derived.Deep.QuietTactic
import Derived.BigQuiet
import Derived.Lib.Hide
import Derived.StillTailTactics
import Derived.Deep.DeepCutAuto
import Derived.ScopeJumps
namespace Go.Proofs.Ytgokmkceplkngaa
open Go Go.RowKit

/-- Block b holds the cells cs; none is frozen. -/
def Blk (w : World) (b : Nat) (cs : Array Value) (ty : TypeId) : Prop := w.heap[b]? = some (.cells cs ty (0, 0))

/-- From w to w' nothing has turned but blocks in F (and new ones have come). -/
structure Mod (F : Nat → Prop) (w w' : World) : Prop where
  os : w'.os = w.os
  tape : w'.tape = w.tape
  output : w'.output = w.output
  size : w.heap.size ≤ w'.heap.size
  block : ∀ k, k < w.heap.size → ¬ F k → w'.heap[k]? = w.heap[k]?

/-- No block has turned. -/
def Nil : Nat → Prop := fun _ => False
def One (p : Nat) : Nat → Prop := fun k => k = p
def From (b : Nat) : Nat → Prop := fun k => b ≤ k

theorem Mod.refl (F : Nat → Prop) (w : World) : Mod F w w := ⟨rfl, rfl, rfl, Nat.le_refl _, fun _ _ _ => rfl⟩
theorem Mod.trans {F : Nat → Prop} {a b c : World} (h : Mod F a b) (k : Mod F b c) : Mod F a c :=
  ⟨k.os.trans h.os, k.tape.trans h.tape, k.output.trans h.output, Nat.le_trans h.size k.size, fun i hi hf => (k.block i (Nat.lt_of_lt_of_le hi h.size) hf).trans (h.block i hi hf)⟩
theorem Mod.mono {F G : Nat → Prop} {a b : World} (h : Mod F a b) (hg : ∀ k, k < a.heap.size → F k → G k) : Mod G a b :=
  ⟨h.os, h.tape, h.output, h.size, fun i hi hf => h.block i hi (fun hk => hf (hg i hi hk))⟩
/-- Two steps; the second may also turn what is new since the first one began. -/
theorem Mod.trans' {F G : Nat → Prop} {a b c : World} (h : Mod F a b) (k : Mod G b c) (hg : ∀ i, i < a.heap.size → G i → F i) : Mod F a c :=
  ⟨k.os.trans h.os, k.tape.trans h.tape, k.output.trans h.output, Nat.le_trans h.size k.size, fun i hi hf => (k.block i (Nat.lt_of_lt_of_le hi h.size) (fun hk => hf (hg i hi hk))).trans (h.block i hi hf)⟩
theorem Mod.drew {F : Nat → Prop} {a b : World} (h : Mod F a b) : Mod F a b.drew := ⟨h.os, h.tape, h.output, h.size, h.block⟩
theorem Mod.drewN {F : Nat → Prop} {a b : World} (h : Mod F a b) (n : Nat) : Mod F a (b.drewN n) := ⟨h.os, h.tape, h.output, h.size, h.block⟩
theorem Mod.alloc {F : Nat → Prop} {a b : World} (h : Mod F a b) (o : Obj) : Mod F a (b.alloc o) :=
  h.trans ⟨rfl, rfl, rfl, by simp, fun k hk _ => Below.heap_alloc _ _ _ hk⟩
theorem Mod.setCell {F : Nat → Prop} {a b : World} (h : Mod F a b) {p : Addr} (hp : p.block < a.heap.size → F p.block) (u : Value) : Mod F a (b.setCell p u) :=
  ⟨h.os, h.tape, h.output, by simpa using h.size, fun k hk hf => by
    rw [Below.heap_setCell _ _ _ _ (fun e => hf (by subst e; exact hp hk))]; exact h.block k hk hf⟩
theorem Mod.grown {F : Nat → Prop} {a b c : World} {row : Option Nat} (h : Mod F a b) (hg : b.grownBy c row) (hr : ∀ k, row = some k → k < a.heap.size → F k) : Mod F a c :=
  ⟨hg.os.trans h.os, hg.tape.trans h.tape, hg.output.trans h.output, Nat.le_trans h.size hg.size, fun k hk hf => by
    rw [hg.block k (Nat.lt_of_lt_of_le hk h.size) (fun e => hf (hr k e.symm hk))]; exact h.block k hk hf⟩
theorem Mod.below {F : Nat → Prop} {a b : World} (h : Mod F a b) {B : Nat} (hB : B ≤ a.heap.size) (hf : ∀ k, k < B → ¬ F k) : Below B a b :=
  ⟨h.os, h.tape, h.output, h.size, fun k hk => h.block k (Nat.lt_of_lt_of_le hk hB) (hf k hk)⟩
theorem Mod.of_below {F : Nat → Prop} {a b : World} {B : Nat} (h : Below B a b) (hf : ∀ k, k < a.heap.size → B ≤ k → F k) : Mod F a b :=
  ⟨h.os, h.tape, h.output, h.size, fun k hk hk' => h.block k (by rcases Nat.lt_or_ge k B with h' | h'; exact h'; exact absurd (hf k hk h') hk')⟩
theorem Mod.cell {F : Nat → Prop} {w w' : World} (h : Mod F w w') {b o : Nat} (hb : b < w.heap.size) (hf : ¬ F b) : w'.cell? ⟨b, o, none⟩ = w.cell? ⟨b, o, none⟩ :=
  World.cell?_of_block (w := w) (h.block b hb hf)
theorem Mod.frozen {F : Nat → Prop} {w w' : World} (h : Mod F w w') {b o : Nat} (hb : b < w.heap.size) (hf : ¬ F b) : w'.frozen? ⟨b, o, none⟩ = w.frozen? ⟨b, o, none⟩ :=
  World.frozen?_of_block (w := w) (h.block b hb hf)

theorem Blk.lt {w : World} {b : Nat} {cs : Array Value} {ty : TypeId} (h : Blk w b cs ty) : b < w.heap.size := lt_of_block h
theorem Blk.cell {w : World} {b : Nat} {cs : Array Value} {ty : TypeId} (h : Blk w b cs ty) (i : Nat) : w.cell? ⟨b, i, none⟩ = cs[i]? := by
  simp [World.cell?, show w.heap[b]? = _ from h]
theorem Blk.free {w : World} {b : Nat} {cs : Array Value} {ty : TypeId} (h : Blk w b cs ty) (i : Nat) : w.frozen? ⟨b, i, none⟩ = false := by
  simp [World.frozen?, show w.heap[b]? = _ from h]
theorem Blk.mod {F : Nat → Prop} {w w' : World} {b : Nat} {cs : Array Value} {ty : TypeId} (h : Blk w b cs ty) (m : Mod F w w') (hf : ¬ F b) : Blk w' b cs ty :=
  (m.block b h.lt hf).trans h
theorem Blk.new (w : World) (cs : Array Value) (ty : TypeId) : Blk (w.alloc (.cells cs ty)) w.heap.size cs ty := heap_alloc_new w _
theorem Blk.alloc {w : World} {b : Nat} {cs : Array Value} {ty : TypeId} (h : Blk w b cs ty) (o : Obj) : Blk (w.alloc o) b cs ty :=
  (Below.heap_alloc w o b h.lt).trans h
theorem Blk.drew {w : World} {b : Nat} {cs : Array Value} {ty : TypeId} (h : Blk w b cs ty) : Blk w.drew b cs ty := h
theorem Blk.setCell {w : World} {b : Nat} {cs : Array Value} {ty : TypeId} (h : Blk w b cs ty) (i : Nat) (v : Value) : Blk (w.setCell ⟨b, i, none⟩ v) b (cs.setIfInBounds i v) ty := by
  have hlt := h.lt
  have h' : w.heap[b] = .cells cs ty (0, 0) := (Array.getElem?_eq_some_iff.1 h).2
  show (w.heap.modify b _)[b]? = _
  rw [Array.getElem?_eq_getElem (by simpa using hlt), Array.getElem_modify_self, h']
  rfl
theorem Blk.setCell_other {w : World} {b : Nat} {cs : Array Value} {ty : TypeId} (h : Blk w b cs ty) {p : Addr} (hp : b ≠ p.block) (v : Value) : Blk (w.setCell p v) b cs ty :=
  (Below.heap_setCell w p v b hp).trans h

theorem Blk.grown {w w' : World} {b : Nat} {cs : Array Value} {ty : TypeId} {row : Option Nat} (h : Blk w b cs ty) (hg : w.grownBy w' row) (hb : some b ≠ row) : Blk w' b cs ty :=
  (hg.block b h.lt hb).trans h

/-- What has just been laid into a new block of one cell. -/
theorem cell_one_new (w : World) (x : Value) (t : TypeId) : ∀ (j : Nat) (u : Value), [x][j]? = some u → (w.alloc (.cells #[x] t)).cell? ((⟨w.heap.size, 0, none⟩ : Addr).add j) = some u := by
  intro j u hu
  rw [Addr.add_lit, Nat.zero_add, World.cell?_alloc_new]
  simpa using hu

theorem ret_int {k : IntKind} {a b : Int} (h : a = b) : Ending.returned (.int k a) = .returned (.int k b) := by rw [h]

/-- What stands in a block that was new when a call began. -/
theorem Mod.boxed {F : Nat → Prop} {w w1 : World} {cs : Array Value} {ty : TypeId} (m : Mod F (w.alloc (.cells cs ty)) w1) (hf : ¬ F w.heap.size) (i : Nat) : w1.cell? ⟨w.heap.size, i, none⟩ = cs[i]? := by
  rw [m.cell (by simp) hf]; exact World.cell?_alloc_new w cs ty i
theorem Mod.of_alloc {F : Nat → Prop} {w w1 : World} {o : Obj} (m : Mod F (w.alloc o) w1) : Mod F w w1 := ((Mod.refl F w).alloc o).trans m
theorem Mod.nil {F : Nat → Prop} {w w1 : World} (m : Mod Nil w w1) : Mod F w w1 := m.mono (fun _ _ h => h.elim)
theorem Mod.drewN_nil (w : World) (d : Nat) : Mod Nil w (w.drewN d) := (Mod.refl _ w).drewN d

/-- A callee that leaves the world alone, inside a region that draws. -/
theorem quiet_eq {P : Program} {f : FuncId} {args : Array Value} {w : World} {n : Nat} {v : Value}
    (h : Calls P f args (w.drewN n) fun e w' => e = .returned v ∧ w.drewN n = w') : Calls P f args (w.drewN n) fun e w'' => e = .returned v ∧ ∃ m, w'' = w.drewN m :=
  h.mono fun _ _ ⟨he, hm⟩ => ⟨he, n, hm.symm⟩

/-- A frame whose unnamed slots are told by one function. -/
theorem frame_fn {a' : Act} {f : (Nat → Value) → Act} (h : f (fun i => a'.tmps.getD i undef) = a') : ∃ u : Nat → Value, a' = f u := ⟨_, h.symm⟩

/-! Scopes with labels. -/
/-- As Q; by a goto to label l: J l. -/
def Exit.jumps (J : Nat → Act → World → Prop) (Q : Exit → Act → World → Prop) : Exit → Act → World → Prop
  | .goto l, a, w => J l a w
  | e, a, w => Q e a w
section
variable {P : Program} {a : Act} {w : World} {Q : Exit → Act → World → Prop}
theorem wp_scope_all {c : Code} (J : Nat → Act → World → Prop) (μ : Nat → Act → World → Nat)
    (pass : ∀ l a w, J l a w → ∃ rest, findLabel c l = some (.seq .skip rest) ∧ rest.wp P (Exit.jumps (fun l' a' w' => J l' a' w' ∧ μ l' a' w' < μ l a w) Q) a w)
    (first : (∀ l a w rest, J l a w → findLabel c l = some (.seq .skip rest) → rest.wp P (Exit.jumps J Q) a w) → c.wp P (Exit.jumps J Q) a w) : (Code.scope c).wp P Q a w := by
  have first' := first (fun l a w rest hJ hf => by
    obtain ⟨rest', hf', hp⟩ := pass l a w hJ
    rw [hf] at hf'
    injection hf' with hf'
    injection hf' with _ hf'
    subst hf'
    exact Code.wp_mono (fun e a w q => by cases e <;> first | exact q.1 | exact q) hp)
  intro b k cs
  have key : ∀ n l a w, μ l a w = n → J l a w → ∃ e a' w', Q e a' w' ∧ ∃ rest, gotoIn l (.inScope c :: k) = some (.code rest :: .inScope c :: k) ∧ Arrives P (lone (b.at a (.code rest :: .inScope c :: k)) cs w) b k cs e a' w' := by
    intro n
    induction n using Nat.strongRecOn with
    | _ n ih =>
      intro l a w hn hJ
      obtain ⟨rest, hf, hpass⟩ := pass l a w hJ
      have hg : gotoIn l (.inScope c :: k) = some (.code (.seq .skip rest) :: .inScope c :: k) := by simp [gotoIn, hf]
      obtain ⟨e, a₁, w₁, hq, harr⟩ := (wp_seq (wp_skip hpass) : (Code.seq .skip rest).wp P _ a w) b (.inScope c :: k) cs
      cases e with
      | normal => exact ⟨.normal, a₁, w₁, hq, _, hg, Steps.trans harr (.one step_inScope)⟩
      | exit id => exact ⟨.exit id, a₁, w₁, hq, _, hg, fun k' hk => harr k' (by simp [exitTo, hk])⟩
      | goto l' =>
        obtain ⟨hJ', hlt⟩ := hq
        obtain ⟨e₂, a₂, w₂, hq₂, rest₂, hg₂, harr₂⟩ := ih _ (by omega) l' a₁ w₁ rfl hJ'
        exact ⟨e₂, a₂, w₂, hq₂, _, hg, .of_steps (harr _ hg₂) harr₂⟩
      | ret => exact ⟨_, a₁, w₁, hq, _, hg, harr⟩
      | panic ch => exact ⟨_, a₁, w₁, hq, _, hg, harr⟩
      | outgrown => exact ⟨_, a₁, w₁, hq, _, hg, harr⟩
  obtain ⟨e, a₁, w₁, hq, harr⟩ := first' b (.inScope c :: k) cs
  cases e with
  | normal => exact ⟨.normal, a₁, w₁, hq, .head step_scope (Steps.trans harr (.one step_inScope))⟩
  | exit id => exact ⟨.exit id, a₁, w₁, hq, fun k' hk => .head step_scope (harr k' (by simp [exitTo, hk]))⟩
  | goto l' =>
    obtain ⟨e₂, a₂, w₂, hq₂, rest₂, hg₂, harr₂⟩ := key _ l' a₁ w₁ rfl hq
    exact ⟨e₂, a₂, w₂, hq₂, .of_steps (.head step_scope (harr _ hg₂)) harr₂⟩
  | ret => exact ⟨_, a₁, w₁, hq, .of_steps (.one step_scope) harr⟩
  | panic ch => exact ⟨_, a₁, w₁, hq, .of_steps (.one step_scope) harr⟩
  | outgrown => exact ⟨_, a₁, w₁, hq, .of_steps (.one step_scope) harr⟩
/-- One label alone. -/
def atLabel (l : Nat) (J : Act → World → Prop) : Nat → Act → World → Prop := fun l' a w => l' = l ∧ J a w
theorem wp_scope_one {c rest : Code} (l : Nat) (J : Act → World → Prop) (μ : Act → World → Nat) (hf : findLabel c l = some (.seq .skip rest))
    (pass : ∀ a w, J a w → rest.wp P (Exit.jumps (atLabel l (fun a' w' => J a' w' ∧ μ a' w' < μ a w)) Q) a w)
    (first : (∀ a w, J a w → rest.wp P (Exit.jumps (atLabel l J) Q) a w) → c.wp P (Exit.jumps (atLabel l J) Q) a w) : (Code.scope c).wp P Q a w := by
  refine wp_scope_all (atLabel l J) (fun _ => μ) (fun l' a w h => ?_) (fun fall => first (fun a w hJ => fall l a w rest ⟨rfl, hJ⟩ hf))
  obtain ⟨rfl, hJ⟩ := h
  exact ⟨rest, hf, Code.wp_mono (fun e a w q => by cases e <;> first | exact q | exact ⟨⟨q.1, q.2.1⟩, q.2.2⟩) (pass a w hJ)⟩
end

end Go.Proofs.Ytgokmkceplkngaa

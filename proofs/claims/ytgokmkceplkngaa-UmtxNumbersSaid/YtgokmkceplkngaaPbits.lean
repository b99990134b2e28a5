namespace Go.Proofs.Ytgokmkceplkngaa

/-- The k lowest bits of a number, the highest first. -/
def bitsN : Nat → Nat → List Bool
  | 0, _ => []
  | k + 1, v => v.testBit k :: bitsN k v
/-- The number of bits, the highest first. -/
def ofBits : List Bool → Nat
  | [] => 0
  | b :: l => b.toNat * 2 ^ l.length + ofBits l
/-- The bits of bytes. -/
def bitsOf : List UInt8 → List Bool
  | [] => []
  | c :: l => bitsN 8 c.toNat ++ bitsOf l

@[simp] theorem bitsN_length (k v : Nat) : (bitsN k v).length = k := by
  induction k with
  | zero => rfl
  | succ k ih => simp [bitsN, ih]
theorem bitsN_get (k v j : Nat) (h : j < k) : (bitsN k v)[j]? = some (v.testBit (k - 1 - j)) := by
  induction k generalizing j with
  | zero => omega
  | succ k ih =>
    cases j with
    | zero => simp [bitsN]
    | succ j =>
      simp only [bitsN, List.getElem?_cons_succ]
      rw [ih j (by omega)]
      congr 2; omega
theorem bitsN_take (k j v : Nat) (h : j ≤ k) : (bitsN k v).take j = bitsN j (v / 2 ^ (k - j)) := by
  apply List.ext_getElem?
  intro i
  by_cases hi : i < j
  · rw [List.getElem?_take_of_lt hi, bitsN_get _ _ _ (by omega), bitsN_get _ _ _ hi]
    simp only [Nat.testBit_div_two_pow]
    congr 2; omega
  · rw [List.getElem?_eq_none (by simp; omega), List.getElem?_eq_none (by simp; omega)]
theorem bitsN_snoc (k v : Nat) : bitsN (k + 1) v = bitsN k (v / 2) ++ [v.testBit 0] := by
  apply List.ext_getElem?
  intro i
  by_cases hi : i < k + 1
  · rw [bitsN_get _ _ _ hi]
    by_cases hk : i < k
    · rw [List.getElem?_append_left (by simpa using hk), bitsN_get _ _ _ hk]
      rw [Nat.testBit_div_two]; congr 2; omega
    · have : i = k := by omega
      subst this
      rw [List.getElem?_append_right (by simp)]
      simp
  · rw [List.getElem?_eq_none (by simp; omega), List.getElem?_eq_none (by simp; omega)]
theorem ofBits_append (l m : List Bool) : ofBits (l ++ m) = ofBits l * 2 ^ m.length + ofBits m := by
  induction l with
  | nil => simp [ofBits]
  | cons b l ih =>
    simp only [List.cons_append, ofBits, ih, List.length_append, Nat.pow_add]
    rw [Nat.add_mul, Nat.mul_assoc, Nat.add_assoc]
theorem ofBits_snoc (l : List Bool) (b : Bool) : ofBits (l ++ [b]) = 2 * ofBits l + b.toNat := by
  rw [ofBits_append]; simp [ofBits]; omega
theorem ofBits_lt (l : List Bool) : ofBits l < 2 ^ l.length := by
  induction l with
  | nil => simp [ofBits]
  | cons b l ih =>
    simp only [ofBits, List.length_cons, Nat.pow_succ]
    have hb : b.toNat ≤ 1 := by cases b <;> simp
    have : b.toNat * 2 ^ l.length ≤ 1 * 2 ^ l.length := Nat.mul_le_mul_right _ hb
    omega
theorem ofBits_bitsN (k v : Nat) : ofBits (bitsN k v) = v % 2 ^ k := by
  induction k with
  | zero => simp [bitsN, ofBits, Nat.mod_one]
  | succ k ih =>
    simp only [bitsN, ofBits, bitsN_length, ih]
    rw [Nat.pow_succ, Nat.mod_mul, Nat.testBit_eq_decide_div_mod_eq]
    have h2 : v / 2 ^ k % 2 = 0 ∨ v / 2 ^ k % 2 = 1 := by omega
    rcases h2 with h2 | h2 <;> simp [h2] <;> omega
theorem bitsN_ofBits (l : List Bool) : bitsN l.length (ofBits l) = l := by
  suffices h : ∀ (m : List Bool) n, n = m.length → bitsN n (ofBits m) = m from h l _ rfl
  intro m
  induction m with
  | nil => intro n h; subst h; rfl
  | cons b m ih =>
    intro n h
    subst h
    have hlt := ofBits_lt m
    simp only [List.length_cons, bitsN, ofBits]
    have h1 : (b.toNat * 2 ^ m.length + ofBits m).testBit m.length = b := by
      rw [Nat.mul_comm, Nat.testBit_two_pow_mul_add _ hlt]
      cases b <;> simp
    have h2 : bitsN m.length (b.toNat * 2 ^ m.length + ofBits m) = bitsN m.length (ofBits m) := by
      apply List.ext_getElem?
      intro i
      by_cases hi : i < m.length
      · rw [bitsN_get _ _ _ hi, bitsN_get _ _ _ hi, Nat.mul_comm, Nat.testBit_two_pow_mul_add _ hlt]
        rw [if_pos (by omega)]
      · rw [List.getElem?_eq_none (by simp; omega), List.getElem?_eq_none (by simp; omega)]
    rw [h1, h2, ih _ rfl]
theorem bitsN_inj {k a b : Nat} (ha : a < 2 ^ k) (hb : b < 2 ^ k) (h : bitsN k a = bitsN k b) : a = b := by
  have := congrArg ofBits h
  rwa [ofBits_bitsN, ofBits_bitsN, Nat.mod_eq_of_lt ha, Nat.mod_eq_of_lt hb] at this

@[simp] theorem bitsOf_length (l : List UInt8) : (bitsOf l).length = 8 * l.length := by
  induction l with
  | nil => rfl
  | cons c l ih => simp only [bitsOf, List.length_append, bitsN_length, ih, List.length_cons]; omega
theorem bitsOf_append (l m : List UInt8) : bitsOf (l ++ m) = bitsOf l ++ bitsOf m := by
  induction l with
  | nil => rfl
  | cons c l ih => simp [bitsOf, ih]
theorem bitsOf_get (l : List UInt8) (j : Nat) (h : j < 8 * l.length) : (bitsOf l)[j]? = some ((l.getD (j / 8) 0).toNat.testBit (7 - j % 8)) := by
  induction l generalizing j with
  | nil => simp at h
  | cons c l ih =>
    simp only [bitsOf]
    by_cases hj : j < 8
    · rw [List.getElem?_append_left (by simpa using hj), bitsN_get _ _ _ hj]
      simp [Nat.div_eq_of_lt hj, Nat.mod_eq_of_lt hj]
    · rw [List.getElem?_append_right (by simp; omega)]
      simp only [bitsN_length]
      rw [ih _ (by simp only [List.length_cons] at h; omega)]
      have e1 : j / 8 = (j - 8) / 8 + 1 := by omega
      have e2 : (j - 8) % 8 = j % 8 := by omega
      rw [e1, e2]; simp
theorem bitsOf_inj {l m : List UInt8} (h : bitsOf l = bitsOf m) : l = m := by
  induction l generalizing m with
  | nil =>
    cases m with
    | nil => rfl
    | cons c m => have := congrArg List.length h; simp only [bitsOf, List.length_append, bitsN_length, List.length_nil] at this; omega
  | cons c l ih =>
    cases m with
    | nil => have := congrArg List.length h; simp only [bitsOf, List.length_append, bitsN_length, List.length_nil] at this; omega
    | cons d m =>
      simp only [bitsOf] at h
      obtain ⟨h1, h2⟩ := List.append_inj h (by simp)
      have hc : c.toNat = d.toNat := bitsN_inj (k := 8) (by have := c.toNat_lt; omega) (by have := d.toNat_lt; omega) h1
      rw [ih h2, UInt8.toNat.inj hc]
theorem bitsOf_take (l : List UInt8) (n : Nat) : bitsOf (l.take n) = (bitsOf l).take (8 * n) := by
  induction l generalizing n with
  | nil => simp [bitsOf]
  | cons c l ih =>
    cases n with
    | zero => simp [bitsOf]
    | succ n =>
      simp only [List.take_succ_cons, bitsOf, ih]
      rw [List.take_append, List.take_of_length_le (l := bitsN 8 c.toNat) (by rw [bitsN_length]; omega)]
      simp only [bitsN_length]
      rw [show 8 * (n + 1) - 8 = 8 * n by omega]
theorem bitsOf_drop (l : List UInt8) (n : Nat) : bitsOf (l.drop n) = (bitsOf l).drop (8 * n) := by
  induction l generalizing n with
  | nil => simp [bitsOf]
  | cons c l ih =>
    cases n with
    | zero => simp [bitsOf]
    | succ n =>
      simp only [List.drop_succ_cons, bitsOf, ih]
      rw [List.drop_append, List.drop_of_length_le (l := bitsN 8 c.toNat) (by rw [bitsN_length]; omega)]
      simp only [bitsN_length, List.nil_append]
      rw [show 8 * (n + 1) - 8 = 8 * n by omega]
/-- How many noughts make whole bytes of so many bits. -/
def padN (n : Nat) : Nat := (8 - n % 8) % 8
def pad (n : Nat) : List Bool := List.replicate (padN n) false
/-- Bytes are these bits, and noughts behind them. -/
def Packs (bs : List UInt8) (l : List Bool) : Prop := bitsOf bs = l ++ pad l.length
theorem Packs.length {bs : List UInt8} {l : List Bool} (h : Packs bs l) : bs.length = (l.length + 7) / 8 := by
  have := congrArg List.length h
  simp [pad, padN] at this
  omega
theorem Packs.inj {bs cs : List UInt8} {l : List Bool} (h : Packs bs l) (k : Packs cs l) : bs = cs := bitsOf_inj (h.trans k.symm)
theorem Packs.nil : Packs [] [] := rfl
theorem bit128 (b : Bool) : bitsN 8 (b.toNat * 128) = b :: List.replicate 7 false := by cases b <;> decide
theorem Packs.new {bs : List UInt8} {l : List Bool} (h : Packs bs l) (h8 : l.length % 8 = 0) (b : Bool) : Packs (bs ++ [UInt8.ofNat (b.toNat * 128)]) (l ++ [b]) := by
  unfold Packs at *
  rw [bitsOf_append, h]
  have e : pad l.length = [] := by simp [pad, padN, h8]
  have e2 : pad (l ++ [b]).length = List.replicate 7 false := by
    have : (l.length + 1) % 8 = 1 := by omega
    simp [pad, padN, this]
  rw [e, e2]
  have hb : (UInt8.ofNat (b.toNat * 128)).toNat = b.toNat * 128 := by cases b <;> rfl
  simp only [bitsOf, hb, bit128, List.append_nil, List.append_assoc]
  rfl
theorem testBit_or_shift (x s i : Nat) (b : Bool) : (x ||| (b.toNat * 2 ^ s)).testBit i = (x.testBit i || (b && decide (i = s))) := by
  rw [Nat.testBit_or]
  congr 1
  cases b
  · simp
  · simp only [Bool.toNat_true, Nat.one_mul, Nat.testBit_two_pow, Bool.true_and]
    by_cases h : s = i
    · simp [h]
    · simp [h, Ne.symm h]
theorem Packs.more {bs : List UInt8} {l : List Bool} (h : Packs bs l) (h8 : l.length % 8 ≠ 0) (b : Bool) (x' : UInt8)
    (hx : x'.toNat = (bs.getD (l.length / 8) 0).toNat ||| (b.toNat * 2 ^ (7 - l.length % 8))) : Packs (bs.set (l.length / 8) x') (l ++ [b]) := by
  have hlen := h.length
  unfold Packs at *
  apply List.ext_getElem?
  intro i
  by_cases hi : i < 8 * bs.length
  · rw [bitsOf_get _ _ (by simpa using hi)]
    have hp : padN l.length = 8 - l.length % 8 := by unfold padN; omega
    have hp' : padN (l ++ [b]).length = 8 - l.length % 8 - 1 := by unfold padN; simp; omega
    have hget := bitsOf_get bs i hi
    rw [h] at hget
    by_cases hil : i < l.length
    · rw [List.append_assoc, List.getElem?_append_left hil]
      rw [List.getElem?_append_left hil] at hget
      rw [hget]
      congr 1
      by_cases hb : i / 8 = l.length / 8
      · rw [hb, List.getD_eq_getElem?_getD, List.getElem?_set_self (by omega)]
        simp only [Option.getD_some, hx, testBit_or_shift]
        have : ¬ (7 - i % 8 = 7 - l.length % 8) := by omega
        simp [this]
      · simp [List.getD_eq_getElem?_getD, List.getElem?_set_ne (Ne.symm hb)]
    · have hb : i / 8 = l.length / 8 := by omega
      rw [List.getElem?_append_right (by omega)] at hget
      have hz : (pad l.length)[i - l.length]? = some false := by
        unfold pad; rw [List.getElem?_replicate, if_pos (by omega)]
      rw [hz] at hget
      have hget' := Option.some.inj hget
      rw [hb, List.getD_eq_getElem?_getD, List.getElem?_set_self (by omega)]
      simp only [Option.getD_some, hx, testBit_or_shift]
      rw [hb] at hget'
      rw [← hget']
      by_cases hie : i = l.length
      · subst hie
        rw [List.append_assoc, List.getElem?_append_right (Nat.le_refl _)]
        simp
      · rw [List.getElem?_append_right (by simp; omega)]
        have h1 : ¬ (7 - i % 8 = 7 - l.length % 8) := by omega
        unfold pad
        rw [List.getElem?_replicate, if_pos (by rw [hp']; simp; omega)]
        simp [h1]
  · rw [List.getElem?_eq_none (by simp; omega), List.getElem?_eq_none (by simp [pad, padN]; omega)]
end Go.Proofs.Ytgokmkceplkngaa

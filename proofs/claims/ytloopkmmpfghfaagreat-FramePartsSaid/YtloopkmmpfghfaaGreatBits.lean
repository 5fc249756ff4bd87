/-
  Plain lists: what chapter 1 (bits) computes: bits put at one end, taken there again; bits as bytes and back. No Go and no memory here.
-/
namespace Go.Proofs.YtloopkmmpfghfaaGreat
namespace Mg

/-- Bits as a number, the lowest first. -/
def ofBits : List Bool → Nat
  | [] => 0
  | b :: l => b.toNat + 2 * ofBits l

/-- The n lowest digits of a number, the lowest first. -/
def bitsOf : Nat → Nat → List Bool
  | 0, _ => []
  | n + 1, v => (v % 2 == 1) :: bitsOf n (v / 2)

theorem bitsOf_length : ∀ n v, (bitsOf n v).length = n
  | 0, _ => rfl
  | n + 1, v => by simp [bitsOf, bitsOf_length n]

theorem ofBits_bitsOf : ∀ n v, v < 2 ^ n → ofBits (bitsOf n v) = v
  | 0, v, h => by simp at h; simp [bitsOf, ofBits, h]
  | n + 1, v, h => by
    have h2 : v / 2 < 2 ^ n := by rw [Nat.pow_succ] at h; omega
    simp only [bitsOf, ofBits, ofBits_bitsOf n (v / 2) h2]
    rcases Nat.mod_two_eq_zero_or_one v with e | e <;> simp [e] <;> omega

theorem ofBits_lt : ∀ l, ofBits l < 2 ^ l.length
  | [] => by simp [ofBits]
  | b :: l => by
    have := ofBits_lt l
    simp only [ofBits, List.length_cons, Nat.pow_succ]
    cases b <;> simp <;> omega

theorem bitsOf_ofBits : ∀ l, bitsOf l.length (ofBits l) = l
  | [] => rfl
  | b :: l => by
    have := bitsOf_ofBits l
    simp only [List.length_cons, bitsOf, ofBits]
    cases b
    · simp only [Bool.toNat_false, Nat.zero_add]
      rw [show 2 * ofBits l / 2 = ofBits l from by omega, this]; simp
    · simp only [Bool.toNat_true]
      rw [show (1 + 2 * ofBits l) / 2 = ofBits l from by omega, this]; simp

theorem ofBits_append : ∀ a b, ofBits (a ++ b) = ofBits a + 2 ^ a.length * ofBits b
  | [], b => by simp [ofBits]
  | x :: a, b => by
    simp only [List.cons_append, ofBits, ofBits_append a b, List.length_cons, Nat.pow_succ]
    rw [Nat.mul_add, ← Nat.mul_assoc, Nat.mul_comm 2 (2 ^ a.length)]
    omega

theorem bitsOf_get : ∀ (n v i : Nat), i < n → (bitsOf n v)[i]? = some (v / 2 ^ i % 2 == 1)
  | 0, _, i, h => by omega
  | n + 1, v, 0, _ => by simp [bitsOf]
  | n + 1, v, i + 1, h => by
    simp only [bitsOf, List.getElem?_cons_succ]
    rw [bitsOf_get n (v / 2) i (by omega), Nat.div_div_eq_div_mul, Nat.pow_succ, Nat.mul_comm]

theorem bitsOf_succ (n v : Nat) : bitsOf (n + 1) v = bitsOf n v ++ [v / 2 ^ n % 2 == 1] := by
  apply List.ext_getElem?
  intro i
  by_cases h : i < n
  · rw [bitsOf_get _ _ _ (by omega), List.getElem?_append_left (by rw [bitsOf_length]; omega), bitsOf_get _ _ _ h]
  · by_cases h' : i = n
    · subst h'
      rw [bitsOf_get _ _ _ (by omega), List.getElem?_append_right (by rw [bitsOf_length]; omega), bitsOf_length]
      simp
    · rw [List.getElem?_eq_none (by rw [bitsOf_length]; omega), List.getElem?_eq_none (by simp [bitsOf_length]; omega)]

/-- The last n bits; none: that may not be. -/
def take (l : List Bool) (n : Nat) : Option (Nat × List Bool) :=
  if n ≤ 24 ∧ n ≤ l.length then some (ofBits (l.drop (l.length - n)), l.take (l.length - n)) else none

theorem take_put (l : List Bool) (n v : Nat) (hn : n ≤ 24) (hv : v < 2 ^ n) : take (l ++ bitsOf n v) n = some (v, l) := by
  unfold take
  have e : (l ++ bitsOf n v).length - n = l.length := by simp [bitsOf_length]
  rw [if_pos ⟨hn, by simp [bitsOf_length]⟩, e]
  simp [ofBits_bitsOf n v hv]

/-- So many bytes out of bits. -/
def pack8 (m : Nat) (l : List Bool) : List Nat := (List.range m).map fun k => ofBits ((l.drop (8 * k)).take 8)

/-- All bits as bytes, a 1 behind them. -/
def bytesOf (l : List Bool) : List Nat := pack8 (l.length / 8 + 1) (l ++ [true])

theorem pack8_length (m : Nat) (l : List Bool) : (pack8 m l).length = m := by simp [pack8]
theorem bytesOf_length (l : List Bool) : (bytesOf l).length = l.length / 8 + 1 := pack8_length _ _

theorem pack8_get (m : Nat) (l : List Bool) (k : Nat) (h : k < m) : (pack8 m l)[k]? = some (ofBits ((l.drop (8 * k)).take 8)) := by
  simp [pack8, h]

theorem pack8_lt (m : Nat) (l : List Bool) : ∀ x ∈ pack8 m l, x < 256 := by
  intro x hx
  simp only [pack8, List.mem_map, List.mem_range] at hx
  obtain ⟨k, _, rfl⟩ := hx
  have := ofBits_lt ((l.drop (8 * k)).take 8)
  have h8 : ((l.drop (8 * k)).take 8).length ≤ 8 := by simp; omega
  have : 2 ^ ((l.drop (8 * k)).take 8).length ≤ 2 ^ 8 := Nat.pow_le_pow_right (by omega) h8
  omega

theorem bytesOf_lt (l : List Bool) : ∀ x ∈ bytesOf l, x < 256 := pack8_lt _ _

theorem ofBits_snoc (l : List Bool) (b : Bool) : ofBits (l ++ [b]) = ofBits l + (if b then 2 ^ l.length else 0) := by
  rw [ofBits_append]
  cases b <;> simp [ofBits]

theorem chunk_snoc (l : List Bool) (b : Bool) (k : Nat) :
    ((l ++ [b]).drop (8 * k)).take 8 = if k = l.length / 8 then (l.drop (8 * k)).take 8 ++ [b] else (l.drop (8 * k)).take 8 := by
  by_cases h1 : 8 * k ≤ l.length
  · rw [List.drop_append_of_le_length h1]
    by_cases h2 : k = l.length / 8
    · rw [if_pos h2, List.take_append]
      have hl : (l.drop (8 * k)).length < 8 := by simp; omega
      rw [List.take_of_length_le (l := l.drop (8 * k)) (by omega), List.take_of_length_le (l := [b]) (by simp; omega)]
    · rw [if_neg h2, List.take_append_of_le_length (by simp; omega)]
  · rw [if_neg (by omega), List.drop_of_length_le (by simp; omega), List.drop_of_length_le (by omega)]

/-- A 0 behind turns no byte. -/
theorem pack8_false (m : Nat) (l : List Bool) : pack8 m (l ++ [false]) = pack8 m l := by
  unfold pack8
  apply List.map_congr_left
  intro k _
  rw [chunk_snoc]
  split
  · rw [ofBits_snoc]; simp
  · rfl

theorem or_pow_add (a n : Nat) (h : a < 2 ^ n) : a ||| 2 ^ n = a + 2 ^ n := by
  have := Nat.two_pow_add_eq_or_of_lt h 1
  simp only [Nat.mul_one] at this
  rw [Nat.or_comm, ← this, Nat.add_comm]

/-- A 1 behind turns one byte, by an or. -/
theorem pack8_true (m : Nat) (l : List Bool) : pack8 m (l ++ [true]) = (pack8 m l).set (l.length / 8) ((pack8 m l).getD (l.length / 8) 0 ||| 2 ^ (l.length % 8)) := by
  apply List.ext_getElem?
  intro k
  by_cases hk : k < m
  · rw [pack8_get _ _ _ hk, List.getElem?_set]
    by_cases e : l.length / 8 = k
    · rw [if_pos e, if_pos (by rw [pack8_length]; omega), chunk_snoc, if_pos e.symm, ofBits_snoc]
      have g : (pack8 m l).getD k 0 = ofBits ((l.drop (8 * k)).take 8) := by rw [List.getD_eq_getElem?_getD, pack8_get _ _ _ hk]; rfl
      have hl : ((l.drop (8 * k)).take 8).length = l.length % 8 := by simp; omega
      rw [e, g, or_pow_add _ _ (by rw [← hl]; exact ofBits_lt _), hl]
      simp
    · rw [if_neg e, pack8_get _ _ _ hk, chunk_snoc, if_neg (fun h => e h.symm)]
  · rw [List.getElem?_eq_none (by rw [pack8_length]; omega), List.getElem?_eq_none (by rw [List.length_set, pack8_length]; omega)]

theorem pack8_nil (m : Nat) : pack8 m [] = List.replicate m 0 := by
  apply List.ext_getElem?
  intro k
  by_cases hk : k < m
  · rw [pack8_get _ _ _ hk, List.getElem?_replicate, if_pos hk]; simp [ofBits]
  · rw [List.getElem?_eq_none (by rw [pack8_length]; omega), List.getElem?_eq_none (by simp; omega)]

/-- All digits of bytes, the lowest first, eight each. -/
def allBits : List Nat → List Bool
  | [] => []
  | x :: b => bitsOf 8 x ++ allBits b

theorem allBits_length : ∀ b, (allBits b).length = 8 * b.length
  | [] => rfl
  | x :: b => by simp [allBits, bitsOf_length, allBits_length b]; omega

/-- How many digits a number has. -/
def digits (n : Nat) : Nat := if n = 0 then 0 else n.log2 + 1

/-- Bytes' bits, up to the highest 1; none: there is none in the last byte. -/
def bitsIn (b : List Nat) : Option (List Bool) :=
  match b.getLast? with
  | none => none
  | some x => if x = 0 then none else some ((allBits b).take (8 * (b.length - 1) + digits x - 1))

theorem allBits_pack8 : ∀ (m : Nat) (l : List Bool), 8 * m = l.length → allBits (pack8 m l) = l := by
  intro m
  induction m with
  | zero => intro l h; have : l = [] := List.eq_nil_of_length_eq_zero (by omega); subst this; rfl
  | succ m ih =>
    intro l h
    have e : pack8 (m + 1) l = ofBits (l.take 8) :: pack8 m (l.drop 8) := by
      unfold pack8
      rw [List.range_succ_eq_map]
      simp only [List.map_cons, List.map_map, Nat.mul_zero, List.drop_zero]
      congr 1
      apply List.map_congr_left
      intro k _
      simp [List.drop_drop]
      rw [show 8 + 8 * k = 8 * (k + 1) from by omega]
    rw [e, allBits, ih _ (by simp; omega)]
    have h8 : (l.take 8).length = 8 := by simp; omega
    have := bitsOf_ofBits (l.take 8)
    rw [h8] at this
    rw [this, List.take_append_drop]

theorem digits_spec (n k : Nat) (h1 : 2 ^ k ≤ n) (h2 : n < 2 ^ (k + 1)) : digits n = k + 1 := by
  have h0 : 0 < 2 ^ k := Nat.two_pow_pos k
  unfold digits
  rw [if_neg (by omega)]
  have a := (Nat.le_log2 (by omega : n ≠ 0)).2 h1
  have b := (Nat.log2_lt (by omega : n ≠ 0)).2 h2
  omega

theorem allBits_append : ∀ a b, allBits (a ++ b) = allBits a ++ allBits b
  | [], b => rfl
  | x :: a, b => by simp [allBits, allBits_append a b]

/-- **Bits come back out of their bytes.** -/
theorem bitsIn_bytesOf (l : List Bool) : bitsIn (bytesOf l) = some l := by
  have hlen := bytesOf_length l
  generalize hm : l.length / 8 = m at hlen
  have hlast : (bytesOf l).getLast? = some (ofBits (l.drop (8 * m)) + 2 ^ (l.length - 8 * m)) := by
    rw [List.getLast?_eq_getElem?, hlen, Nat.add_sub_cancel]
    unfold bytesOf
    rw [pack8_get _ _ _ (by omega), List.drop_append_of_le_length (by omega), List.take_of_length_le (by simp; omega), ofBits_snoc]
    simp
  have hlt := ofBits_lt (l.drop (8 * m))
  have hd : (l.drop (8 * m)).length = l.length - 8 * m := by simp
  rw [hd] at hlt
  unfold bitsIn
  rw [hlast]
  simp only
  have hp : 0 < 2 ^ (l.length - 8 * m) := Nat.two_pow_pos _
  rw [if_neg (by omega), hlen, digits_spec _ (l.length - 8 * m) (by omega) (by rw [Nat.pow_succ]; omega)]
  congr 1
  -- pad to whole bytes
  have hpad : bytesOf l = pack8 (m + 1) (l ++ [true] ++ List.replicate (8 * (m + 1) - (l.length + 1)) false) := by
    unfold bytesOf
    rw [hm]
    generalize 8 * (m + 1) - (l.length + 1) = r
    induction r with
    | zero => simp
    | succ r ih => rw [List.replicate_succ', ← List.append_assoc, pack8_false, ih]
  rw [hpad, allBits_pack8 _ _ (by simp; omega)]
  rw [List.append_assoc, show 8 * (m + 1 - 1) + (l.length - 8 * m + 1) - 1 = l.length from by omega, List.take_append_of_le_length (Nat.le_refl _), List.take_length]

end Mg
end Go.Proofs.YtloopkmmpfghfaaGreat

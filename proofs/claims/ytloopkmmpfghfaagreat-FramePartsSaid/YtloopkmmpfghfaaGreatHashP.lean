/-
  What chapter 2 (hash) computes, over whole numbers as the walk writes them.
-/
import Derived.Test.YtloopkmmpfghfaaGreatW
namespace Go.Proofs.YtloopkmmpfghfaaGreat
namespace Mg

/-- Bytes as a number, the lowest first. -/
def leN : List Nat → Nat
  | [] => 0
  | x :: xs => x + 256 * leN xs

theorem leN_lt : ∀ xs : List Nat, (∀ x ∈ xs, x < 256) → leN xs < 256 ^ xs.length
  | [], _ => by simp [leN]
  | x :: xs, h => by
    have h1 := leN_lt xs fun y hy => h y (List.mem_cons_of_mem _ hy)
    have h2 := h x List.mem_cons_self
    simp only [leN, List.length_cons, Nat.pow_succ]
    omega

theorem leN_append : ∀ a b : List Nat, leN (a ++ b) = leN a + 256 ^ a.length * leN b
  | [], b => by simp [leN]
  | x :: a, b => by
    simp only [List.cons_append, leN, leN_append a b, List.length_cons, Nat.pow_succ]
    rw [Nat.mul_add, ← Nat.mul_assoc, Nat.mul_comm 256 (256 ^ a.length)]
    omega

theorem leN_take_succ {xs : List Nat} {k x : Nat} (h : xs[k]? = some x) : leN (xs.take (k + 1)) = leN (xs.take k) + 256 ^ k * x := by
  obtain ⟨hl, e⟩ := List.getElem?_eq_some_iff.1 h
  rw [List.take_succ_eq_append_getElem hl, leN_append, e]
  have : (xs.take k).length = k := by simp; omega
  rw [this]
  simp [leN]

theorem drop_cons {xs : List Nat} {k x : Nat} (h : xs[k]? = some x) : xs.drop k = x :: xs.drop (k + 1) := by
  obtain ⟨hl, e⟩ := List.getElem?_eq_some_iff.1 h
  rw [List.drop_eq_getElem_cons hl, e]

theorem pow_256 (k : Nat) : 256 ^ k = 2 ^ (8 * k) := by rw [Nat.pow_mul]

theorem small_pow {k : Nat} (h : k ≤ 8) : 256 ^ k ≤ 18446744073709551616 := by
  have : 256 ^ k ≤ 256 ^ 8 := Nat.pow_le_pow_right (by omega) h
  exact Nat.le_trans this (by decide)

theorem leN_lt64 (xs : List Nat) (h : ∀ x ∈ xs, x < 256) (hl : xs.length ≤ 8) : leN xs < 18446744073709551616 :=
  Nat.lt_of_lt_of_le (leN_lt xs h) (small_pow hl)

/-- 'n |= x << 8k'. -/
theorem or_shl (a x k : Nat) (hk : k < 8) (ha : a < 256 ^ k) (hx : x < 256) :
    bits .or .u64 (a : Int) (IntKind.u64.wrap ((x : Int) * 2 ^ (8 * k))) = ((a + 256 ^ k * x : Nat) : Int) := by
  have h1 : 256 ^ k * x < 256 ^ (k + 1) := by
    rw [Nat.pow_succ]
    exact Nat.mul_lt_mul_of_pos_left hx (Nat.pow_pos (by omega))
  have h2 := small_pow (show k + 1 ≤ 8 by omega)
  have h3 := small_pow (show k ≤ 8 by omega)
  have e : IntKind.u64.wrap ((x : Int) * 2 ^ (8 * k)) = ((256 ^ k * x : Nat) : Int) := by
    rw [IntKind.wrap_u64]
    have : (x : Int) * 2 ^ (8 * k) = ((256 ^ k * x : Nat) : Int) := by
      rw [pow_256]
      push_cast
      rw [Int.mul_comm]
    rw [this]
    omega
  rw [e, u64_or_nat _ _ (by omega) (by omega), Nat.or_comm]
  rw [nat_join (8 * k) _ _ (by rw [pow_256]; exact Nat.mul_mod_right _ _) (by rw [← pow_256]; exact ha), Nat.add_comm]

/-- 'x << 8 | c'. -/
theorem shl_or (a x : Nat) (ha : a < 72057594037927936) (hx : x < 256) :
    bits .or .u64 (IntKind.u64.wrap ((a : Int) * 256)) (x : Int) = ((x + 256 * a : Nat) : Int) := by
  have e : IntKind.u64.wrap ((a : Int) * 256) = ((256 * a : Nat) : Int) := by rw [IntKind.wrap_u64]; omega
  rw [e, u64_or_nat _ _ (by omega) (by omega)]
  rw [nat_join 8 _ _ (by omega) (by omega), Nat.add_comm]

def rotI (x k : Int) : Int := bits .or .u64 (IntKind.u64.wrap (x * 2 ^ k.toNat)) (x / 2 ^ (64 - k).toNat)
def xorI (x y : Int) : Int := bits .xor .u64 x y
def wr64 (x : Int) : Int := IntKind.u64.wrap x
theorem wr64_range (x : Int) : 0 ≤ wr64 x ∧ wr64 x < 18446744073709551616 := by
  unfold wr64
  rw [IntKind.wrap_u64]
  omega
theorem rotI_range (x k : Int) : 0 ≤ rotI x k ∧ rotI x k < 18446744073709551616 := by
  unfold rotI bits
  rw [IntKind.wrap_u64]
  omega
theorem xorI_range (x k : Int) : 0 ≤ xorI x k ∧ xorI x k < 18446744073709551616 := by
  unfold xorI bits
  rw [IntKind.wrap_u64]
  omega
theorem and63 (k : Int) (k0 : 1 ≤ k) (k1 : k ≤ 63) : bits .and .u64 k 63 = k := by
  rw [u64_and k 63 (by omega) (by omega) (by omega) (by omega)]
  have : k.toNat &&& (63 : Int).toNat = k.toNat := by
    show k.toNat &&& 63 = k.toNat
    rw [show (63 : Nat) = 2 ^ 6 - 1 from rfl, Nat.and_two_pow_sub_one_eq_mod]
    omega
  rw [this]; omega

def stirI (x y : Int) : Int := wr64 (rotI (wr64 (x + wr64 (y * 14029467366897019727))) 31 * 11400714785074694791)
theorem stirI_range (x y : Int) : 0 ≤ stirI x y ∧ stirI x y < 18446744073709551616 := wr64_range _

abbrev L4 := Int × Int × Int × Int
def laneW (b : List Nat) (i : Nat) : Int := (leN ((b.drop (8 * i)).take 8) : Nat)
def roundL (l : L4) (b : List Nat) : L4 := (stirI l.1 (laneW b 0), stirI l.2.1 (laneW b 1), stirI l.2.2.1 (laneW b 2), stirI l.2.2.2 (laneW b 3))
def lanesGo : Nat → L4 → List Nat → L4 × List Nat
  | 0, l, b => (l, b)
  | n + 1, l, b => if b.length < 32 then (l, b) else lanesGo n (roundL l b) (b.drop 32)
def lanes0 (seed : Int) : L4 := (wr64 (wr64 (seed + 11400714785074694791) + 14029467366897019727), wr64 (seed + 14029467366897019727), seed, wr64 (seed - 11400714785074694791))
def mixL (l : L4) : Int := wr64 (wr64 (wr64 (rotI l.1 1 + rotI l.2.1 7) + rotI l.2.2.1 12) + rotI l.2.2.2 18)
def foldL (h x : Int) : Int := wr64 (wr64 (xorI h (stirI 0 x) * 11400714785074694791) + 9650029242287828579)
def beginI (seed : Int) (b : List Nat) : Int × List Nat :=
  if b.length < 32 then (wr64 (seed + 2870177450012600261), b)
  else (foldL (foldL (foldL (foldL (mixL (lanesGo b.length (lanes0 seed) b).1) (lanesGo b.length (lanes0 seed) b).1.1) (lanesGo b.length (lanes0 seed) b).1.2.1) (lanesGo b.length (lanes0 seed) b).1.2.2.1) (lanesGo b.length (lanes0 seed) b).1.2.2.2, (lanesGo b.length (lanes0 seed) b).2)
theorem lanesGo_len : ∀ (n : Nat) (l : L4) (b : List Nat), (lanesGo n l b).2.length ≤ b.length
  | 0, _, _ => Nat.le_refl _
  | n + 1, l, b => by
    simp only [lanesGo]
    split
    · exact Nat.le_refl _
    · have := lanesGo_len n (roundL l b) (b.drop 32)
      simp only [List.length_drop] at this
      omega
theorem beginI_len (seed : Int) (b : List Nat) : (beginI seed b).2.length ≤ b.length := by
  unfold beginI
  split
  · exact Nat.le_refl _
  · exact lanesGo_len _ _ _
def step8 (h : Int) (b : List Nat) : Int := wr64 (wr64 (rotI (xorI h (stirI 0 (leN (b.take 8) : Nat))) 27 * 11400714785074694791) + 9650029242287828579)
def go8 : Nat → Int → List Nat → Int × List Nat
  | 0, h, b => (h, b)
  | n + 1, h, b => if b.length < 8 then (h, b) else go8 n (step8 h b) (b.drop 8)
def step4 (h : Int) (b : List Nat) : Int := wr64 (wr64 (rotI (xorI h (wr64 ((leN (b.take 4) : Nat) * 11400714785074694791))) 23 * 14029467366897019727) + 1609587929392839161)
def go4 (h : Int) (b : List Nat) : Int × List Nat := if b.length < 4 then (h, b) else (step4 h b, b.drop 4)
def step1 (h : Int) (c : Nat) : Int := wr64 (rotI (xorI h (wr64 ((c : Int) * 2870177450012600261))) 11 * 11400714785074694791)
def go1 (h : Int) (b : List Nat) : Int := b.foldl step1 h
def lastI (h : Int) : Int :=
  let h1 := wr64 (xorI h (h / 8589934592) * 14029467366897019727)
  let h2 := wr64 (xorI h1 (h1 / 536870912) * 1609587929392839161)
  xorI h2 (h2 / 4294967296)
def sumI (seed : Int) (b : List Nat) : Int :=
  let p := beginI seed b
  let q := go8 b.length (wr64 (p.1 + b.length)) p.2
  let r := go4 q.1 q.2
  lastI (go1 r.1 r.2)

end Mg
end Go.Proofs.YtloopkmmpfghfaaGreat

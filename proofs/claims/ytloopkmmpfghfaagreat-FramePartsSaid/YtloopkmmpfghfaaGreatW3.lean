/-
  More words: bytes as strings; one block that may have changed.
-/
import Derived.Test.YtloopkmmpfghfaaGreatW2
import Derived.Test.YtloopkmmpfghfaaGreatShelf
namespace Go.Proofs.YtloopkmmpfghfaaGreat
open Go.RowKit

def ints (xs : List Nat) : List Int := xs.map fun (x : Nat) => (x : Int)
/-- Bytes as a string. -/
def strN (xs : List Nat) : ByteArray := strOfNums (ints xs)

theorem rdB_in {w : World} {B n : Nat} {A : Option Addr} {xs : List Nat} (h : RdB w B A n xs) : Lib.BytesIn w A n (ints xs) := by
  rcases Nat.eq_zero_or_pos n with rfl | hn
  · exact Lib.BytesIn.nil _ _ _
  · obtain ⟨ad, rfl, _, hc⟩ := h.rd.2.2 hn
    refine Lib.BytesIn.of_cells fun i hi => hc i _ ?_
    have hl := h.len
    simp [u8s, ints, List.getD_eq_getElem?_getD, List.getElem?_eq_getElem (show i < xs.length by omega)]

theorem ints_len (xs : List Nat) : (ints xs).length = xs.length := by simp [ints]

/-- 'string(b)'. -/
theorem conv_str {w : World} {B n : Nat} {A : Option Addr} {xs : List Nat} (h : RdB w B A n xs) (c : Nat) :
    (convert 22 9 (.slice A n c)).run Tryz.prog w = .ok (.string (strN xs)) w :=
  Lib.BytesIn.convert (rdB_in h) (by rw [ints_len, h.len]) c 22 5 9 Tryz.underlying22 Tryz.underlying5 Tryz.underlying9

theorem u8_inj {x y : Nat} (hx : x < 256) (hy : y < 256) (h : UInt8.ofNat x = UInt8.ofNat y) : x = y := by
  have := congrArg UInt8.toNat h
  simpa [UInt8.toNat_ofNat', Nat.mod_eq_of_lt hx, Nat.mod_eq_of_lt hy] using this

theorem bytesOf_inj : ∀ {xs ys : List Nat}, (∀ x ∈ xs, x < 256) → (∀ y ∈ ys, y < 256) → Lib.bytesOf (ints xs) = Lib.bytesOf (ints ys) → xs = ys
  | [], [], _, _, _ => rfl
  | [], y :: ys, _, _, h => by simp [Lib.bytesOf, ints] at h
  | x :: xs, [], _, _, h => by simp [Lib.bytesOf, ints] at h
  | x :: xs, y :: ys, hx, hy, h => by
    simp only [Lib.bytesOf, ints, List.map_cons, List.cons.injEq, Int.toNat_natCast] at h
    rw [u8_inj (hx x List.mem_cons_self) (hy y List.mem_cons_self) h.1,
      bytesOf_inj (fun z hz => hx z (List.mem_cons_of_mem _ hz)) (fun z hz => hy z (List.mem_cons_of_mem _ hz)) (by simpa [Lib.bytesOf, ints] using h.2)]

theorem bytesOf_eq {xs ys : List Nat} (hx : ∀ x ∈ xs, x < 256) (hy : ∀ y ∈ ys, y < 256) : (Lib.bytesOf (ints xs) == Lib.bytesOf (ints ys)) = (xs == ys) := by
  by_cases h : xs = ys
  · subst h; simp
  · have h' : ¬ Lib.bytesOf (ints xs) = Lib.bytesOf (ints ys) := fun e => h (bytesOf_inj hx hy e)
    rw [beq_eq_false_iff_ne.2 h, beq_eq_false_iff_ne.2 h']

theorem bytesOf_prefix : ∀ {xs ys : List Nat}, (∀ x ∈ xs, x < 256) → (∀ y ∈ ys, y < 256) → Lib.hasPrefix (Lib.bytesOf (ints xs)) (Lib.bytesOf (ints ys)) = ys.isPrefixOf xs
  | xs, [], _, _ => by simp [Lib.hasPrefix, Lib.bytesOf, ints]
  | [], y :: ys, _, _ => by simp [Lib.hasPrefix, Lib.bytesOf, ints]
  | x :: xs, y :: ys, hx, hy => by
    have ih := bytesOf_prefix (fun z hz => hx z (List.mem_cons_of_mem _ hz)) fun z hz => hy z (List.mem_cons_of_mem _ hz)
    simp only [Lib.hasPrefix, Lib.bytesOf, ints, List.map_cons, Int.toNat_natCast, List.isPrefixOf_cons_cons] at ih ⊢
    have ih' : (List.map (fun n => UInt8.ofNat n.toNat) (List.map (fun (x : Nat) => (x : Int)) ys)).isPrefixOf (List.map (fun n => UInt8.ofNat n.toNat) (List.map (fun (x : Nat) => (x : Int)) xs)) = ys.isPrefixOf xs := ih
    rw [ih']
    congr 1
    by_cases e : y = x
    · subst e; simp
    · have : ¬ UInt8.ofNat y = UInt8.ofNat x := fun h => e (u8_inj (hy y List.mem_cons_self) (hx x List.mem_cons_self) h)
      rw [beq_eq_false_iff_ne.2 e, beq_eq_false_iff_ne.2 this]

def eqB (xs ys : List Nat) : Bool := xs == ys
def preB (xs ys : List Nat) : Bool := ys.isPrefixOf xs

theorem bequal_any {B : Nat} (A1 A2 : Option Addr) (n m c d : Nat) (xs ys : List Nat) (w : World) (hx : RdB w B A1 n xs) (hy : RdB w B A2 m ys) :
    Calls Tryz.prog 57 #[.slice A1 n c, .slice A2 m d] w fun e w' => e = .returned (.bool (eqB xs ys)) ∧ w = w' :=
  (Tryz.bytes_Equal_all A1 A2 n c m d (ints xs) (ints ys) w (by rw [ints_len, hx.len]) (by rw [ints_len, hy.len]) (rdB_in hx) (rdB_in hy)).mono fun _ _ ⟨h1, h2⟩ => ⟨by rw [h1, bytesOf_eq hx.lt hy.lt]; rfl, h2.symm⟩

theorem hasPrefix_any {B : Nat} (A1 A2 : Option Addr) (n m c d : Nat) (xs ys : List Nat) (w : World) (hx : RdB w B A1 n xs) (hy : RdB w B A2 m ys) (hnc : n ≤ c) :
    Calls Tryz.prog 55 #[.slice A1 n c, .slice A2 m d] w fun e w' => e = .returned (.bool (preB xs ys)) ∧ w = w' :=
  (Tryz.bytes_HasPrefix_all A1 A2 n c m d (ints xs) (ints ys) w (by rw [ints_len, hx.len]) (by rw [ints_len, hy.len]) hnc (rdB_in hx) (rdB_in hy)).mono fun _ _ ⟨h1, h2⟩ => ⟨by rw [h1, bytesOf_prefix hx.lt hy.lt]; rfl, h2.symm⟩

/-! ### One block may have changed -/
section
variable {w w' : World} {g : Nat}
theorem upd_refl (w : World) (g : Nat) : w.grownBy w (some g) := World.grownBy.refl w _
theorem upd_trans {w1 w2 : World} (h1 : w.grownBy w1 (some g)) (h2 : w1.grownBy w2 (some g)) : w.grownBy w2 (some g) :=
  ⟨h2.os.trans h1.os, h2.tape.trans h1.tape, h2.output.trans h1.output, Nat.le_trans h1.size h2.size, fun k hk hne => (h2.block k (Nat.lt_of_lt_of_le hk h1.size) hne).trans (h1.block k hk hne)⟩
theorem upd_of_below (h : Below w.heap.size w w') : w.grownBy w' (some g) := ⟨h.os, h.tape, h.output, h.size, fun k hk _ => h.block k hk⟩
theorem upd_set (i : Nat) (u : Value) : w.grownBy (w.setCell ⟨g, i, none⟩ u) (some g) :=
  ⟨rfl, rfl, rfl, by simp, fun k _ hne => Below.heap_setCell w _ u k (fun e => hne (by rw [e]))⟩
theorem upd_below {B : Nat} (h : w.grownBy w' (some g)) (hB : B ≤ g) (hs : B ≤ w.heap.size) : Below B w w' :=
  ⟨h.os, h.tape, h.output, h.size, fun k hk => h.block k (by omega) (by intro e; injection e; omega)⟩
theorem RdB.upd {B n : Nat} {A : Option Addr} {xs : List Nat} (h : RdB w B A n xs) (hu : w.grownBy w' (some g)) (hB : B ≤ g) (hs : B ≤ w.heap.size) : RdB w' B A n xs := h.below (upd_below hu hB hs) (Nat.le_refl _)
theorem own_ne {B : Nat} {t : TypeId} {cs : Array Value} {v : Value} {xs : List Nat} (h : OwnU8 w B v xs) (hg : Blk w g t cs) (hne : 5 ≠ t) : v.ownBlock ≠ some g := by
  rcases h.2 with ⟨rfl, _⟩ | ⟨g', cap, cur, rfl, _, hh, _⟩
  · simp [Value.ownBlock]
  · intro he
    have : g' = g := by simpa [Value.ownBlock] using he
    subst this
    unfold Blk at hg
    rw [hh] at hg
    injection hg with hg
    injection hg with _ ht
    exact hne ht
theorem OwnU8.upd {B : Nat} {t : TypeId} {cs : Array Value} {v : Value} {xs : List Nat} (h : OwnU8 w B v xs) (hg : Blk w g t cs) (hne : 5 ≠ t) (hu : w.grownBy w' (some g)) : OwnU8 w' B v xs :=
  World.ownsRow.kept h hu (.inr (own_ne h hg hne))
end

end Go.Proofs.YtloopkmmpfghfaaGreat

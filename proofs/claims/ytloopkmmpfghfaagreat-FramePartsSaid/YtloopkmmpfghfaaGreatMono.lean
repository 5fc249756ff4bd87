/-
  A region that draws its order and holds calls that make memory: one step for each operation, in whatever order.
-/
import Derived.Test.YtloopkmmpfghfaaGreatW3
import Derived.Orders
namespace Go.Proofs.YtloopkmmpfghfaaGreat
open Go.RowKit

def monoB (ops : Array Oper) (pre : List Nat) (m : Nat) : Bool :=
  (List.range ops.size).all fun i =>
    match ops[i]? with
    | none => true
    | some o =>
      (o.after.all fun e => decide (e.on < i)) &&
      (match o.dst with
       | none => false
       | some d => decide (d < m) && !pre.contains d && ((List.range ops.size).all fun j => j == i || ((ops[j]?).bind (·.dst)) != some d)) &&
      ((o.looksAt ops).all fun d => pre.contains d || o.after.any fun e => Region.binds .any e && ((ops[e.on]?).bind (·.dst)) == some d)

structure MInv (ops : Array Oper) (pre : List Nat) (m : Nat) (S : Nat → Value → World → Prop) (w0 : World) (ds : List Deferred) (listed : Array Bool) (a : Act) (w : World) : Prop where
  size : a.tmps.size = m
  defers : a.defers = ds
  below : Below w0.heap.size w0 w
  pre : ∀ d ∈ pre, S d (a.tmps.getD d undef) w
  got : ∀ i o d, ops[i]? = some o → listed.getD i false = true → o.dst = some d → S d (a.tmps.getD d undef) w
  lsize : listed.size = ops.size

/-- What one operation does, whenever it comes up. -/
def MStep (P : Program) (ops : Array Oper) (S : Nat → Value → World → Prop) (w0 : World) (Q : Exit → Act → World → Prop) (o : Oper) : Prop :=
  ∀ a w, Below w0.heap.size w0 w → (∀ d ∈ o.looksAt ops, S d (a.tmps.getD d undef) w) → ∀ (d : Nat), o.dst = some d →
    ∀ K : Act → World → Prop, (∀ v w', S d v w' → Below w.heap.size w w' → K (a.put (some d) v) w') →
      if Region.wanted o (yielded ops a.tmps) = true then o.wp P a w K Q else K (a.put o.dst undef) w

theorem filter_lt (i : Nat) (p q : Nat → Bool) (hp : p i = true) (hq : q i = false) (hle : ∀ j, q j = true → p j = true) : ∀ l : List Nat, i ∈ l → (l.filter q).length < (l.filter p).length := by
  have le : ∀ l : List Nat, (l.filter q).length ≤ (l.filter p).length := by
    intro l
    induction l with
    | nil => simp
    | cons x l ih =>
      by_cases hx : q x = true
      · simp [hx, hle x hx]; exact ih
      · by_cases hx' : p x = true
        · simp [hx, hx']; omega
        · simp [hx, hx']; exact ih
  intro l
  induction l with
  | nil => intro h; cases h
  | cons x l ih =>
    intro h
    by_cases hx : x = i
    · subst hx
      simp [hp, hq]
      have := le l
      omega
    · have hi : i ∈ l := by
        rcases List.mem_cons.1 h with h | h
        · exact absurd h.symm hx
        · exact h
      have := ih hi
      by_cases hx1 : q x = true
      · simp [hx1, hle x hx1]; exact this
      · by_cases hx' : p x = true
        · simp [hx1, hx']; omega
        · simp [hx1, hx']; exact this

theorem getD_set {l : Array Bool} {i j : Nat} (x : Bool) (hi : i < l.size) : (l.setIfInBounds i true).getD j x = if i = j then true else l.getD j x := by
  simp only [Array.getD_eq_getD_getElem?, Array.getElem?_setIfInBounds]
  by_cases h : i = j
  · subst h; simp [hi]
  · simp [h]

theorem put_getD {a : Act} {d d' : Nat} {v : Value} (hd : d < a.tmps.size) : (a.put (some d) v).tmps.getD d' undef = if d = d' then v else a.tmps.getD d' undef := by
  simp only [Act.put, Array.getD_eq_getD_getElem?, Array.getElem?_setIfInBounds]
  by_cases h : d = d'
  · subst h; simp [hd]
  · simp [h]

section
variable {P : Program} {ops : Array Oper} {pre : List Nat} {m : Nat} {S : Nat → Value → World → Prop} {w0 : World} {ds : List Deferred} {Q : Exit → Act → World → Prop}

theorem all_listed (hB : monoB ops pre m = true) (listed : Array Bool) (hl : listed.size = ops.size) (hr : Region.ready .any ops listed = []) : ∀ i, i < ops.size → listed.getD i false = true := by
  intro i
  induction i using Nat.strongRecOn with
  | _ i ih =>
    intro hi
    by_cases h : listed.getD i false = true
    · exact h
    · exfalso
      have hnot : listed.getD i true = false := by
        simp only [Array.getD_eq_getD_getElem?, Array.getElem?_eq_getElem (show i < listed.size by omega)] at h ⊢
        simpa using h
      have hm : i ∈ Region.ready .any ops listed := by
        unfold Region.ready
        refine List.mem_filter.2 ⟨List.mem_range.2 hi, ?_⟩
        rw [hnot]
        have ho : ops[i]? = some ops[i] := Array.getElem?_eq_getElem hi
        rw [ho]
        simp only [Bool.not_false, Bool.true_and, Option.map_some, Option.getD_some, Array.all_eq_true, Bool.or_eq_true, Bool.not_eq_true']
        intro k hk
        right
        have hb := (List.all_eq_true.1 hB) i (List.mem_range.2 hi)
        rw [ho] at hb
        simp only [Bool.and_eq_true] at hb
        have hon := (Array.all_eq_true.1 hb.1.1) k hk
        simp only [decide_eq_true_eq] at hon
        exact ih _ hon (by omega)
      rw [hr] at hm
      cases hm

theorem wpAny_mono (hB : monoB ops pre m = true) (hmono : ∀ d v w w', S d v w → Below w.heap.size w w' → S d v w') (hs : ∀ o ∈ ops.toList, MStep P ops S w0 Q o)
    (hQ : ∀ a w, a.tmps.size = m → a.defers = ds → Below w0.heap.size w0 w → (∀ o ∈ ops.toList, ∀ d, o.dst = some d → S d (a.tmps.getD d undef) w) → Q .normal a w) :
    ∀ fuel listed a w, MInv ops pre m S w0 ds listed a w → ((List.range ops.size).filter fun i => !listed.getD i true).length ≤ fuel → wpAny P .any ops Q fuel listed a w := by
  have hend : ∀ listed a w, MInv ops pre m S w0 ds listed a w → Region.ready .any ops listed = [] → Q .normal a w := by
    intro listed a w inv hr
    refine hQ a w inv.size inv.defers inv.below fun o ho d hd => ?_
    obtain ⟨i, hi, rfl⟩ := List.getElem_of_mem ho
    have hi' : i < ops.size := by simpa using hi
    exact inv.got i _ d (by simp [hi']) (all_listed hB listed inv.lsize hr i hi') hd
  intro fuel
  induction fuel with
  | zero =>
    intro listed a w inv hf
    have hnil : (List.range ops.size).filter (fun i => !listed.getD i true) = [] := List.eq_nil_of_length_eq_zero (by omega)
    have hr : Region.ready .any ops listed = [] := by
      unfold Region.ready
      refine List.filter_eq_nil_iff.2 fun i hi => ?_
      have := List.filter_eq_nil_iff.1 hnil i hi
      simp only [Bool.not_eq_true, Bool.not_eq_false'] at this
      simp [this]
    exact ⟨hr, hend listed a w inv hr⟩
  | succ fuel ih =>
    intro listed a w inv hf
    refine ⟨hend listed a w inv, fun i hi => ?_⟩
    have hready := hi
    unfold Region.ready at hi
    obtain ⟨hi0, hi1⟩ := List.mem_filter.1 hi
    have hi0 := List.mem_range.1 hi0
    have ho : ops[i]? = some ops[i] := Array.getElem?_eq_getElem hi0
    rw [ho] at hi1
    simp only [Option.map_some, Option.getD_some, Bool.and_eq_true, Bool.not_eq_true', Array.all_eq_true, Bool.or_eq_true] at hi1
    obtain ⟨hun, haf⟩ := hi1
    have hb := (List.all_eq_true.1 hB) i (List.mem_range.2 hi0)
    rw [ho] at hb
    simp only [Bool.and_eq_true] at hb
    obtain ⟨⟨hb1, hb2⟩, hb3⟩ := hb
    generalize hoi : ops[i] = o at *
    have hmem : o ∈ ops.toList := by rw [← hoi]; simp
    cases hd : o.dst with
    | none => rw [hd] at hb2; simp at hb2
    | some d =>
      rw [hd] at hb2
      simp only [Bool.and_eq_true, decide_eq_true_eq, Bool.not_eq_true'] at hb2
      obtain ⟨⟨hdm, hdp⟩, hdo⟩ := hb2
      have hlook : ∀ d' ∈ o.looksAt ops, S d' (a.tmps.getD d' undef) w := by
        intro d' hd'
        have h1 := (List.all_eq_true.1 hb3) d' hd'
        simp only [Bool.or_eq_true] at h1
        rcases h1 with h1 | h1
        · exact inv.pre d' (by simpa using h1)
        · obtain ⟨k, hk, h2⟩ := Array.any_eq_true.1 h1
          simp only [Bool.and_eq_true, beq_iff_eq] at h2
          have h3 := haf k hk
          rw [h2.1] at h3
          simp only [Bool.true_eq_false, false_or] at h3
          cases hoo : ops[(o.after[k]).on]? with
          | none => rw [hoo] at h2; simp at h2
          | some oo =>
            rw [hoo] at h2
            exact inv.got _ oo d' hoo h3 (by simpa using h2.2)
      have hst := hs o hmem a w inv.below hlook d hd (wpAny P .any ops Q fuel (listed.setIfInBounds i true)) (by
        intro v w' hS hbel
        refine ih _ _ _ ⟨by simp [Act.put, inv.size], by simp [Act.put, inv.defers], inv.below.trans (hbel.mono inv.below.size), ?_, ?_, by simp [inv.lsize]⟩ ?_
        · intro d' hd'
          rw [put_getD (by rw [inv.size]; exact hdm)]
          split
          · rename_i e; subst e; exact hS
          · exact hmono _ _ _ _ (inv.pre d' hd') hbel
        · intro j oj d' hoj hlj hdj
          rw [put_getD (by rw [inv.size]; exact hdm)]
          split
          · rename_i e; subst e; exact hS
          · rename_i hne
            rw [getD_set false (by rw [inv.lsize]; exact hi0)] at hlj
            split at hlj
            · rename_i e
              subst e
              rw [ho] at hoj
              injection hoj with hoj
              subst hoj
              rw [hd] at hdj
              injection hdj with hdj
              exact absurd hdj hne
            · exact hmono _ _ _ _ (inv.got j oj d' hoj hlj hdj) hbel
        · have hlt := filter_lt i (fun j => !listed.getD j true) (fun j => !(listed.setIfInBounds i true).getD j true) (by simp [hun]) (by
              simp only [Bool.not_eq_false']
              rw [getD_set true (by rw [inv.lsize]; exact hi0)]; simp) (by
              intro j hj
              simp only [Bool.not_eq_true'] at hj ⊢
              rw [getD_set true (by rw [inv.lsize]; exact hi0)] at hj
              split at hj
              · cases hj
              · exact hj) (List.range ops.size) (List.mem_range.2 hi0)
          omega)
      unfold wpOp
      rw [ho]
      simp only
      split
      · rename_i hw
        rw [if_pos hw] at hst
        exact .inl hst
      · rename_i hw
        rw [if_neg hw] at hst
        exact hst

theorem wp_region_mono {id : Nat} {a : Act} {w : World} {l : List Oper} (pre : List Nat) (S : Nat → Value → World → Prop) (hm : P.follows .mixedOrders = true) (hB : monoB l.toArray pre a.tmps.size = true)
    (hmono : ∀ d v w w', S d v w → Below w.heap.size w w' → S d v w') (hpre : ∀ d ∈ pre, S d (a.tmps.getD d undef) w.drew) (hs : ∀ o ∈ l, MStep P l.toArray S w.drew Q o)
    (hQ : ∀ a' w', a'.tmps.size = a.tmps.size → a'.defers = a.defers → Below w.drew.heap.size w.drew w' → (∀ o ∈ l, ∀ d, o.dst = some d → S d (a'.tmps.getD d undef) w') → Q .normal a' w') :
    (Code.region id l.toArray true).wp P Q a w := by
  refine wp_region_any hm ?_
  refine wpAny_mono (m := a.tmps.size) (ds := a.defers) (w0 := w.drew) (S := S) (pre := pre) hB hmono (by simpa using hs) (by simpa using hQ) _ _ _ _ ⟨rfl, rfl, Below.refl _ _, hpre, ?_, by simp⟩ ?_
  · intro i o d ho hl
    simp [Array.getD_eq_getD_getElem?, Array.getElem?_replicate] at hl
    split at hl <;> simp at hl
  · exact Nat.le_trans (List.length_filter_le _ _) (by simp)
end

end Go.Proofs.YtloopkmmpfghfaaGreat

/- Part 31 of the proof that this seat's laws lean on: an abstract machine over the model's code, its soundness, and what it says of this program. -/
import Derived.Test.YticeaojhadjaaaaGreatDoorAxA

section
set_option linter.unusedSimpArgs false
/-! Which truths a comparison takes over an interval. -/
set_option autoImplicit false
set_option linter.unusedVariables false
namespace Go.Ab

/-- A comparison. -/
def tOp (o : Nat) (i n : Int) : Bool :=
  match o with
  | 0 => decide (i = n)
  | 1 => decide (i < n)
  | 2 => decide (i ≤ n)
  | 3 => decide (i > n)
  | _ => decide (i ≥ n)

/-- Does some int of so many hold? -/
def anyI (p : Int → Bool) (i : Int) : Nat → Bool
  | 0 => false
  | m + 1 => p i || anyI p (i + 1) m

theorem anyI_iff (p : Int → Bool) : ∀ (m : Nat) (i : Int), anyI p i m = true ↔ ∃ j, i ≤ j ∧ j < i + m ∧ p j = true
  | 0, i => by
    simp only [anyI]
    constructor
    · intro h; cases h
    · rintro ⟨j, h1, h2, _⟩; omega
  | m + 1, i => by
    simp only [anyI, Bool.or_eq_true, anyI_iff p m (i + 1)]
    constructor
    · rintro (h | ⟨j, h1, h2, h3⟩)
      · exact ⟨i, by omega, by omega, h⟩
      · exact ⟨j, by omega, by omega, h3⟩
    · rintro ⟨j, h1, h2, h3⟩
      by_cases e : j = i
      · subst e; exact .inl h3
      · exact .inr ⟨j, by omega, by omega, h3⟩

/-- What the zone says: can it be true, can it be false? -/
def zT (o : Nat) (low high n : Int) : Bool :=
  if low = high then tOp o low n else
  match o with
  | 0 => decide (¬ high < n) && decide (¬ n < low)
  | 1 => decide (low < n)
  | 2 => decide (¬ n < low)
  | 3 => decide (n < high)
  | _ => decide (¬ high < n)
def zF (o : Nat) (low high n : Int) : Bool :=
  if low = high then !(tOp o low n) else
  match o with
  | 0 => true
  | 1 => decide (¬ high < n)
  | 2 => decide (n < high)
  | 3 => decide (¬ n < low)
  | _ => decide (low < n)

theorem anyI_eq {p : Int → Bool} {m : Nat} {i : Int} {b : Bool} (h : (∃ j, i ≤ j ∧ j < i + m ∧ p j = true) ↔ b = true) : anyI p i m = b := by
  rw [Bool.eq_iff_iff, anyI_iff]; exact h

theorem exact_t (o : Nat) (low n : Int) (w : Nat) : anyI (fun i => tOp o i n) low (w + 1) = zT o low (low + w) n := by
  apply anyI_eq
  unfold zT
  by_cases hw : low = low + w
  · rw [if_pos hw]
    constructor
    · rintro ⟨j, h1, h2, h3⟩
      have : j = low := by omega
      subst this; exact h3
    · intro h; exact ⟨low, by omega, by omega, h⟩
  · rw [if_neg hw]
    match o with
    | 0 =>
      simp only [tOp, decide_eq_true_eq, Bool.and_eq_true]
      constructor
      · rintro ⟨j, h1, h2, h3⟩; omega
      · intro h; exact ⟨n, by omega, by omega, rfl⟩
    | 1 =>
      simp only [tOp, decide_eq_true_eq]
      constructor
      · rintro ⟨j, h1, h2, h3⟩; omega
      · intro h; exact ⟨low, by omega, by omega, h⟩
    | 2 =>
      simp only [tOp, decide_eq_true_eq]
      constructor
      · rintro ⟨j, h1, h2, h3⟩; omega
      · intro h; exact ⟨low, by omega, by omega, by omega⟩
    | 3 =>
      simp only [tOp, decide_eq_true_eq]
      constructor
      · rintro ⟨j, h1, h2, h3⟩; omega
      · intro h; exact ⟨low + w, by omega, by omega, by omega⟩
    | _ + 4 =>
      simp only [tOp, decide_eq_true_eq]
      constructor
      · rintro ⟨j, h1, h2, h3⟩; omega
      · intro h; exact ⟨low + w, by omega, by omega, by omega⟩

theorem exact_f (o : Nat) (low n : Int) (w : Nat) : anyI (fun i => !(tOp o i n)) low (w + 1) = zF o low (low + w) n := by
  apply anyI_eq
  unfold zF
  by_cases hw : low = low + w
  · rw [if_pos hw]
    constructor
    · rintro ⟨j, h1, h2, h3⟩
      have : j = low := by omega
      subst this; exact h3
    · intro h; exact ⟨low, by omega, by omega, h⟩
  · rw [if_neg hw]
    match o with
    | 0 =>
      simp only [tOp, Bool.not_eq_true', decide_eq_false_iff_not, iff_true]
      by_cases h : low = n
      · exact ⟨low + 1, by omega, by omega, by omega⟩
      · exact ⟨low, by omega, by omega, by omega⟩
    | 1 =>
      simp only [tOp, decide_eq_true_eq, Bool.not_eq_true', decide_eq_false_iff_not]
      constructor
      · rintro ⟨j, h1, h2, h3⟩; omega
      · intro h; exact ⟨low + w, by omega, by omega, by omega⟩
    | 2 =>
      simp only [tOp, decide_eq_true_eq, Bool.not_eq_true', decide_eq_false_iff_not]
      constructor
      · rintro ⟨j, h1, h2, h3⟩; omega
      · intro h; exact ⟨low + w, by omega, by omega, by omega⟩
    | 3 =>
      simp only [tOp, decide_eq_true_eq, Bool.not_eq_true', decide_eq_false_iff_not]
      constructor
      · rintro ⟨j, h1, h2, h3⟩; omega
      · intro h; exact ⟨low, by omega, by omega, by omega⟩
    | _ + 4 =>
      simp only [tOp, decide_eq_true_eq, Bool.not_eq_true', decide_eq_false_iff_not]
      constructor
      · rintro ⟨j, h1, h2, h3⟩; omega
      · intro h; exact ⟨low, by omega, by omega, by omega⟩
end Go.Ab
end

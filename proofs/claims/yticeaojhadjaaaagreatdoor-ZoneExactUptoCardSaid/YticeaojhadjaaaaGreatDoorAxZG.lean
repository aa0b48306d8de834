/- Part 33 of the proof that this seat's laws lean on: an abstract machine over the model's code, its soundness, and what it says of this program. -/
import Derived.Test.YticeaojhadjaaaaGreatDoorAxT
import Derived.Test.YticeaojhadjaaaaGreatDoorAxZF

section
set_option linter.unusedSimpArgs false
/-! ZoneExact: the arguments as they are read. -/
set_option autoImplicit false
set_option linter.unusedVariables false
namespace Go.Ab

/-- An int's argument. -/
theorem int_arg {N : Nat} {R : Rdr} {x : AV} {v : Value} {t : TypeId} {k : IntKind} (hk : (tb.T t).kind = .int k) (hc : (tb.T t).cells = [t]) (h : ArgOk tb.T R N t x v) : ∃ n, x = .d (.int k n) ∧ k.min ≤ n ∧ n ≤ k.max := by
  rcases h with ⟨h, _⟩ | ⟨_, d, rfl, h⟩
  · rw [hk] at h; cases h
  · rw [hc] at h
    obtain ⟨⟨_, hw, hs⟩, _⟩ := h
    rw [hk] at hw
    cases hs with
    | int k' n hn =>
      have : k = k' := hw
      subst this
      exact ⟨n, rfl, hn⟩
    | bool b => exact hw.elim
    | str s h => exact hw.elim
    | lst e rows h hr => exact hw.elim

theorem exact_sem {N : Nat} {R : Rdr} {xs : List AV} {vs : List Value} (h : ArgsOk tb.T R N [3, 5, 5, 3] xs vs) : tb.sem (.call 4 xs []) = some (.ret false [4] [.bool true] []) := by
  have k3 : (tb.T 3).kind = .int .i64 := by kernel_rfl
  have c3 : (tb.T 3).cells = [3] := by kernel_rfl
  have k5 : (tb.T 5).kind = .int .u8 := by kernel_rfl
  have c5 : (tb.T 5).cells = [5] := by kernel_rfl
  match xs, vs, h with
  | [x0, x1, x2, x3], [v0, v1, v2, v3], h =>
    obtain ⟨n0, rfl, p0⟩ := int_arg k3 c3 h.1
    obtain ⟨n1, rfl, p1⟩ := int_arg k5 c5 h.2.1
    obtain ⟨n2, rfl, p2⟩ := int_arg k5 c5 h.2.2.1
    obtain ⟨n3, rfl, p3⟩ := int_arg k3 c3 h.2.2.2.1
    have a0 : (IntKind.i64).min = -9223372036854775808 := by decide
    have b0 : (IntKind.i64).max = 9223372036854775807 := by decide
    have a1 : (IntKind.u8).min = 0 := by decide
    have b1 : (IntKind.u8).max = 255 := by decide
    rw [a0, b0] at p0
    rw [a1, b1] at p1 p2
    exact zone_exact n0 n1 n2 n3 p1.1 p1.2 p2.1 p2.2 p0.1 (by omega)
  | [], _, h => exact h.elim
  | [_], [], h => exact h.elim
  | [_], [_], h => exact h.2.elim
  | [_], _ :: _ :: _, h => exact h.2.elim
  | [_, _], [], h => exact h.elim
  | [_, _], [_], h => exact h.2.elim
  | [_, _], [_, _], h => exact h.2.2.elim
  | [_, _], _ :: _ :: _ :: _, h => exact h.2.2.elim
  | [_, _, _], [], h => exact h.elim
  | [_, _, _], [_], h => exact h.2.elim
  | [_, _, _], [_, _], h => exact h.2.2.elim
  | [_, _, _], [_, _, _], h => exact h.2.2.2.elim
  | [_, _, _], _ :: _ :: _ :: _ :: _, h => exact h.2.2.2.elim
  | _ :: _ :: _ :: _ :: _, [], h => exact h.elim
  | _ :: _ :: _ :: _ :: _, [_], h => exact h.2.elim
  | _ :: _ :: _ :: _ :: _, [_, _], h => exact h.2.2.elim
  | _ :: _ :: _ :: _ :: _, [_, _, _], h => exact h.2.2.2.elim
  | _ :: _ :: _ :: _ :: _ :: _, [_, _, _, _], h => exact h.2.2.2.2.elim
  | [_, _, _, _], _ :: _ :: _ :: _ :: _ :: _, h => exact h.2.2.2.2.elim
  | _ :: _ :: _ :: _ :: _ :: _, _ :: _ :: _ :: _ :: _ :: _, h => exact h.2.2.2.2.elim
end Go.Ab
end

/- Part 23 of the proof that this seat's laws lean on: an abstract machine over the model's code, its soundness, and what it says of this program. -/
import Derived.Test.YticeaojhadjaaaaGreatDoorAbP
import Derived.Test.YticeaojhadjaaaaGreatDoorAbT

section
set_option linter.unusedSimpArgs false
/-! ZoneChecks, from its arguments on. -/
set_option autoImplicit false
set_option linter.unusedVariables false
set_option maxRecDepth 100000
namespace Go.Ab
open Go.Proofs

theorem smVs_of : ∀ {l : List V}, (∀ v ∈ l, smV v) → smVs l
  | [], _ => trivial
  | v :: l, h => ⟨h v List.mem_cons_self, smVs_of fun x hx => h x (List.mem_cons_of_mem _ hx)⟩

theorem getD_small {N : Nat} {r : List Dat} (h : ∀ d ∈ r, Small N d) (i : Nat) : Small N (r.getD i .nilP) ∨ r.getD i .nilP = .nilP := by
  by_cases hi : i < r.length
  · left
    rw [List.getD_eq_getElem?_getD, List.getElem?_eq_getElem hi]
    exact h _ (List.getElem_mem hi)
  · right
    rw [List.getD_eq_getElem?_getD, List.getElem?_eq_none (by omega)]
    rfl
theorem small_len {N : Nat} {d : Dat} (h : Small N d ∨ d = .nilP) : d.l.length ≤ N ∧ d.s.length ≤ N := by
  rcases h with h | rfl
  · cases h <;> simp_all [Dat.l, Dat.s]
  · simp [Dat.l, Dat.s]

theorem small_vs {N : Nat} (hN : N < 4611686018427387904) {d : Dat} (h : Small N d) : smVs (dvRs d.l) := by
  induction h with
  | int k n => trivial
  | bool b => trivial
  | str s h => trivial
  | lst e rows h hr ih =>
    show smVs (dvRs rows)
    rw [dvRs_map]
    refine smVs_of fun v hv => ?_
    obtain ⟨r, hr', rfl⟩ := List.mem_map.1 hv
    refine ⟨?_, ?_⟩
    · rw [dKs_len]
      have := (small_len (getD_small (hr r hr') 4)).1
      omega
    · by_cases hi : 3 < r.length
      · rw [List.getD_eq_getElem?_getD, List.getElem?_eq_getElem hi]
        exact ih r hr' _ (List.getElem_mem hi)
      · rw [List.getD_eq_getElem?_getD, List.getElem?_eq_none (by omega)]
        trivial

theorem small_at {N : Nat} (hN : N < 4611686018427387904) {r : List Dat} (h : ∀ d ∈ r, Small N d) (a b c d e : Nat) : smV (vAt r a b c d e) := by
  refine ⟨?_, ?_⟩
  · rw [dKs_len]
    have := (small_len (getD_small h e)).1
    omega
  · rcases getD_small h d with hd | hd
    · exact small_vs hN hd
    · rw [hd]; trivial

/-- A head's cells. -/
theorem head_cells {N : Nat} {R : Rdr} {x : AV} {v : Value} (h : ArgOk tb.T R N 26 x v) :
    ∃ l0 n1 n2 n3 l4 l5, x = .agg [.d (.lst 83 l0), .d (.int .i64 n1), .d (.int .i64 n2), .d (.int .i64 n3), .d (.lst 43 l4), .d (.lst 86 l5)] ∧ Small N (.lst 83 l0) ∧ Small N (.lst 43 l4) ∧ Small N (.lst 86 l5) := by
  have hk : (tb.T 26).kind = .struct := by kernel_rfl
  have hc : (tb.T 26).cells = [22, 3, 3, 3, 23, 24] := by kernel_rfl
  have k22 : (tb.T 22).kind = .slice 83 := by kernel_rfl
  have k23 : (tb.T 23).kind = .slice 43 := by kernel_rfl
  have k24 : (tb.T 24).kind = .slice 86 := by kernel_rfl
  have k3 : (tb.T 3).kind = .int .i64 := by kernel_rfl
  rcases h with ⟨_, ds, vs, rfl, rfl, h⟩ | ⟨h, _⟩
  · rw [hc] at h
    have hs := h.small
    have hl := h.len.1
    match ds, hl with
    | [d0, d1, d2, d3, d4, d5], _ =>
      have w := fun j hj => (h.at j hj).2.1
      have w0 : WT (tb.T 22).kind d0 := w 0 (by simp)
      have w1 : WT (tb.T 3).kind d1 := w 1 (by simp)
      have w2 : WT (tb.T 3).kind d2 := w 2 (by simp)
      have w3 : WT (tb.T 3).kind d3 := w 3 (by simp)
      have w4 : WT (tb.T 23).kind d4 := w 4 (by simp)
      have w5 : WT (tb.T 24).kind d5 := w 5 (by simp)
      rw [k22] at w0
      rw [k3] at w1 w2 w3
      rw [k23] at w4
      rw [k24] at w5
      cases d0 <;> simp only [WT] at w0
      cases d1 <;> simp only [WT] at w1
      cases d2 <;> simp only [WT] at w2
      cases d3 <;> simp only [WT] at w3
      cases d4 <;> simp only [WT] at w4
      cases d5 <;> simp only [WT] at w5
      subst w0; subst w1; subst w2; subst w3; subst w4; subst w5
      exact ⟨_, _, _, _, _, _, rfl, hs _ (by simp), hs _ (by simp), hs _ (by simp)⟩
  · rw [hk] at h; cases h

theorem small_head {N : Nat} (hN : N < 1000000000) {l0 l4 l5 : List (List Dat)} (h0 : Small N (.lst 83 l0)) (h4 : Small N (.lst 43 l4)) (h5 : Small N (.lst 86 l5)) : smH l0 l4 l5 := by
  cases h0 with
  | lst _ _ q1 q2 => cases h4 with
    | lst _ _ q3 q4 => cases h5 with
      | lst _ _ q5 q6 =>
        refine ⟨by omega, fun r hr => ?_, by omega, fun r hr => ⟨small_at (by omega) (q4 r hr) _ _ _ _ _, small_at (by omega) (q4 r hr) _ _ _ _ _⟩, by omega, fun r hr => ⟨small_at (by omega) (q6 r hr) _ _ _ _ _, small_at (by omega) (q6 r hr) _ _ _ _ _⟩⟩
        have := (small_len (getD_small (q2 r hr) 0)).2
        show ((r.getD 0 .nilP).s).length < _
        omega

theorem zone1_sem {N : Nat} (hN : N < 1000000000) {R : Rdr} {xs : List AV} {vs : List Value} (h : ArgsOk tb.T R N [26] xs vs) : tb.sem (.call 3 xs []) = some (.ret false [4] [.bool true] []) := by
  match xs, vs, h with
  | [x], [v], h =>
    obtain ⟨l0, n1, n2, n3, l4, l5, rfl, h0, h4, h5⟩ := head_cells h.1
    exact s3 l0 n1 n2 n3 l4 l5 (small_head hN h0 h4 h5)
  | [], _, h => exact h.elim
  | [_], [], h => exact h.elim
  | [_], _ :: _ :: _, h => exact h.2.elim
  | _ :: _ :: _, [], h => exact h.elim
  | _ :: _ :: _, _ :: _, h => exact absurd h.2 (by rintro h; cases ‹List Value› <;> exact h)
end Go.Ab
end

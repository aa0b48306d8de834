/- Part 37 of the proof that this seat's laws lean on: an abstract machine over the model's code, its soundness, and what it says of this program. -/
import Derived.Test.YticeaojhadjaaaaGreatDoorRows
import Derived.KernelRfl
import GoSem.ClaimGoes

section
set_option linter.unusedSimpArgs false
set_option linter.unusedVariables false
/-! No goroutine starts. -/
set_option autoImplicit false
set_option maxRecDepth 100000
namespace Go.Ab
open Go.Proofs

theorem goes_gen {P : Program} (h0 : P.funcs.any Func.goes = false) (c : OpenClaim) (h : c.start = .entering) : false = c.goesBy P := by
  have h1 : ∀ f, P.goes f = false := fun f => by
    unfold Program.goes
    rw [h0, Bool.and_false, Bool.or_false, List.any_eq_false]
    intro g _ hg
    cases hf : P.funcs[g]? with
    | none => rw [hf] at hg; cases hg
    | some fn =>
      rw [hf] at hg
      have hg' : fn.goes = true := hg
      have hm : fn ∈ P.funcs := Array.mem_of_getElem? hf
      have := Array.any_eq_false'.1 h0 fn hm
      exact this hg'
  unfold OpenClaim.goesBy Program.goesAt Program.goesFrom
  rw [h]
  cases P.funcNamed c.func with
  | none => rfl
  | some f => simp [h1 f]
theorem no_goes : Tryz.prog.funcs.any Func.goes = false := by kernel_rfl
theorem goes_false (c : OpenClaim) (h : c.start = .entering) : false = c.goesBy Tryz.prog := goes_gen no_goes c h
end Go.Ab
end

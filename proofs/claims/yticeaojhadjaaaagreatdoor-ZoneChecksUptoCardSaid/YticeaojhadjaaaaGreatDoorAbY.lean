/- THE LAW ZoneChecks: closing. -/
import Derived.Test.YticeaojhadjaaaaGreatDoorAbX

section
set_option linter.unusedSimpArgs false
/-! THE LAW ZoneChecks: closing. -/
set_option autoImplicit false
set_option linter.unusedVariables false
set_option maxRecDepth 100000
namespace Go.Proofs.YticeaojhadjaaaaGreatDoor
open Go.ChangeShapes Go.WideShapes Go.ChangeAt Go.RowKit

theorem z1contract (H : Type) (enc : TypeId × Value → H) (W : World) (base : Nat) (args : Array Value) (ds gs : List (DataW H)) (before : List MemPlace)
    (hval : ∀ (j : Nat) t v, Tryz.f3.params[j]? = some t → args[j]? = some v → Value.okWide Tryz.prog W .any base t v)
    (hW : DataW.Whole enc Tryz.prog Tryz.f3.params.toList Rows.zoneChecksSpec.vars false W args.toList ds gs before) (hk : Rows.uptoBulkAll (ds ++ gs) ≤ 1048576) :
    Calls Tryz.prog 3 args W fun e W' => ∃ v, e = .returned v ∧ Rows.zoneChecksSpec.post enc Tryz.prog Tryz.f3 false true false false W args v W' := by
  have hp : Tryz.f3.params = #[26] := by kernel_rfl
  have hr : Tryz.f3.resultTypes = #[4] := by kernel_rfl
  obtain ⟨d, rfl, rfl⟩ : ∃ d, ds = [d] ∧ gs = [] := by
    obtain ⟨p, q, h1, h2, _⟩ := hW
    rw [hp] at h1
    obtain ⟨rfl, _⟩ := trodVars_none h2
    obtain ⟨v, d, _, hd, _⟩ := trodAll_one h1
    exact ⟨d, hd, rfl⟩
  refine Go.Ab.law_calls (B := Go.Ab.tb) Go.Ab.tabOk Go.Ab.ok_kids Go.Ab.ok_full Go.Ab.ok_vt (fi := 3) (f := Tryz.f3) (s := Rows.zoneChecksSpec) (tb := 4) ?_ rfl (by kernel_rfl) (by kernel_rfl) hr Go.Ab.bulk_wt (N := 1048576) (r := .any) (base := base) rfl rfl rfl hval hW ?_ ?_
  · intro t ht
    rw [hp] at ht
    have : t = 26 := by simpa using ht
    subst this
    refine ⟨of_decide_eq_true (by kernel_rfl), ?_⟩
    show 26 ∈ Go.Ab.VL
    decide
  · intro x hx
    have := Go.Ab.bulk_le (l := [d] ++ []) (d := x) (by simpa using hx)
    omega
  · intro xs R h
    rw [hp] at h
    exact Go.Ab.zone1_sem (by omega) h

theorem z1lifted (os : Os) (started : os.Started) (H : Type) (enc : TypeId × Value → H) (F : Stop.Interp) :
    ReturnsInHanded {} Tryz.checked os 3 .any ((Rows.OpenSpec.upto Rows.zoneChecksSpec).preRow enc Tryz.prog Tryz.f3 Rows.zoneChecksUptoRow.domain false Rows.zoneChecksUptoRow.laid) (((Rows.OpenSpec.upto Rows.zoneChecksSpec).at F).post enc Tryz.prog Tryz.f3 false true false false) := by
  obtain ⟨places, hx⟩ := zReads os enc
  refine returnsInHanded_of_row (C := Tryz.checked) (s := Rows.OpenSpec.upto Rows.zoneChecksSpec) zown started (by kernel_rfl) Tryz.func3
    ⟨zWorld os, fun _ _ => 0, ⟨#[], #[noHead], []⟩, zWorld_os os, zShaped os, (Input.okWide_of_okWideB (base := 0) (zFits os)).1, (Input.okWide_of_okWideB (zFits os)).2,
      OpenSpec.preRow_of_cond 8 hx (by kernel_rfl) (fun k hk => by cases hk; kernel_rfl) (by kernel_rfl) (zMet os _), by
        simp only [Assume.holds]
        exact ⟨by simp, by simp, fun _ => Modest.zero, by simp, by simp⟩⟩ ?_
  intro W base args ds gs before hval hW _ hcond _ _ _ _
  exact z1contract H enc W base args ds gs before hval hW (of_decide_eq_true (hcond _ rfl))

end Go.Proofs.YticeaojhadjaaaaGreatDoor
end

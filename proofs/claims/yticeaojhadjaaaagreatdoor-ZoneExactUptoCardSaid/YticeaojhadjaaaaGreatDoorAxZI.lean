/- THE LAW ZoneExact: closing. -/
import Derived.Test.YticeaojhadjaaaaGreatDoorAxZH

section
set_option linter.unusedSimpArgs false
/-! THE LAW ZoneExact: closing. -/
set_option autoImplicit false
set_option linter.unusedVariables false
set_option maxRecDepth 100000
namespace Go.Proofs.YticeaojhadjaaaaGreatDoor
open Go.ChangeShapes Go.WideShapes Go.ChangeAt Go.RowKit

theorem xlen {H : Type} {enc : TypeId × Value → H} {P : Program} {w : World} {base : Nat} {sp : TypeId → Bool} {held : Bool} : ∀ {ts : List TypeId} {vs : List Value} {ds : List (DataW H)} {ps : List MemPlace}, DataW.TrodAll enc P w base sp held ts vs ds ps → ds.length = ts.length
  | [], [], [], _, _ => rfl
  | t :: ts, v :: vs, d :: ds, _, ⟨p, q, h1, h2, _⟩ => by simp [xlen h2]
  | [], _ :: _, _, _, h => h.elim
  | [], [], _ :: _, _, h => h.elim
  | _ :: _, [], _, _, h => h.elim
  | _ :: _, _ :: _, [], _, h => h.elim

theorem xcontract (H : Type) (enc : TypeId × Value → H) (W : World) (base : Nat) (args : Array Value) (ds gs : List (DataW H)) (before : List MemPlace)
    (hval : ∀ (j : Nat) t v, Tryz.f4.params[j]? = some t → args[j]? = some v → Value.okWide Tryz.prog W .any base t v)
    (hW : DataW.Whole enc Tryz.prog Tryz.f4.params.toList Rows.zoneExactSpec.vars false W args.toList ds gs before) (hk : Rows.uptoBulkAll (ds ++ gs) ≤ 1048576) :
    Calls Tryz.prog 4 args W fun e W' => ∃ v, e = .returned v ∧ Rows.zoneExactSpec.post enc Tryz.prog Tryz.f4 false true false false W args v W' := by
  have hp : Tryz.f4.params = #[3, 5, 5, 3] := by kernel_rfl
  have hr : Tryz.f4.resultTypes = #[4] := by kernel_rfl
  obtain ⟨d1, d2, d3, d4, rfl, rfl⟩ : ∃ d1 d2 d3 d4, ds = [d1, d2, d3, d4] ∧ gs = [] := by
    obtain ⟨p, q, h1, h2, _⟩ := hW
    rw [hp] at h1
    obtain ⟨rfl, _⟩ := trodVars_none h2
    have hl := xlen h1
    match ds, hl with
    | [a, b, c, d], _ => exact ⟨a, b, c, d, rfl, rfl⟩
  refine Go.Ab.law_calls (B := Go.Ab.tb) Go.Ab.tabOk Go.Ab.ok_kids Go.Ab.ok_full Go.Ab.ok_vt (fi := 4) (f := Tryz.f4) (s := Rows.zoneExactSpec) (tb := 4) ?_ rfl (by kernel_rfl) (by kernel_rfl) hr Go.Ab.bulk_wt (N := 1048576) (r := .any) (base := base) rfl rfl rfl hval hW ?_ ?_
  · intro t ht
    rw [hp] at ht
    have : t = 3 ∨ t = 5 := by
      have h : t = 3 ∨ t = 5 ∨ t = 5 ∨ t = 3 := by simpa using ht
      rcases h with h | h | h | h
      · exact .inl h
      · exact .inr h
      · exact .inr h
      · exact .inl h
    rcases this with rfl | rfl
    · refine ⟨of_decide_eq_true (by kernel_rfl), ?_⟩
      show 3 ∈ Go.Ab.VL
      decide
    · refine ⟨of_decide_eq_true (by kernel_rfl), ?_⟩
      show 5 ∈ Go.Ab.VL
      decide
  · intro x hx
    have := Go.Ab.bulk_le (l := [d1, d2, d3, d4] ++ []) (d := x) (by simpa using hx)
    omega
  · intro xs R h
    rw [hp] at h
    exact Go.Ab.exact_sem h

theorem xlifted (os : Os) (started : os.Started) (H : Type) (enc : TypeId × Value → H) (F : Stop.Interp) :
    ReturnsInHanded {} Tryz.checked os 4 .any ((Rows.OpenSpec.upto Rows.zoneExactSpec).preRow enc Tryz.prog Tryz.f4 Rows.zoneExactUptoRow.domain false Rows.zoneExactUptoRow.laid) (((Rows.OpenSpec.upto Rows.zoneExactSpec).at F).post enc Tryz.prog Tryz.f4 false true false false) := by
  obtain ⟨places, hx⟩ := xReads os enc
  refine returnsInHanded_of_row (C := Tryz.checked) (s := Rows.OpenSpec.upto Rows.zoneExactSpec) xown started (by kernel_rfl) Tryz.func4
    ⟨xWorld os, fun _ _ => 0, ⟨#[], noInts, []⟩, xWorld_os os, xShaped os, (Input.okWide_of_okWideB (base := 0) (xFits os)).1, (Input.okWide_of_okWideB (xFits os)).2,
      OpenSpec.preRow_of_cond 8 hx (by kernel_rfl) (fun k hk => by cases hk; kernel_rfl) (by kernel_rfl) (xMet os _), by
        simp only [Assume.holds]
        exact ⟨by simp, by simp, fun _ => Modest.zero, by simp, by simp⟩⟩ ?_
  intro W base args ds gs before hval hW _ hcond _ _ _ _
  exact xcontract H enc W base args ds gs before hval hW (of_decide_eq_true (hcond _ rfl))

end Go.Proofs.YticeaojhadjaaaaGreatDoor
end

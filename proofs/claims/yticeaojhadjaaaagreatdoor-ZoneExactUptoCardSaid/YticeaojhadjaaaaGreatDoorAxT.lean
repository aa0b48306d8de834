/- Part 20 of the proof that this seat's laws lean on: an abstract machine over the model's code, its soundness, and what it says of this program. -/
import Derived.Test.YticeaojhadjaaaaGreatDoorAxL
import Derived.Test.YticeaojhadjaaaaGreatDoorAxM
import Derived.Test.YticeaojhadjaaaaGreatDoorRows

section
set_option linter.unusedSimpArgs false
/-! The tables are right. -/
set_option autoImplicit false
set_option linter.unusedVariables false
set_option maxRecDepth 100000
namespace Go.Ab
open Go.Proofs

theorem ty_low : (List.range 381).map tyTab = (List.range 381).map (tyOf Tryz.prog) := by kernel_rfl
theorem ok_hT (t : Nat) : tb.T t = tyOf tb.P t := by
  show tyTab t = tyOf Tryz.prog t
  by_cases h : t < 381
  · have := congrArg (fun l => l[t]?) ty_low
    simp only [List.getElem?_map, List.getElem?_range h, Option.map_some, Option.some.injEq] at this
    exact this
  · have h1 : Nat.blt t 381 = false := by
      rw [Bool.eq_false_iff]; intro e; exact h (by simpa [Nat.blt_eq] using e)
    exact congrArg (fun b => cond b _ (tyOf Tryz.prog t)) h1
theorem ok_mix : tb.P.follows .mixedOrders = true := by kernel_rfl
theorem ok_names : (Tryz.prog.funcs.toList.all fun fn => !(fn.name == "runtime.NumGoroutine")) = true := by kernel_rfl

theorem ok_name (f : FuncId) (fn : Func) (h : tb.P.funcs[f]? = some fn) : fn.name ≠ "runtime.NumGoroutine" := by
  have hm : fn ∈ Tryz.prog.funcs.toList := by
    have : tb.P.funcs.toList[f]? = some fn := by simpa using h
    exact List.mem_of_getElem? this
  have := List.all_eq_true.1 ok_names fn hm
  simpa using this

def VL : List TypeId := [3, 4, 5, 9, 22, 23, 24, 25, 26, 29, 30, 32, 33, 34, 36, 43, 56, 58, 66, 70, 74, 83, 86, 119]
theorem ok_vt : VT tb.P tb.T (· ∈ VL) := vt_of (by kernel_rfl)
theorem ok_laidOut : laidOutB Tryz.prog = true := by kernel_rfl
theorem ok_maps : mapsRowed Tryz.prog = true := by kernel_rfl
theorem ok_kids : Kids Tryz.prog (· < Tryz.prog.types.size) := kids_rows ok_laidOut ok_maps
theorem ok_full : ∀ t e, t < Tryz.prog.types.size → Tryz.prog.underlying t = some (.slice e) → 0 < Tryz.prog.cellsOf e := slices_full_of _ (by kernel_rfl)

open YticeaojhadjaaaaGreatDoor in
theorem bulk_le {H : Type} {d : DataW H} : ∀ {l : List (DataW H)}, d ∈ l → Rows.uptoBulk d ≤ Rows.uptoBulkAll l
  | x :: l, h => by
    simp only [Rows.uptoBulkAll]
    rcases List.mem_cons.1 h with rfl | h
    · omega
    · have := bulk_le h; omega
open YticeaojhadjaaaaGreatDoor in
theorem bulk_pos {H : Type} (d : DataW H) : 1 ≤ Rows.uptoBulk d := by
  cases d with
  | lit l => cases l <;> simp [Rows.uptoBulk]
  | _ => simp [Rows.uptoBulk]
open YticeaojhadjaaaaGreatDoor in
theorem bulk_len {H : Type} : ∀ (l : List (DataW H)), l.length ≤ Rows.uptoBulkAll l
  | [] => by simp
  | x :: l => by have := bulk_len l; have := bulk_pos x; simp only [Rows.uptoBulkAll, List.length_cons]; omega
open YticeaojhadjaaaaGreatDoor in
theorem bulk_wt {H : Type} : Wt (Rows.uptoBulk (H := H)) where
  str s := by simp [Rows.uptoBulk]
  slice elems spare := by
    have := bulk_len elems
    refine ⟨by simp only [Rows.uptoBulk]; omega, fun x hx => ?_⟩
    have := bulk_le hx
    simp only [Rows.uptoBulk]
    omega
  agg parts x hx := by
    have := bulk_le hx
    simp only [Rows.uptoBulk]
    omega

/-- The tables are right, if what is told by other roads is. -/
theorem tab_ok (hX : ∀ f args xs r, xTab f args xs = some r → Good tb.P tb.T f args xs r) : TabOk tb := ⟨ok_hT, ok_mix, fun f fn h _ => ok_name f fn h, hX⟩
end Go.Ab
end

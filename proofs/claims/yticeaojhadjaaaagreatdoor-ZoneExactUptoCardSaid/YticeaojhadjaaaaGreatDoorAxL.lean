/- Part 12 of the proof that this seat's laws lean on: an abstract machine over the model's code, its soundness, and what it says of this program. -/
import Derived.Test.YticeaojhadjaaaaGreatDoorAxK
import Derived.ReadAgain
import Derived.OpenShut
import Derived.ProofKit

section
set_option linter.unusedSimpArgs false
/-! A law that is true and leaves what it was handed as it was. -/
set_option autoImplicit false
set_option linter.unusedVariables false
namespace Go.Ab
open Go.ChangeShapes Go.WideShapes Go.ChangeAt Go.RowKit
section
variable {H : Type} {enc : TypeId × Value → H} {P : Program} {W W' : World}

theorem trods_same {sp : Nat → Bool} {base : Nat} {held : Bool} : ∀ {ts : List TypeId} {vs : List Value} {ds : List (DataW H)} {ps : List MemPlace}, DataW.TrodAll enc P W base sp held ts vs ds ps → (∀ p ∈ ps, W.sameAt W' p) → DataW.TrodAll enc P W' base sp held ts vs ds ps
  | [], [], [], _, h, _ => h
  | t :: ts, v :: vs, d :: ds, ps, ⟨p, q, ⟨n, h1⟩, h2, h3⟩, hs =>
    ⟨p, q, ⟨n, DataW.trod_carry n _ _ _ h1 fun x hx => hs x (by rw [h3]; exact List.mem_append_left _ hx)⟩, trods_same h2 (fun x hx => hs x (by rw [h3]; exact List.mem_append_right _ hx)), h3⟩
  | [], _ :: _, _, _, h, _ => h.elim
  | [], [], _ :: _, _, h, _ => h.elim
  | _ :: _, [], _, _, h, _ => h.elim
  | _ :: _, _ :: _, [], _, h, _ => h.elim

/-- What a law owes at its end. -/
theorem law_post {KT : TypeId → Prop} (K : Kids P KT) (hz : ∀ t e, KT t → P.underlying t = some (.slice e) → 0 < P.cellsOf e) {f : Func} {s : ChangeSpec} {tb : TypeId} (hts : ∀ t ∈ f.params.toList, KT t) (hvars : s.vars = [])
    (hb : P.underlying tb = some .bool) (hrt : f.resultTypes = #[tb]) {args : Array Value} {ds gs : List (DataW H)} {before : List MemPlace}
    (hres : (s.fn H (ds ++ gs)).results = [.lit (.bool true)]) (hargs : (s.fn H (ds ++ gs)).args = ds) (hvs : (s.fn H (ds ++ gs)).vars = [])
    (hW : DataW.Whole enc P f.params.toList s.vars false W args.toList ds gs before) (hs : Same W W') : s.post enc P f false true false false W args (.bool true) W' := by
  have hlt := hW.lt
  have hW' := hW
  obtain ⟨p, q, h1, h2, h3, _, _⟩ := hW
  rw [hvars] at h2
  obtain ⟨rfl, rfl⟩ := trodVars_none h2
  rw [List.append_nil] at h3
  subst h3
  have h4 : DataW.TrodAll enc P W 0 (fun b => decide (b < W.heap.size)) true f.params.toList args.toList ds before := h1.respare K hz hts fun p hp => by simpa using hlt p hp
  refine ⟨ds, [], before, [], before, [], hW', ?_, ?_, ?_, hs.kept _, fun h => by cases h⟩
  · rw [hres, hrt]
    exact trodAll_cons_mk (shut_bool hb _) trodAll_mk0
  · rw [hargs]
    exact trods_same h4 fun p hp => hs.at (hlt p hp)
  · rw [hvars, hvs]
    rfl
end

/-- A law's contract. -/
theorem law_calls {H : Type} {enc : TypeId × Value → H} {B : Tab} (hB : TabOk B) {KT L : TypeId → Prop} (K : Kids B.P KT) (hz : ∀ t e, KT t → B.P.underlying t = some (.slice e) → 0 < B.P.cellsOf e) (hV : VT B.P B.T L)
    {fi : FuncId} {f : Func} {s : ChangeSpec} {tb : TypeId} (hts : ∀ t ∈ f.params.toList, KT t ∧ L t) (hvars : s.vars = []) (hb : B.P.underlying tb = some .bool) (hbk : (B.T tb).kind = .bool) (hrt : f.resultTypes = #[tb]) {wt : DataW H → Nat} (hwt : Wt wt) {N : Nat}
    {W : World} {base : Nat} {r : Reach} {args : Array Value} {ds gs : List (DataW H)} {before : List MemPlace}
    (hres : (s.fn H (ds ++ gs)).results = [.lit (.bool true)]) (hargs : (s.fn H (ds ++ gs)).args = ds) (hvs : (s.fn H (ds ++ gs)).vars = [])
    (hval : ∀ (j : Nat) t v, f.params[j]? = some t → args[j]? = some v → Value.okWide B.P W r base t v)
    (hW : DataW.Whole enc B.P f.params.toList s.vars false W args.toList ds gs before) (hN : ∀ d ∈ ds, wt d ≤ N)
    (hlaw : ∀ xs R, ArgsOk B.T R N f.params.toList xs args.toList → B.sem (.call fi xs []) = some (.ret false [tb] [.bool true] [])) :
    Calls B.P fi args W fun e W' => ∃ v, e = .returned v ∧ s.post enc B.P f false true false false W args v W' := by
  have hW' := hW
  obtain ⟨p, q, h1, _⟩ := hW
  obtain ⟨xs, hxs⟩ := args_of_trod (pub := fun b => b < W.heap.size) hV hwt (fun _ h => h) (N := N) (r := r) (base := base) (fun t ht => (hts t ht).2)
    (fun j t v hj hv => hval j t v (by simpa using hj) (by simpa using hv)) h1 hN
  have hg := sem_good hB (hlaw xs _ hxs)
  refine (calls_bool hbk hg hxs).mono fun e W' ⟨he, hs⟩ => ?_
  exact ⟨_, he, law_post K hz (fun t ht => (hts t ht).1) hvars hb hrt hres hargs hvs hW' hs⟩
end Go.Ab
end

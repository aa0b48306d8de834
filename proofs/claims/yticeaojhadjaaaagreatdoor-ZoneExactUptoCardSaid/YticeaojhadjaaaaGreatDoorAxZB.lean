/- Part 28 of the proof that this seat's laws lean on: an abstract machine over the model's code, its soundness, and what it says of this program. -/
import Derived.Test.YticeaojhadjaaaaGreatDoorAxV
import Derived.Test.YticeaojhadjaaaaGreatDoorAxZA

section
set_option linter.unusedSimpArgs false
/-! Places of columns, and whether all columns are there. -/
set_option autoImplicit false
set_option linter.unusedVariables false
namespace Go.Ab

/-- The first position of a name, from one on; or -1. -/
noncomputable def placeAt (s : List UInt8) (n : Int) (l : List (List Dat)) : Int :=
  l.rec (motive := fun _ => Int → Int) (fun _ => -1) (fun r _ ih n => cond (dK r == s) n (ih (n + 1))) n
theorem placeAt_nil (s : List UInt8) (n : Int) : placeAt s n [] = -1 := rfl
theorem placeAt_cons (s : List UInt8) (n : Int) (r : List Dat) (l : List (List Dat)) : placeAt s n (r :: l) = cond (dK r == s) n (placeAt s (n + 1) l) := rfl
noncomputable def place (l : List (List Dat)) (s : List UInt8) : Int := placeAt s 0 l

theorem l144 {x0 : Dat} (s : List UInt8) : ∀ (t pre : List (List Dat)), (pre ++ t).length < 4611686018427387904 →
    SS (.pt 144 [[.d x0]] 26 { tmps := [(0, .d (.lst 83 (pre ++ t))), (1, .fn 145 [.ptr 0 0]), (7, .d (.int .i64 ((pre ++ t).length : Int))), (8, .d (.int .i64 (pre.length : Int)))], boxes := [(0, [.d (.str s)])] }) =
      some (.ret false [3] [.int .i64 (placeAt s pre.length t)] [[(.str s, false)]])
  | [], pre, hs => by rw [p144_26]; simp only [lp1e, cond_false, placeAt_nil]
  | r :: t, pre, hs => by
    have ih := l144 (x0 := x0) s t (pre ++ [r]) (by simpa using hs)
    rw [List.append_assoc, List.singleton_append] at ih
    rw [p144_26]
    simp only [lp0, lp1, lpg, lpw hs, Bool.and_self, cond_true, e145]
    rw [bindR1 (by simp [backsOk, backOk])]
    have e : ((pre ++ [r]).length : Int) = (pre.length : Int) + 1 := by simp
    rw [placeAt_cons, ← e]
    show (bif ((([Dat.bool (dK r == s)] : List Dat).getD 0 .nilP).b) then _ else _) = _
    rw [rsb]
    cases dK r == s with
    | true => rfl
    | false => exact ih

theorem s103 (l : List (List Dat)) (s : List UInt8) (hl : l.length < 4611686018427387904) : SS (.call 103 [.d (.lst 83 l), .d (.str s)] []) = some (.ret false [3] [.int .i64 (place l s)] []) := by
  have h := l144 (x0 := .nilP) s l [] (by simpa using hl)
  simp only [List.nil_append, List.length_nil] at h
  have h2 := (e144 l s).trans h
  rw [e103, h2, bindR1 (by simp [backsOk, backOk])]
  rfl

theorem l44 (s : List UInt8) : ∀ (t pre : List (List Dat)), (pre ++ t).length < 4611686018427387904 →
    SS (.pt 44 [] 26 { tmps := [(0, .d (.lst 83 (pre ++ t))), (1, .d (.str s)), (5, .d (.int .i64 (pre.length : Int)))], boxes := [] }) =
      some (.ret false [3] [.int .i64 (placeAt s pre.length t)] [])
  | [], pre, hs => by rw [p44_26]; simp only [lp1e, cond_false, placeAt_nil]
  | r :: t, pre, hs => by
    have ih := l44 s t (pre ++ [r]) (by simpa using hs)
    rw [List.append_assoc, List.singleton_append] at ih
    rw [p44_26]
    simp only [lp0, lp1, lpg, lpw hs, Bool.and_self, cond_true]
    have e : ((pre ++ [r]).length : Int) = (pre.length : Int) + 1 := by simp
    rw [placeAt_cons, ← e]
    show (bif (dK r == s) then _ else _) = _
    cases dK r == s with
    | true => rfl
    | false => exact ih

theorem s44 (l : List (List Dat)) (s : List UInt8) (hl : l.length < 4611686018427387904) : SS (.call 44 [.d (.lst 83 l), .d (.str s)] []) = some (.ret false [3] [.int .i64 (place l s)] []) := by
  rw [e44]
  exact l44 s l [] (by simpa using hl)

/-- Are all names columns? -/
noncomputable def allIn (cols names : List (List Dat)) : Bool := names.all fun r => decide (0 ≤ place cols (dK r))

theorem l174 {x0 : Dat} (cols : List (List Dat)) (hc : cols.length < 4611686018427387904) : ∀ (t pre : List (List Dat)), (pre ++ t).length < 4611686018427387904 →
    ∃ i : Int, SS (.pt 174 [[.d x0]] 26 { tmps := [(0, .d (.lst 9 (pre ++ t))), (1, .fn 128 [.ptr 0 0]), (7, .d (.int .i64 ((pre ++ t).length : Int))), (8, .d (.int .i64 (pre.length : Int)))], boxes := [(0, [.d (.lst 83 cols)])] }) =
      some (.ret false [3] [.int .i64 i] [[(.lst 83 cols, false)]]) ∧ decide (i ≥ 0) = !(allIn cols t)
  | [], pre, hs => ⟨-1, by rw [p174_26_1]; simp only [lp1e, cond_false], rfl⟩
  | r :: t, pre, hs => by
    have hcall := e128 (dK r) cols
    rw [s103 cols (dK r) hc, bindR0] at hcall
    have hall : allIn cols (r :: t) = (decide (0 ≤ place cols (dK r)) && allIn cols t) := rfl
    by_cases hp : 0 ≤ place cols (dK r)
    · obtain ⟨i, h1, h2⟩ := l174 (x0 := x0) cols hc t (pre ++ [r]) (by simpa using hs)
      rw [List.append_assoc, List.singleton_append] at h1
      refine ⟨i, ?_, by rw [h2, hall]; simp [hp]⟩
      rw [p174_26_1]
      simp only [lp0, lp1, lpg, lpw hs, Bool.and_self, cond_true]
      have hk : ((r.getD 0 .nilP).s) = dK r := rfl
      rw [hk, hcall, bindR1 (by simp [backsOk, backOk])]
      have : ¬ place cols (dK r) < 0 := by omega
      simp only [rsi, this, decide_false, rsb, cond_false]
      exact h1
    · refine ⟨(pre.length : Int), ?_, by rw [hall]; simp [hp]⟩
      rw [p174_26_1]
      simp only [lp0, lp1, lpg, lpw hs, Bool.and_self, cond_true]
      have hk : ((r.getD 0 .nilP).s) = dK r := rfl
      rw [hk, hcall, bindR1 (by simp [backsOk, backOk])]
      have : place cols (dK r) < 0 := by omega
      simp only [rsi, this, decide_true, rsb, cond_true]
      rfl

theorem s127 (op nm : List UInt8) (k n : Int) (t : List UInt8) (l3 l4 path kids : List (List Dat)) (hs : szRs kids ≤ 1000000) :
    SS (.call 127 [.agg [.d (.str op), .d (.str nm), .d (.int .i64 k), .d (.int .i64 n), .d (.str t), .d (.lst 32 l3), .d (.lst 9 l4), .d (.lst 119 path), .d (.lst 36 kids)]] []) = some (.ret false [29] [.lst 9 (namesOf kids op nm)] []) := by
  refine ssOf (R := xTab 127 [.agg [.d (.str op), .d (.str nm), .d (.int .i64 k), .d (.int .i64 n), .d (.str t), .d (.lst 32 l3), .d (.lst 9 l4), .d (.lst 119 path), .d (.lst 36 kids)]] []) ?_ ?_
  · have hx : xTab 127 [.agg [.d (.str op), .d (.str nm), .d (.int .i64 k), .d (.int .i64 n), .d (.str t), .d (.lst 32 l3), .d (.lst 9 l4), .d (.lst 119 path), .d (.lst 36 kids)]] [] = some (.ret false [29] [.lst 9 (namesOf kids op nm)] []) := by
      show cond (Nat.ble (szRs kids) 1000000) _ _ = _
      rw [Nat.ble_eq_true_of_le hs]; rfl
    rw [hx]
    unfold Tab.step
    show (match xTab 127 [.agg [.d (.str op), .d (.str nm), .d (.int .i64 k), .d (.int .i64 n), .d (.str t), .d (.lst 32 l3), .d (.lst 9 l4), .d (.lst 119 path), .d (.lst 36 kids)]] [] with | some r => some r | none => _) = _
    rw [hx]
  · show cond (Nat.ble (szRs kids) 1000000) _ _ = _
    rw [Nat.ble_eq_true_of_le hs]; rfl

theorem s66 (cols : List (List Dat)) (op nm : List UInt8) (k n : Int) (t : List UInt8) (l3 l4 path kids : List (List Dat)) (hc : cols.length < 4611686018427387904) (hs : szRs kids ≤ 1000000) (hn : (namesOf kids op nm).length < 4611686018427387904) :
    SS (.call 66 [.d (.lst 83 cols), .agg [.d (.str op), .d (.str nm), .d (.int .i64 k), .d (.int .i64 n), .d (.str t), .d (.lst 32 l3), .d (.lst 9 l4), .d (.lst 119 path), .d (.lst 36 kids)]] []) =
      some (.ret false [4] [.bool (allIn cols (namesOf kids op nm))] []) := by
  obtain ⟨i, h1, h2⟩ := l174 (x0 := .nilP) cols hc (namesOf kids op nm) [] (by simpa using hn)
  simp only [List.nil_append, List.length_nil] at h1
  have h3 := (e174_1 (namesOf kids op nm) cols).trans h1
  have h4 := e126_1 (namesOf kids op nm) cols
  rw [h3, bindR1 (by simp [backsOk, backOk])] at h4
  rw [e66, s127 op nm k n t l3 l4 path kids hs, bindR0]
  show bindR Out none false [4] [[AV.d (Dat.lst 83 cols)]] _ _ (SS (Key.call 126 [AV.d (Dat.lst 9 (namesOf kids op nm)), AV.fn 128 [AV.ptr 0 0]] [[AV.d (Dat.lst 83 cols)]])) = _
  rw [h4, bindR1 (by simp [backsOk, backOk])]
  show some (Res.ret false [4] [Dat.bool (!(decide (i ≥ 0)))] []) = _
  rw [h2, Bool.not_not]
end Go.Ab
end

/- Part 27 of the proof that this seat's laws lean on: an abstract machine over the model's code, its soundness, and what it says of this program. -/
import Derived.Test.YticeaojhadjaaaaGreatDoorAxO
import Derived.Test.YticeaojhadjaaaaGreatDoorAxP
import Derived.Test.YticeaojhadjaaaaGreatDoorAxX
import Derived.Test.YticeaojhadjaaaaGreatDoorAxZ

section
set_option linter.unusedSimpArgs false
/-! Expressions. -/
set_option autoImplicit false
set_option linter.unusedVariables false
namespace Go.Ab

/-- An expression: operation, name, value, path, kids. -/
inductive X where
  | mk (op nm : List UInt8) (v : V) (path : List (List Dat)) (kids : List X)

mutual
noncomputable def dxD : Dat → List X
  | .lst _ rows => dxRs rows
  | _ => []
noncomputable def dxRs : List (List Dat) → List X
  | [] => []
  | r :: rs => X.mk (r.getD 0 .nilP).s (r.getD 1 .nilP).s (V.mk (r.getD 2 .nilP).i (r.getD 3 .nilP).i (r.getD 4 .nilP).s (dvRs (r.getD 5 .nilP).l) (dKs (r.getD 6 .nilP).l)) (r.getD 7 .nilP).l ((dxCs r).getD 8 []) :: dxRs rs
noncomputable def dxCs : List Dat → List (List X)
  | [] => []
  | x :: xs => dxD x :: dxCs xs
end

noncomputable def dX (r : List Dat) : X := X.mk (r.getD 0 .nilP).s (r.getD 1 .nilP).s (V.mk (r.getD 2 .nilP).i (r.getD 3 .nilP).i (r.getD 4 .nilP).s (dvRs (r.getD 5 .nilP).l) (dKs (r.getD 6 .nilP).l)) (r.getD 7 .nilP).l (dxRs (r.getD 8 .nilP).l)

theorem dxD_l (x : Dat) : dxD x = dxRs x.l := by cases x <;> simp [dxD, Dat.l, dxRs]
theorem dxCs_map : ∀ l : List Dat, dxCs l = l.map dxD
  | [] => by simp [dxCs]
  | x :: xs => by simp [dxCs, dxCs_map xs]
theorem dxRs_map : ∀ l : List (List Dat), dxRs l = l.map dX
  | [] => by simp [dxRs]
  | r :: rs => by
    have : (dxCs r).getD 8 [] = dxRs (r.getD 8 .nilP).l := by
      rw [dxCs_map, ← dxD_l]
      simp only [List.getD_eq_getElem?_getD, List.getElem?_map]
      cases r[8]? with
      | none => simp [dxD]
      | some x => rfl
    simp only [dxRs, this, List.map_cons, dxRs_map rs]
    rfl
theorem dxRs_len (l : List (List Dat)) : (dxRs l).length = l.length := by rw [dxRs_map]; simp

mutual
/-- How many nodes it is. -/
def cntX : X → Nat
  | .mk _ _ _ _ l => 1 + cntXs l
def cntXs : List X → Nat
  | [] => 0
  | v :: l => cntX v + cntXs l
end
theorem cntX_pos (v : X) : 1 ≤ cntX v := by cases v; simp [cntX]
def castOk (nm : List UInt8) : Bool := nm == [116, 114, 117, 116, 104] || (nm == [105, 110, 116] || nm == [116, 101, 120, 116])

/-- Is a node by itself as it may be? -/
noncomputable def formX (op nm : List UInt8) (v : V) (path : List (List Dat)) (nk : Nat) : Bool :=
  let bare := decide (v.k = 0) && okV v
  if op = [99, 111, 108] then decide (nk = 0) && (path.isEmpty && (bare && wordW nm))
  else if op = [99, 111, 110, 115, 116] then decide (nk = 0) && (path.isEmpty && (nm.isEmpty && okV v))
  else ((opRow op).getD 5 .nilP).b && (bare && (decide (((opRow op).getD 0 .nilP).i ≤ nk) && ((decide (((opRow op).getD 1 .nilP).i < 0) || decide ((nk : Int) ≤ ((opRow op).getD 1 .nilP).i)) &&
    ((cond ((opRow op).getD 2 .nilP).b (stepsV path) path.isEmpty) && (cond ((opRow op).getD 3 .nilP).b (castOk nm) nm.isEmpty)))))

mutual
/-- Is it valid within so many levels? -/
noncomputable def okX : X → Nat → Bool
  | .mk op nm v p l, lv => match lv with
    | 0 => false
    | lv + 1 => formX op nm v p l.length && okXs l lv
noncomputable def okXs : List X → Nat → Bool
  | [], _ => true
  | v :: l, lv => okX v lv && okXs l lv
end

mutual
/-- Its lists are no longer than a machine counts. -/
def smX : X → Prop
  | .mk _ nm v _ l => smV v ∧ nm.length < 4611686018427387904 ∧ smXs l
def smXs : List X → Prop
  | [] => True
  | v :: l => smX v ∧ smXs l
end

theorem l218 : SS (.call 218 [] []) = some (.ret true [226] [.lst 1000227 [[.str [116, 114, 117, 116, 104], .int .i64 1], [.str [105, 110, 116], .int .i64 2], [.str [116, 101, 120, 116], .int .i64 3]]] []) := sem_of (B := tb) (n := 60) (by kernel_rfl)
end Go.Ab
end

section
set_option linter.unusedSimpArgs false
/-! What expr.form tells. -/
set_option autoImplicit false
set_option linter.unusedVariables false
namespace Go.Ab

theorem cond_ind {α : Type} {P : α → Prop} {b : Bool} {x y : α} (hx : P x) (hy : P y) : P (cond b x y) := by cases b <;> assumption

theorem opRow_form (s : List UInt8) : ∃ (a b : Int) (p q : Bool) (x : Dat) (o : Bool), opRow s = [.int .i64 a, .int .i64 b, .bool p, .bool q, x, .bool o] ∧ (p = false ∨ q = false) := by
  unfold opRow
  repeat' refine cond_ind (P := fun r => ∃ (a b : Int) (p q : Bool) (x : Dat) (o : Bool), r = [.int .i64 a, .int .i64 b, .bool p, .bool q, x, .bool o] ∧ (p = false ∨ q = false)) ?_ ?_
  all_goals exact ⟨_, _, _, _, _, _, rfl, by simp⟩

theorem castVal (nm : List UInt8) : decide (((mapVal (.str nm) [.int .i64 0] [[.str [116, 114, 117, 116, 104], .int .i64 1], [.str [105, 110, 116], .int .i64 2], [.str [116, 101, 120, 116], .int .i64 3]]).getD 0 .nilP).i > 0) = castOk nm := by
  unfold castOk
  simp only [mapVal, List.headD_cons, List.tail_cons]
  have hk : ∀ t : List UInt8, keyEq (.str nm) (.str t) = (nm == t) := fun t => rfl
  simp only [hk]
  cases h1 : nm == [116, 114, 117, 116, 104] with
  | true => rfl
  | false =>
    cases h2 : nm == [105, 110, 116] with
    | true => rfl
    | false => cases h3 : nm == [116, 101, 120, 116] <;> rfl

theorem bindRT {R : Type} {fail : R} {ts : List TypeId} {kp : Dat → R} {k : List Dat → List (List (Dat × Bool)) → R} {rs : List Dat} : bindR R fail true ts [] kp k (some (.ret true ts rs [])) = k rs [] := by simp [bindR, backsOk]
theorem dl0 (e : TypeId) (l : List (List Dat)) : (Dat.lst e l).l = l := rfl
theorem len0X {α : Type} (l : List α) : ((l.length : Int) == 0) = l.isEmpty := by cases l <;> simp <;> omega
theorem isE (s : List UInt8) : (s == []) = s.isEmpty := by cases s <;> rfl

theorem s171 (op nm : List UInt8) (k n : Int) (t : List UInt8) (l3 l4 path kids : List (List Dat)) (hs : smV (.mk k n t (dvRs l3) (dKs l4))) (hn : nm.length < 4611686018427387904) :
    SS (.call 171 [.agg [.d (.str op), .d (.str nm), .d (.int .i64 k), .d (.int .i64 n), .d (.str t), .d (.lst 32 l3), .d (.lst 9 l4), .d (.lst 119 path), .d (.lst 36 kids)]] []) =
      some (.ret false [4] [.bool (formX op nm (.mk k n t (dvRs l3) (dKs l4)) path kids.length)] []) := by
  have h31 : ∀ b0 : Bool, op ≠ [99, 111, 108] → op ≠ [99, 111, 110, 115, 116] → b0 = (decide (k = 0) && okV (.mk k n t (dvRs l3) (dKs l4))) → SS (Key.pt 171 [] 15
      { tmps := [(1, AV.ptr 1001 0), (3, AV.d (Dat.bool b0))],
        boxes := [(1001, [AV.d (Dat.str op), AV.d (Dat.str nm), AV.d (Dat.int IntKind.i64 k), AV.d (Dat.int IntKind.i64 n), AV.d (Dat.str t), AV.d (Dat.lst 32 l3), AV.d (Dat.lst 9 l4), AV.d (Dat.lst 119 path), AV.d (Dat.lst 36 kids)])] }) =
      some (.ret false [4] [.bool (formX op nm (.mk k n t (dvRs l3) (dKs l4)) path kids.length)] []) := by
    intro b0 h1 h2 hb
    obtain ⟨a, m, p, q, x, o, hr, hpq⟩ := opRow_form op
    have hf : formX op nm (.mk k n t (dvRs l3) (dKs l4)) path kids.length = (o && (b0 && (decide (a ≤ kids.length) && ((decide (m < 0) || decide ((kids.length : Int) ≤ m)) && ((cond p (stepsV path) path.isEmpty) && (cond q (castOk nm) nm.isEmpty)))))) := by
      unfold formX
      simp only [h1, h2, if_false, hr, hb]
      rfl
    rw [p171_15, s147, bindR0, hr, hf]
    show SS (Key.pt 171 [] 31 { tmps := [(1, AV.ptr 1001 0), (3, AV.d (Dat.bool b0)), (4, AV.ptr 1004 0), (5, AV.d (Dat.bool o))], boxes := [(1001, [AV.d (Dat.str op), AV.d (Dat.str nm), AV.d (Dat.int IntKind.i64 k), AV.d (Dat.int IntKind.i64 n), AV.d (Dat.str t), AV.d (Dat.lst 32 l3), AV.d (Dat.lst 9 l4), AV.d (Dat.lst 119 path), AV.d (Dat.lst 36 kids)]), (1004, [AV.d (Dat.int IntKind.i64 a), AV.d (Dat.int IntKind.i64 m), AV.d (Dat.bool p), AV.d (Dat.bool q), AV.d x])] }) = _
    cases o with
    | false => rw [p171_31a]; rfl
    | true => cases b0 with
      | false => rw [p171_31b]; rfl
      | true =>
        by_cases ha : a ≤ (kids.length : Int)
        · have ha' : (kids.length : Int) ≥ a := ha
          by_cases hm : m < 0
          · cases p with
            | false => cases q with
              | false =>
                rw [p171_31c]
                simp only [ha, hm, decide_true, cond_true, len0X, isE, Bool.true_and, Bool.true_or, cond_false]
                cases path <;> rfl
              | true =>
                rw [p171_31e, l218]
                simp only [ha, hm, decide_true, cond_true, len0X, isE, Bool.true_and, Bool.true_or, cond_false]
                cases path with
                | nil =>
                  simp only [List.isEmpty_nil, cond_true]
                  rw [bindRT]
                  simp only [List.getD_cons_zero, dl0, castVal]
                  cases castOk nm <;> rfl
                | cons => rfl
            | true =>
              have hq : q = false := by rcases hpq with h | h; cases h; exact h
              subst hq
              rw [p171_31d, s71]
              simp only [ha, hm, decide_true, cond_true, len0X, isE, Bool.true_and, Bool.true_or, cond_false, bindR0, rsb]
              have hp : stepsV [] = true := rfl
              cases path with
              | nil => simp [hp]
              | cons => cases stepsV _ <;> rfl
          · by_cases hm2 : (kids.length : Int) ≤ m
            · cases p with
              | false => cases q with
                | false =>
                  rw [p171_31c]
                  simp only [ha, hm, hm2, decide_true, decide_false, cond_true, len0X, isE, Bool.true_and, Bool.false_or, cond_false]
                  cases path <;> rfl
                | true =>
                  rw [p171_31e, l218]
                  simp only [ha, hm, hm2, decide_true, decide_false, cond_true, len0X, isE, Bool.true_and, Bool.false_or, cond_false]
                  cases path with
                  | nil =>
                    simp only [List.isEmpty_nil, cond_true]
                    rw [bindRT]
                    simp only [List.getD_cons_zero, dl0, castVal]
                    cases castOk nm <;> rfl
                  | cons => rfl
              | true =>
                have hq : q = false := by rcases hpq with h | h; cases h; exact h
                subst hq
                rw [p171_31d, s71]
                simp only [ha, hm, hm2, decide_true, decide_false, cond_true, len0X, isE, Bool.true_and, Bool.false_or, cond_false, bindR0, rsb]
                have hp : stepsV [] = true := rfl
                cases path with
                | nil => simp [hp]
                | cons => cases stepsV _ <;> rfl
            · cases p with
              | false => cases q with
                | false =>
                  rw [p171_31c]
                  simp only [ha, hm, hm2, decide_true, decide_false, cond_true, len0X, isE, Bool.true_and, Bool.false_or, Bool.false_and, cond_false]
                | true =>
                  rw [p171_31e]
                  simp only [ha, hm, hm2, decide_true, decide_false, cond_true, len0X, isE, Bool.true_and, Bool.false_or, Bool.false_and, cond_false]
              | true =>
                have hq : q = false := by rcases hpq with h | h; cases h; exact h
                subst hq
                rw [p171_31d]
                simp only [ha, hm, hm2, decide_true, decide_false, cond_true, len0X, isE, Bool.true_and, Bool.false_or, Bool.false_and, cond_false]
        · have ha' : ¬ (kids.length : Int) ≥ a := ha
          cases p with
          | false => cases q with
            | false =>
              rw [p171_31c]
              simp only [ha, decide_false, cond_false, Bool.true_and, Bool.false_and]
            | true =>
              rw [p171_31e]
              simp only [ha, decide_false, cond_false, Bool.true_and, Bool.false_and]
          | true =>
            have hq : q = false := by rcases hpq with h | h; cases h; exact h
            subst hq
            rw [p171_31d]
            simp only [ha, decide_false, cond_false, Bool.true_and, Bool.false_and]
  have h7 : ∀ b0 : Bool, b0 = (decide (k = 0) && okV (.mk k n t (dvRs l3) (dKs l4))) → SS (Key.pt 171 [] 7
      { tmps := [(1, AV.ptr 1001 0), (3, AV.d (Dat.bool b0))],
        boxes := [(1001, [AV.d (Dat.str op), AV.d (Dat.str nm), AV.d (Dat.int IntKind.i64 k), AV.d (Dat.int IntKind.i64 n), AV.d (Dat.str t), AV.d (Dat.lst 32 l3), AV.d (Dat.lst 9 l4), AV.d (Dat.lst 119 path), AV.d (Dat.lst 36 kids)])] }) =
      some (.ret false [4] [.bool (formX op nm (.mk k n t (dvRs l3) (dKs l4)) path kids.length)] []) := by
    intro b0 hb
    rw [p171_7]
    by_cases h1 : op = [99, 111, 108]
    · subst h1
      have hf : formX [99, 111, 108] nm (.mk k n t (dvRs l3) (dKs l4)) path kids.length = (decide (kids.length = 0) && (path.isEmpty && (b0 && wordW nm))) := by rw [hb]; unfold formX; rfl
      rw [hf, s68 nm hn]
      simp only [beq_self_eq_true, cond_true, len0X, bindR0, rsb]
      cases kids with
      | nil => cases path with
        | nil => cases b0 <;> rfl
        | cons => rfl
      | cons => rfl
    · rw [beqF h1, cond_false]
      by_cases h2 : op = [99, 111, 110, 115, 116]
      · subst h2
        have hf : formX [99, 111, 110, 115, 116] nm (.mk k n t (dvRs l3) (dKs l4)) path kids.length = (decide (kids.length = 0) && (path.isEmpty && (nm.isEmpty && okV (.mk k n t (dvRs l3) (dKs l4))))) := by unfold formX; rfl
        rw [hf, s129 k n t l3 l4 hs]
        simp only [beq_self_eq_true, cond_true, len0X, isE, bindR0, rsb]
        cases kids with
        | nil => cases path with
          | nil => cases nm <;> rfl
          | cons => rfl
        | cons => rfl
      · rw [beqF h2, cond_false]
        exact h31 b0 h1 h2 hb
  rw [e171]
  by_cases hk : k = 0
  · have e : (k == 0) = true := by simpa using hk
    rw [e, cond_true, s129 k n t l3 l4 hs, bindR0]
    exact h7 _ (by simp [hk]; rfl)
  · have e : (k == 0) = false := by simpa using hk
    rw [e, cond_false]
    exact h7 false (by simp [hk])
end Go.Ab
end

section
set_option linter.unusedSimpArgs false
/-! What expr.right and expr.Valid tell. -/
set_option autoImplicit false
set_option linter.unusedVariables false
namespace Go.Ab

def H125 (lv : Nat) : Prop := ∀ (op nm : List UInt8) (k n : Int) (t : List UInt8) (l3 l4 path kids : List (List Dat)) (m : Int), 0 ≤ m → m ≤ 60 → smX (.mk op nm (.mk k n t (dvRs l3) (dKs l4)) path (dxRs kids)) →
  ∃ (b : Bool) (m' : Int), SS (.call 125 [.agg [.d (.str op), .d (.str nm), .d (.int .i64 k), .d (.int .i64 n), .d (.str t), .d (.lst 32 l3), .d (.lst 9 l4), .d (.lst 119 path), .d (.lst 36 kids)], .d (.int .i64 (lv : Int)), .ptr 0 0] [[.d (.int .i64 m)]]) = some (.ret false [4] [.bool b] [[(.int .i64 m', false)]]) ∧
    b = (okX (.mk op nm (.mk k n t (dvRs l3) (dKs l4)) path (dxRs kids)) lv && decide (m + (cntX (.mk op nm (.mk k n t (dvRs l3) (dKs l4)) path (dxRs kids)) : Int) ≤ 60)) ∧ (b = true → m' = m + (cntX (.mk op nm (.mk k n t (dvRs l3) (dKs l4)) path (dxRs kids)) : Int)) ∧ 0 ≤ m' ∧ m' ≤ 61

theorem l219 {lv : Nat} (ih : H125 lv) (hlv : lv < 1000) {x0 x1 : Dat} : ∀ (t pre : List (List Dat)) (m : Int), (pre.length : Int) ≤ m → m ≤ 60 → smXs (dxRs t) →
    ∃ (i m' : Int), SS (.pt 219 [[.d x0], [.ptr 2 0], [.d x1]] 26 { tmps := [(0, .d (.lst 36 (pre ++ t))), (1, .fn 173 [.ptr 0 0, .ptr 1 0]), (7, .d (.int .i64 ((pre ++ t).length : Int))), (8, .d (.int .i64 (pre.length : Int)))], boxes := [(0, [.d (.int .i64 ((lv + 1 : Nat) : Int))]), (1, [.ptr 2 0]), (2, [.d (.int .i64 m)])] }) =
        some (.ret false [3] [.int .i64 i] [[(.int .i64 ((lv + 1 : Nat) : Int), false)], [(.nilP, false)], [(.int .i64 m', false)]]) ∧
      decide (0 ≤ i) = !(okXs (dxRs t) lv && decide (m + (cntXs (dxRs t) : Int) ≤ 60)) ∧ (decide (0 ≤ i) = false → m' = m + (cntXs (dxRs t) : Int)) ∧ 0 ≤ m' ∧ m' ≤ 61
  | [], pre, m, h1, h2, hs => ⟨-1, m, by rw [p219_26_1]; simp only [lp1e, cond_false], by simp [dxRs, okXs, cntXs, h2], fun _ => by simp [dxRs, cntXs], by omega, by omega⟩
  | r :: t, pre, m, h1, h2, hs => by
    have hc : dxRs (r :: t) = dX r :: dxRs t := by rw [dxRs_map, dxRs_map]; rfl
    rw [hc] at hs ⊢
    obtain ⟨hs1, hs2⟩ := hs
    obtain ⟨b, m1, e1, e2, e3, e4, e5⟩ := ih (r.getD 0 .nilP).s (r.getD 1 .nilP).s (r.getD 2 .nilP).i (r.getD 3 .nilP).i (r.getD 4 .nilP).s (r.getD 5 .nilP).l (r.getD 6 .nilP).l (r.getD 7 .nilP).l (r.getD 8 .nilP).l m (by omega) h2 hs1
    have hv : X.mk (r.getD 0 .nilP).s (r.getD 1 .nilP).s (V.mk (r.getD 2 .nilP).i (r.getD 3 .nilP).i (r.getD 4 .nilP).s (dvRs (r.getD 5 .nilP).l) (dKs (r.getD 6 .nilP).l)) (r.getD 7 .nilP).l (dxRs (r.getD 8 .nilP).l) = dX r := rfl
    rw [hv] at e2 e3
    have hw : Go.IntKind.i64.wrap (((lv + 1 : Nat) : Int) - 1) = (lv : Int) := by rw [wrap64 (by omega) (by omega)]; omega
    have hcall := e173 (r.getD 0 .nilP).s (r.getD 1 .nilP).s (r.getD 2 .nilP).i (r.getD 3 .nilP).i (r.getD 4 .nilP).s (r.getD 5 .nilP).l (r.getD 6 .nilP).l (r.getD 7 .nilP).l (r.getD 8 .nilP).l ((lv + 1 : Nat) : Int) m
    rw [hw, e1, bindR1 (by simp [backsOk, backOk])] at hcall
    have hpre : pre.length < 4611686018427387904 := by omega
    cases b with
    | false =>
      refine ⟨(pre.length : Int), m1, ?_, ?_, fun h => ?_, e4, e5⟩
      · rw [p219_26_1]
        simp only [lp0, lp1, lpg, Bool.and_self, cond_true, hcall]
        rw [bindR1 (by simp [backsOk, backOk])]
        rfl
      · simp only [okXs, cntXs]
        have : (okX (dX r) lv && okXs (dxRs t) lv && decide (m + ((cntX (dX r) + cntXs (dxRs t) : Nat) : Int) ≤ 60)) = false := by
          rw [Bool.eq_false_iff]
          intro hx
          simp only [Bool.and_eq_true, decide_eq_true_eq] at hx
          have : (okX (dX r) lv && decide (m + (cntX (dX r) : Int) ≤ 60)) = true := by
            simp only [Bool.and_eq_true, decide_eq_true_eq]
            exact ⟨hx.1.1, by omega⟩
          rw [this] at e2
          cases e2
        have h9 : decide ((0 : Int) ≤ (pre.length : Int)) = true := by simp
        rw [h9]
        exact (congrArg not this).symm
      · simp at h
    | true =>
      have e2' : okX (dX r) lv = true ∧ m + (cntX (dX r) : Int) ≤ 60 := by simpa using e2.symm
      have e3' := e3 rfl
      subst e3'
      have hcp := cntX_pos (dX r)
      obtain ⟨i, m', q1, q2, q3, q4, q5⟩ := l219 ih hlv (x0 := x0) (x1 := x1) t (pre ++ [r]) (m + (cntX (dX r) : Int)) (by simp; omega) e2'.2 hs2
      rw [List.append_assoc, List.singleton_append] at q1
      have hm : m + (cntX (dX r) : Int) + (cntXs (dxRs t) : Int) = m + ((cntX (dX r) + cntXs (dxRs t) : Nat) : Int) := by omega
      refine ⟨i, m', ?_, ?_, fun h => ?_, q4, q5⟩
      · rw [p219_26_1]
        simp only [lp0, lp1, lpg, lpw' (c := r) hpre, Bool.and_self, cond_true, hcall]
        rw [bindR1 (by simp [backsOk, backOk])]
        simp only [Bool.not_true, rsb, cond_false]
        exact q1
      · refine q2.trans (congrArg not ?_)
        rw [Bool.eq_iff_iff]
        simp only [Bool.and_eq_true, decide_eq_true_eq]
        simp only [okXs, cntXs, e2'.1, Bool.true_and, hm]
      · simp only [cntXs, q3 h]; omega

theorem h125 : ∀ lv : Nat, lv < 1000 → H125 lv
  | 0, _ => fun op nm k n t l3 l4 path kids m h1 h2 hs => by
    refine ⟨false, m + 1, ?_, by simp [okX], (fun h => (by cases h)), by omega, by omega⟩
    have hw : Go.IntKind.i64.wrap (m + 1) = m + 1 := wrap64 (by omega) (by omega)
    rw [e125_1, hw]
    rfl
  | lv + 1, hlv => fun op nm k n t l3 l4 path kids m h1 h2 hs => by
    have hw : Go.IntKind.i64.wrap (m + 1) = m + 1 := wrap64 (by omega) (by omega)
    have hl : decide (((lv + 1 : Nat) : Int) > 0) = true := by simp
    have hkl : (dxRs kids).length = kids.length := dxRs_len kids
    have hok : okX (.mk op nm (.mk k n t (dvRs l3) (dKs l4)) path (dxRs kids)) (lv + 1) = (formX op nm (.mk k n t (dvRs l3) (dKs l4)) path kids.length && okXs (dxRs kids) lv) := by rw [← hkl]; rfl
    have hcn : (cntX (.mk op nm (.mk k n t (dvRs l3) (dKs l4)) path (dxRs kids)) : Int) = 1 + (cntXs (dxRs kids) : Int) := by simp [cntX]
    obtain ⟨s1, s2, s3⟩ := hs
    rw [hok, hcn]
    by_cases hm : m + 1 ≤ 60
    · cases hf : formX op nm (.mk k n t (dvRs l3) (dKs l4)) path kids.length with
      | false =>
        refine ⟨false, m + 1, ?_, by simp, (fun h => (by cases h)), by omega, by omega⟩
        rw [e125_1, hw, hl, s171 op nm k n t l3 l4 path kids s1 s2, hf]
        simp only [hm, decide_true, cond_true, bindR0, rsb, cond_false]
      | true =>
        obtain ⟨i, m', q1, q2, q3, q4, q5⟩ := l219 (h125 lv (by omega)) (by omega) (x0 := .nilP) (x1 := .nilP) kids [] (m + 1) (by simp; omega) hm s3
        simp only [List.nil_append, List.length_nil] at q1
        have c1 := (e219_1 kids ((lv + 1 : Nat) : Int) (m + 1)).trans q1
        have c2 := e172_1 kids ((lv + 1 : Nat) : Int) (m + 1)
        rw [c1, bindR1 (by simp [backsOk, backOk])] at c2
        refine ⟨!(decide (0 ≤ i)), m', ?_, ?_, fun h => ?_, q4, q5⟩
        · rw [e125_1, hw, hl, s171 op nm k n t l3 l4 path kids s1 s2, hf]
          simp only [hm, decide_true, cond_true, bindR0, rsb]
          rw [c2, bindR1 (by simp [backsOk, backOk])]
          rfl
        · rw [q2]
          simp [Int.add_assoc]
        · have := q3 (by simpa using h)
          omega
    · refine ⟨false, m + 1, ?_, ?_, (fun h => (by cases h)), by omega, by omega⟩
      · rw [e125_1, hw, hl]
        simp only [hm, decide_false, cond_true, cond_false]
      · have : ¬ (m + (1 + (cntXs (dxRs kids) : Int)) ≤ 60) := by omega
        simp [this]

/-- Is an expression valid? -/
noncomputable def okE (e : X) : Bool := okX e 12 && decide (cntX e ≤ 60)

theorem s65 (op nm : List UInt8) (k n : Int) (t : List UInt8) (l3 l4 path kids : List (List Dat)) (hs : smX (.mk op nm (.mk k n t (dvRs l3) (dKs l4)) path (dxRs kids))) :
    SS (.call 65 [.agg [.d (.str op), .d (.str nm), .d (.int .i64 k), .d (.int .i64 n), .d (.str t), .d (.lst 32 l3), .d (.lst 9 l4), .d (.lst 119 path), .d (.lst 36 kids)]] []) =
      some (.ret false [4] [.bool (okE (.mk op nm (.mk k n t (dvRs l3) (dKs l4)) path (dxRs kids)))] []) := by
  obtain ⟨b, m', q1, q2, _⟩ := h125 12 (by omega) op nm k n t l3 l4 path kids 0 (by omega) (by omega) hs
  have q1' : SS (Key.call 125 [.agg [.d (.str op), .d (.str nm), .d (.int .i64 k), .d (.int .i64 n), .d (.str t), .d (.lst 32 l3), .d (.lst 9 l4), .d (.lst 119 path), .d (.lst 36 kids)], .d (.int .i64 12), .ptr 0 0] [[.d (.int .i64 0)]]) = some (.ret false [4] [.bool b] [[(.int .i64 m', false)]]) := q1
  rw [e65, q1', bindR1 (by simp [backsOk, backOk])]
  have : b = okE (.mk op nm (.mk k n t (dvRs l3) (dKs l4)) path (dxRs kids)) := by
    rw [q2, Bool.eq_iff_iff]
    simp only [okE, Bool.and_eq_true, decide_eq_true_eq]
    constructor <;> rintro ⟨a1, a2⟩ <;> exact ⟨a1, by omega⟩
  rw [← this]
  rfl
end Go.Ab
end

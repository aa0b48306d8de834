/- Part 18 of the proof that this seat's laws lean on: an abstract machine over the model's code, its soundness, and what it says of this program. -/
import Derived.Test.YticeaojhadjaaaaGreatDoorAxM
import Derived.KernelRfl

section
set_option linter.unusedSimpArgs false
/-! expr.walk with the closure of expr.Names: what it appends. -/
set_option autoImplicit false
set_option linter.unusedVariables false
namespace Go.Ab
open Go.Proofs

noncomputable def tb0 : Tab := ⟨Tryz.prog, tyTab, liveTab, flagTab, fun _ _ _ => none⟩
noncomputable def SS0 : Orc := tb0.sem
theorem ssOf0 {q : Key} {R : Out} {r : Res} (h : tb0.step SS0 q = R) (h' : R = some r) : SS0 q = some r := sem_step (B := tb0) (h.trans h')

theorem zc175 (s0 : List UInt8) (s1 : List UInt8) (n2 : Int) (n3 : Int) (s4 : List UInt8) (l5 : List (List Dat)) (l6 : List (List Dat)) (l7 : List (List Dat)) (l8 : List (List Dat)) (l9 : List (List Dat)) {r : Res} (h :
  (bindR Out none false [] [[AV.own 9 l9]] (fun v => some (Res.panic v))
  (fun rs xs =>
    SS0
      (Key.pt 175 [[AV.own 9 []]] 30 { tmps := [(1, AV.fn 176 [AV.ptr 0 0]), (10, AV.d (Dat.lst 36 l8)), (11, AV.d (Dat.int IntKind.i64 (↑l8.length : Int))), (12, AV.d (Dat.int IntKind.i64 0))], boxes := [(0, [AV.own 9 (xat xs 0 0).l])] }))
  (SS0
    (Key.call 176
      [AV.agg [AV.d (Dat.str s0), AV.d (Dat.str s1), AV.d (Dat.int IntKind.i64 n2), AV.d (Dat.int IntKind.i64 n3), AV.d (Dat.str s4), AV.d (Dat.lst 32 l5), AV.d (Dat.lst 9 l6), AV.d (Dat.lst 119 l7), AV.d (Dat.lst 36 l8)], AV.ptr 0 0]
      [[AV.own 9 l9]]))) = some r) :
  SS0 (Key.call 175
  [AV.agg [AV.d (Dat.str s0), AV.d (Dat.str s1), AV.d (Dat.int IntKind.i64 n2), AV.d (Dat.int IntKind.i64 n3), AV.d (Dat.str s4), AV.d (Dat.lst 32 l5), AV.d (Dat.lst 9 l6), AV.d (Dat.lst 119 l7), AV.d (Dat.lst 36 l8)],
    AV.fn 176 [AV.ptr 0 0]]
  [[AV.own 9 l9]]) = some r := ssOf0 (by kernel_rfl) h

theorem zc176 (s0 : List UInt8) (s1 : List UInt8) (n2 : Int) (n3 : Int) (s4 : List UInt8) (l5 : List (List Dat)) (l6 : List (List Dat)) (l7 : List (List Dat)) (l8 : List (List Dat)) (l9 : List (List Dat)) {r : Res} (h :
  (bif s0 == [99, 111, 108] then bif Nat.beq 9 9 && decide ((l9.length + (9, [[Dat.str s1]]).snd.length) * 16 ≤ 140737488355328) then some (Res.ret false [] [] [[(Dat.lst 9 (l9 ++ (9, [[Dat.str s1]]).snd), true)]]) else none
else some (Res.ret false [] [] [[(Dat.lst 9 l9, true)]])) = some r) :
  SS0 (Key.call 176
  [AV.agg [AV.d (Dat.str s0), AV.d (Dat.str s1), AV.d (Dat.int IntKind.i64 n2), AV.d (Dat.int IntKind.i64 n3), AV.d (Dat.str s4), AV.d (Dat.lst 32 l5), AV.d (Dat.lst 9 l6), AV.d (Dat.lst 119 l7), AV.d (Dat.lst 36 l8)], AV.ptr 0 0]
  [[AV.own 9 l9]]) = some r := ssOf0 (by kernel_rfl) h

theorem zp175_30 (l0 : List (List Dat)) (l1 : List (List Dat)) (n2 : Int) (n3 : Int) (l4 : List (List Dat)) {r : Res} (h :
  (bif decide (n3 < n2) then
  bif decide (0 ≤ n3) && decide (n3 < (↑l1.length : Int)) then
    bindR Out none false [] [[AV.own 9 l4]] (fun v => some (Res.panic v))
      (fun rs xs =>
        SS0
          (Key.pt 175 [[AV.own 9 l0]] 30
            { tmps := [(1, AV.fn 176 [AV.ptr 0 0]), (10, AV.d (Dat.lst 36 l1)), (11, AV.d (Dat.int IntKind.i64 n2)), (12, AV.d (Dat.int IntKind.i64 (IntKind.i64.wrap (n3 + 1))))], boxes := [(0, [AV.own 9 (xat xs 0 0).l])] }))
      (SS0
        (Key.call 175
          [AV.agg
              [AV.d (Dat.str ((l1.getD n3.toNat []).getD 0 Dat.nilP).s), AV.d (Dat.str ((l1.getD n3.toNat []).getD 1 Dat.nilP).s), AV.d (Dat.int IntKind.i64 ((l1.getD n3.toNat []).getD 2 Dat.nilP).i),
                AV.d (Dat.int IntKind.i64 ((l1.getD n3.toNat []).getD 3 Dat.nilP).i), AV.d (Dat.str ((l1.getD n3.toNat []).getD 4 Dat.nilP).s), AV.d (Dat.lst 32 ((l1.getD n3.toNat []).getD 5 Dat.nilP).l),
                AV.d (Dat.lst 9 ((l1.getD n3.toNat []).getD 6 Dat.nilP).l), AV.d (Dat.lst 119 ((l1.getD n3.toNat []).getD 7 Dat.nilP).l), AV.d (Dat.lst 36 ((l1.getD n3.toNat []).getD 8 Dat.nilP).l)],
            AV.fn 176 [AV.ptr 0 0]]
          [[AV.own 9 l4]]))
  else none
else some (Res.ret false [] [] [[(Dat.lst 9 l4, true)]])) = some r) :
  SS0 (Key.pt 175 [[AV.own 9 l0]] 30 { tmps := [(1, AV.fn 176 [AV.ptr 0 0]), (10, AV.d (Dat.lst 36 l1)), (11, AV.d (Dat.int IntKind.i64 n2)), (12, AV.d (Dat.int IntKind.i64 n3))], boxes := [(0, [AV.own 9 l4])] }) = some r := ssOf0 (by kernel_rfl) h

theorem nmD_l (x : Dat) : nmD x = nmRs x.l := by cases x <;> simp [nmD, Dat.l, nmRs]
theorem nmCs_map : ∀ l : List Dat, nmCs l = l.map nmD
  | [] => by simp [nmCs]
  | x :: xs => by simp [nmCs, nmCs_map xs]
theorem nmCs_at (r : List Dat) : (nmCs r).getD 8 [] = nmRs (r.getD 8 .nilP).l := by
  rw [nmCs_map, ← nmD_l]
  simp only [List.getD_eq_getElem?_getD, List.getElem?_map]
  cases r[8]? with
  | none => simp [nmD]
  | some x => rfl
theorem nmRs_cons (r : List Dat) (rs : List (List Dat)) : nmRs (r :: rs) = rawOf (r.getD 8 .nilP).l (r.getD 0 .nilP).s (r.getD 1 .nilP).s ++ nmRs rs := by
  rw [nmRs, nmCs_at]; rfl

theorem szD_l (x : Dat) : szD x = szRs x.l := by cases x <;> simp [szD, Dat.l, szRs]
theorem szCs_at : ∀ (r : List Dat) (i : Nat), szRs (r.getD i .nilP).l ≤ szCs r
  | [], i => by simp [Dat.l, szRs]
  | x :: xs, 0 => by
    rw [szCs, szD_l]
    show szRs x.l ≤ _
    omega
  | x :: xs, i + 1 => by
    have := szCs_at xs i
    rw [szCs]
    show szRs (xs.getD i .nilP).l ≤ _
    omega
theorem szRs_len : ∀ l : List (List Dat), l.length ≤ szRs l
  | [] => by simp
  | r :: rs => by have := szRs_len rs; rw [szRs]; simp only [List.length_cons]; omega
theorem szRs_append : ∀ (a b : List (List Dat)), szRs (a ++ b) = szRs a + szRs b
  | [], b => by simp [szRs]
  | r :: a, b => by rw [List.cons_append, szRs, szRs, szRs_append a b]; omega

theorem bindS {R : Type} {fail : R} {kp : Dat → R} {k : List Dat → List (List (Dat × Bool)) → R} {m m' : List (List Dat)} :
    bindR R fail false [] [[.own 9 m]] kp k (some (.ret false [] [] [[(.lst 9 m', true)]])) = k [] [[(.lst 9 m', true)]] := by
  simp [bindR, backsOk, backOk]
theorem xatS (m : List (List Dat)) : (xat [[(Dat.lst 9 m, true)]] 0 0).l = m := rfl

theorem room0 {a : Nat} (h : a ≤ 8796093022208) : a * 16 ≤ 140737488355328 := Nat.le_trans (Nat.mul_le_mul_right 16 h) (by decide)
theorem room1 {a b : Nat} (h : a + b + 1 ≤ 8796093022208) : a + 1 ≤ 8796093022208 := by omega
theorem room2 {a b c : Nat} (h : a + (b + c) + 1 ≤ 8796093022208) : a + b + 1 ≤ 8796093022208 := by omega
theorem room3 {a b c d : Nat} (h : a + (b + c) + 1 ≤ 8796093022208) (e : d = a + b) : d + c + 1 ≤ 8796093022208 := by omega
theorem sz1 {a b c d N : Nat} (h : a + (1 + b + c) ≤ N + 1) (h' : d ≤ b) : d ≤ N := by omega
theorem sz2 {a b c d : Nat} (h : a + (1 + b + c) ≤ 1000000) (h' : d ≤ b) : d ≤ 1000000 := by omega
theorem sz3 {a b n : Nat} (h : n ≤ b) (h' : b ≤ 1000000) (h2 : a < n) : a < 4611686018427387904 := by omega

theorem z176 (s0 s1 : List UInt8) (n2 n3 : Int) (s4 : List UInt8) (l5 l6 l7 l8 m : List (List Dat)) (h : m.length + 1 ≤ 8796093022208) :
    SS0 (.call 176 [.agg [.d (.str s0), .d (.str s1), .d (.int .i64 n2), .d (.int .i64 n3), .d (.str s4), .d (.lst 32 l5), .d (.lst 9 l6), .d (.lst 119 l7), .d (.lst 36 l8)], .ptr 0 0] [[.own 9 m]]) =
      some (.ret false [] [] [[(.lst 9 (m ++ (cond (s0 == [99, 111, 108]) [s1] []).map fun s => [.str s]), true)]]) := zc176 _ _ _ _ _ _ _ _ _ _ (by
  have e : (Nat.beq 9 9 && decide ((m.length + ([[Dat.str s1]] : List (List Dat)).length) * 16 ≤ 140737488355328)) = true := by
    rw [Bool.and_eq_true]
    exact ⟨rfl, by rw [decide_eq_true_eq]; exact room0 h⟩
  by_cases hq : s0 = [99, 111, 108]
  · have hq' : (s0 == [99, 111, 108]) = true := by simpa using hq
    rw [hq']
    simp only [cond_true]
    show cond (Nat.beq 9 9 && decide ((m.length + ([[Dat.str s1]] : List (List Dat)).length) * 16 ≤ 140737488355328)) _ _ = _
    rw [e]
    rfl
  · have hq' : (s0 == [99, 111, 108]) = false := by simpa using hq
    rw [hq']
    simp)

def H175 (N : Nat) : Prop := ∀ (s0 s1 : List UInt8) (n2 n3 : Int) (s4 : List UInt8) (l5 l6 l7 l8 m : List (List Dat)), szRs l8 ≤ N → szRs l8 ≤ 1000000 → m.length + (rawOf l8 s0 s1).length + 1 ≤ 8796093022208 →
  SS0 (.call 175 [.agg [.d (.str s0), .d (.str s1), .d (.int .i64 n2), .d (.int .i64 n3), .d (.str s4), .d (.lst 32 l5), .d (.lst 9 l6), .d (.lst 119 l7), .d (.lst 36 l8)], .fn 176 [.ptr 0 0]] [[.own 9 m]]) =
    some (.ret false [] [] [[(.lst 9 (m ++ (rawOf l8 s0 s1).map fun s => [.str s]), true)]])

theorem wrapN {n : Nat} (h : n < 4611686018427387904) : Go.IntKind.i64.wrap ((n : Int) + 1) = ((n + 1 : Nat) : Int) := by
  simp only [Go.IntKind.wrap, Go.IntKind.signed, Go.IntKind.bits]
  simp
  omega

theorem l175 {N : Nat} (ih : H175 N) : ∀ (t pre m l0 : List (List Dat)), szRs (pre ++ t) ≤ N + 1 → szRs (pre ++ t) ≤ 1000000 → m.length + (nmRs t).length + 1 ≤ 8796093022208 →
    SS0 (.pt 175 [[.own 9 l0]] 30 { tmps := [(1, .fn 176 [.ptr 0 0]), (10, .d (.lst 36 (pre ++ t))), (11, .d (.int .i64 ((pre ++ t).length : Int))), (12, .d (.int .i64 (pre.length : Int)))], boxes := [(0, [.own 9 m])] }) =
      some (.ret false [] [] [[(.lst 9 (m ++ (nmRs t).map fun s => [.str s]), true)]])
  | [], pre, m, l0, h1, h2, h3 => zp175_30 _ _ _ _ _ (by
      have e : decide ((pre.length : Int) < ((pre ++ ([] : List (List Dat))).length : Int)) = false := by simp
      simp [e, nmRs])
  | r :: t, pre, m, l0, h1, h2, h3 => zp175_30 _ _ _ _ _ (by
      have hlen := szRs_len (pre ++ r :: t)
      have hsz := h1
      rw [szRs_append, szRs] at hsz
      have h2' := h2
      rw [szRs_append, szRs] at h2'
      have hc := szCs_at r 8
      rw [nmRs_cons, List.length_append] at h3
      have hcall := ih (r.getD 0 .nilP).s (r.getD 1 .nilP).s (r.getD 2 .nilP).i (r.getD 3 .nilP).i (r.getD 4 .nilP).s (r.getD 5 .nilP).l (r.getD 6 .nilP).l (r.getD 7 .nilP).l (r.getD 8 .nilP).l m (sz1 hsz hc) (sz2 h2' hc) (room2 h3)
      have hrec := l175 ih t (pre ++ [r]) (m ++ (rawOf (r.getD 8 .nilP).l (r.getD 0 .nilP).s (r.getD 1 .nilP).s).map fun s => [.str s]) l0 (by rw [List.append_assoc, List.singleton_append]; exact h1) (by rw [List.append_assoc, List.singleton_append]; exact h2) (room3 h3 (by rw [List.length_append, List.length_map]))
      rw [List.append_assoc, List.singleton_append] at hrec
      have e1 : decide ((pre.length : Int) < ((pre ++ r :: t).length : Int)) = true := by rw [decide_eq_true_eq, List.length_append, List.length_cons]; omega
      have e2 : decide ((0 : Int) ≤ (pre.length : Int)) = true := by simp
      have e3 : (pre ++ r :: t).getD (pre.length : Int).toNat [] = r := by simp [List.getD_eq_getElem?_getD]
      have e4 : Go.IntKind.i64.wrap ((pre.length : Int) + 1) = ((pre ++ [r]).length : Int) := by rw [wrapN (sz3 (a := pre.length) hlen h2 (by rw [List.length_append, List.length_cons]; exact Nat.lt_add_of_pos_right (Nat.succ_pos _)))]; simp
      simp only [e1, e2, Bool.and_self, cond_true, e3, e4, hcall, bindS, xatS, hrec]
      rw [nmRs_cons, List.map_append, List.append_assoc])

theorem h175 : ∀ N : Nat, H175 N
  | 0 => fun s0 s1 n2 n3 s4 l5 l6 l7 l8 m h1 h2 h3 => zc175 _ _ _ _ _ _ _ _ _ _ (by
      obtain rfl : l8 = [] := by
        exact List.length_eq_zero_iff.1 (Nat.le_zero.1 (Nat.le_trans (szRs_len l8) h1))
      have hp := zp175_30 [] [] 0 0 (m ++ (cond (s0 == [99, 111, 108]) [s1] []).map fun s => [.str s]) (r := .ret false [] [] [[(.lst 9 (m ++ (cond (s0 == [99, 111, 108]) [s1] []).map fun s => [.str s]), true)]]) rfl
      simp only [z176 s0 s1 n2 n3 s4 l5 l6 l7 [] m (room1 h3), bindS, xatS]
      have e : rawOf [] s0 s1 = cond (s0 == [99, 111, 108]) [s1] [] := by simp [rawOf, nmRs]
      rw [e]
      exact hp)
  | N + 1 => fun s0 s1 n2 n3 s4 l5 l6 l7 l8 m h1 h2 h3 => zc175 _ _ _ _ _ _ _ _ _ _ (by
      simp only [z176 s0 s1 n2 n3 s4 l5 l6 l7 l8 m (room1 h3), bindS, xatS]
      have hraw : rawOf l8 s0 s1 = cond (s0 == [99, 111, 108]) [s1] [] ++ nmRs l8 := rfl
      rw [hraw, List.length_append] at h3
      have := l175 (h175 N) l8 [] (m ++ (cond (s0 == [99, 111, 108]) [s1] []).map fun s => [.str s]) [] h1 h2 (room3 h3 (by rw [List.length_append, List.length_map]))
      rw [hraw, List.map_append, ← List.append_assoc]
      exact this)
end Go.Ab
end

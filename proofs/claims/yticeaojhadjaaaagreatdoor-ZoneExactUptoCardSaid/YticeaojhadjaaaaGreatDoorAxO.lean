/- Part 15 of the proof that this seat's laws lean on: an abstract machine over the model's code, its soundness, and what it says of this program. -/
import Derived.Test.YticeaojhadjaaaaGreatDoorAxN
import Derived.Laws.RangeAny

section
set_option linter.unusedSimpArgs false
/-! How equations are used. -/
set_option autoImplicit false
set_option linter.unusedVariables false
namespace Go.Ab

theorem bindR0 {R : Type} {fail : R} {ow : Bool} {ts : List TypeId} {kp : Dat → R} {k : List Dat → List (List (Dat × Bool)) → R} {rs : List Dat} :
    bindR R fail false ts [] kp k (some (.ret ow ts rs [])) = k rs [] := by
  simp [bindR, backsOk]

theorem wrap64 {n : Int} (h0 : -9223372036854775808 ≤ n) (h1 : n < 9223372036854775808) : Go.IntKind.i64.wrap n = n := by
  simp only [Go.IntKind.wrap, Go.IntKind.signed, Go.IntKind.bits]
  simp
  omega

theorem rsb (b : Bool) : (([Dat.bool b] : List Dat).getD 0 .nilP).b = b := rfl
theorem rsi (k : IntKind) (n : Int) : (([Dat.int k n] : List Dat).getD 0 .nilP).i = n := rfl

def icmp (a b : Int) : Int := if a < b then -1 else if b < a then 1 else 0

theorem s133 (n : Int) : SS (.call 133 [.d (.int .i64 n)] []) = some (.ret false [4] [.bool false] []) := c133 n (by simp)
theorem s76 (a b : Int) : SS (.call 76 [.d (.int .i64 a), .d (.int .i64 b)] []) = some (.ret false [3] [.int .i64 (icmp a b)] []) := c76 a b (by
  simp only [s133, bindR0, rsb, cond_false, icmp]
  by_cases h1 : a < b
  · simp [h1]
  · by_cases h2 : b < a
    · simp [h1, h2]
    · simp [h1, h2])

/-! ### Loops that go through a list -/
section loop
variable {α : Type} {pre t : List α} {c d : α}
theorem lp0 : decide ((0 : Int) ≤ (pre.length : Int)) = true := by simp
theorem lp1 : decide ((pre.length : Int) < ((pre ++ c :: t).length : Int)) = true := by simp; omega
theorem lp1e : decide ((pre.length : Int) < ((pre ++ ([] : List α)).length : Int)) = false := by simp
theorem lpg : (pre ++ c :: t).getD (pre.length : Int).toNat d = c := by simp [List.getD_eq_getElem?_getD]
theorem lpw (h : (pre ++ c :: t).length < 4611686018427387904) : Go.IntKind.i64.wrap ((pre.length : Int) + 1) = ((pre ++ [c]).length : Int) := by
  rw [wrap64 (by omega) (by simp at h; omega)]; simp
end loop

def okc (c : UInt8) : Bool := decide (32 ≤ c.toNat) && decide (c.toNat ≤ 126)
def isText (s : List UInt8) : Bool := decide (s.length ≤ 100) && s.all okc

theorem l137 : ∀ (t pre : List UInt8), (pre ++ t).length < 4611686018427387904 →
    SS (.pt 137 [] 58 { tmps := [(0, .d (.str (pre ++ t))), (3, .d (.int .i64 (pre.length : Int)))], boxes := [] }) = some (.ret false [4] [.bool (t.all okc)] [])
  | [], pre, hs => p137_58 _ _ (by simp only [lp1e, cond_false]; rfl)
  | c :: t, pre, hs => p137_58 _ _ (by
    have ih := l137 t (pre ++ [c]) (by simpa using hs)
    rw [List.append_assoc, List.singleton_append] at ih
    simp only [lp0, lp1, lpg, lpw hs, Bool.and_self, cond_true, ih]
    by_cases h1 : (c.toNat : Int) < 32
    · have : okc c = false := by simp [okc]; omega
      simp [h1, this]
    · by_cases h2 : (c.toNat : Int) > 126
      · have : okc c = false := by simp [okc]; omega
        simp [h1, h2, this]
      · have : okc c = true := by simp [okc]; omega
        simp [h1, h2, this])

theorem s137 (s : List UInt8) : SS (.call 137 [.d (.str s)] []) = some (.ret false [4] [.bool (isText s)] []) := c137 s (by
  by_cases h : (s.length : Int) > 100
  · have : isText s = false := by simp [isText]; omega
    simp [h, this]
  · have e : isText s = s.all okc := by simp [isText]; omega
    simp only [h, decide_false, cond_false, e]
    exact l137 s [] (by simp; omega))

theorem s62 (a b : Bool) : SS (.call 62 [.d (.bool a), .d (.bool b)] []) = some (.ret false [3] [.int .i64 (cond b 0 (cond a (-1) 1))] []) := c62 a b (by cases a <;> cases b <;> rfl)

theorem dec_low {pre t : List UInt8} {c : UInt8} (h : c.toNat < 128) : decR (pre ++ c :: t) pre.length = (c.toNat : Int) ∧ decW (pre ++ c :: t) pre.length = 1 := by
  have hp : pre.length < (⟨(pre ++ c :: t).toArray⟩ : ByteArray).size := by show _ < (pre ++ c :: t).toArray.size; simp
  have hg : (⟨(pre ++ c :: t).toArray⟩ : ByteArray)[pre.length]'hp = c := by
    show (pre ++ c :: t).toArray[pre.length]'hp = c
    simp
  have := decode_ascii ⟨(pre ++ c :: t).toArray⟩ pre.length hp (by rw [hg]; exact h)
  unfold decR decW
  rw [this, hg]
  exact ⟨rfl, rfl⟩
theorem dec_high {pre t : List UInt8} {c : UInt8} (h : 128 ≤ c.toNat) : 128 ≤ decR (pre ++ c :: t) pre.length := by
  have hp : pre.length < (⟨(pre ++ c :: t).toArray⟩ : ByteArray).size := by show _ < (pre ++ c :: t).toArray.size; simp
  have hg : (⟨(pre ++ c :: t).toArray⟩ : ByteArray)[pre.length]'hp = c := by
    show (pre ++ c :: t).toArray[pre.length]'hp = c
    simp
  have := (decode_high ⟨(pre ++ c :: t).toArray⟩ pre.length hp (by rw [hg]; exact h)).1
  unfold decR
  exact Int.ofNat_le.2 this

theorem s272 (n : Int) : SS (.call 272 [.d (.int .i32 n)] []) = some (.ret false [4] [.bool (decide (n < 32) || decide (n > 126))] []) := c272 n (by by_cases h : n < 32 <;> simp [h])

theorem l326 : ∀ (t pre : List UInt8), (pre ++ t).length < 4611686018427387904 →
    ∃ i : Int, SS (.pt 326 [] 26 { tmps := [(1, .d (.fn 272 [])), (2, .d (.bool true)), (10, .own 1000000 [[.str (pre ++ t), .int .i64 (pre.length : Int)]])], boxes := [] }) = some (.ret false [3] [.int .i64 i] []) ∧ decide (i ≥ 0) = !(t.all okc)
  | [], pre, hs => ⟨-1, p326_26 _ _ _ (by simp only [lp1e, cond_false]), rfl⟩
  | c :: t, pre, hs => by
    by_cases hc : okc c = true
    · obtain ⟨i, h1, h2⟩ := l326 t (pre ++ [c]) (by simpa using hs)
      rw [List.append_assoc, List.singleton_append] at h1
      have hlow : c.toNat < 128 := by simp [okc] at hc; omega
      obtain ⟨d1, d2⟩ := dec_low (pre := pre) (t := t) hlow
      refine ⟨i, p326_26 _ _ _ ?_, by rw [h2, List.all_cons, hc, Bool.true_and]⟩
      have e : ((pre.length : Int) + ((1 : Nat) : Int)) = ((pre ++ [c]).length : Int) := by simp
      have hb : (decide ((c.toNat : Int) < 32) || decide ((c.toNat : Int) > 126)) = false := by simp [okc] at hc; simp; omega
      simp only [lp1, cond_true, Int.toNat_natCast, d1, d2, s272, bindR0, rsb, hb, e, h1]
      rfl
    · refine ⟨(pre.length : Int), p326_26 _ _ _ ?_, ?_⟩
      · have hb : (decide (decR (pre ++ c :: t) pre.length < 32) || decide (decR (pre ++ c :: t) pre.length > 126)) = true := by
          by_cases hlow : c.toNat < 128
          · rw [(dec_low (pre := pre) (t := t) hlow).1]
            simp [okc] at hc; simp; omega
          · have := dec_high (pre := pre) (t := t) (c := c) (by omega)
            simp; omega
        simp only [lp1, cond_true, Int.toNat_natCast, s272, bindR0, rsb, hb]
        rfl
      · have : okc c = false := by simpa using hc
        rw [List.all_cons, this, Bool.false_and]
        simp

theorem s222 (s : List UInt8) : SS (.call 222 [.d (.str s)] []) = some (.ret false [4] [.bool (isText s)] []) := c222 s (by
  by_cases h : (s.length : Int) ≤ 100
  · obtain ⟨i, h1, h2⟩ := l326 s [] (by simp; omega)
    have h3 := c326 s true (r := .ret false [3] [.int .i64 i] []) h1
    have h4 := c298 s (r := .ret false [3] [.int .i64 i] []) (by simp only [h3, bindR0, rsi])
    have h5 := c271 s (r := .ret false [4] [.bool (!(s.all okc))] []) (by simp only [h4, bindR0]; show some (Res.ret false [4] [.bool (decide (i ≥ 0))] []) = _; rw [h2])
    have e : isText s = s.all okc := by simp [isText]; omega
    simp only [h, decide_true, cond_true, h5, bindR0, rsb, e, Bool.not_not]
  · have : isText s = false := by simp [isText]; omega
    simp [h, this])
end Go.Ab
end

section
set_option linter.unusedSimpArgs false
/-! Values. -/
set_option autoImplicit false
set_option linter.unusedVariables false
namespace Go.Ab

/-- A value: kind, number, text, items, keys. -/
inductive V where
  | mk (k n : Int) (t : List UInt8) (items : List V) (keys : List (List UInt8))

noncomputable def dK (r : List Dat) : List UInt8 := (r.getD 0 .nilP).s
noncomputable def dKs (l : List (List Dat)) : List (List UInt8) := l.map dK

mutual
noncomputable def dvD : Dat → List V
  | .lst _ rows => dvRs rows
  | _ => []
noncomputable def dvRs : List (List Dat) → List V
  | [] => []
  | r :: rs => V.mk (r.getD 0 .nilP).i (r.getD 1 .nilP).i (r.getD 2 .nilP).s ((dvCs r).getD 3 []) (dKs (r.getD 4 .nilP).l) :: dvRs rs
noncomputable def dvCs : List Dat → List (List V)
  | [] => []
  | x :: xs => dvD x :: dvCs xs
end

/-- A row of cells as a value. -/
noncomputable def dV (r : List Dat) : V := V.mk (r.getD 0 .nilP).i (r.getD 1 .nilP).i (r.getD 2 .nilP).s (dvRs (r.getD 3 .nilP).l) (dKs (r.getD 4 .nilP).l)

theorem dvD_l (x : Dat) : dvD x = dvRs x.l := by cases x <;> simp [dvD, Dat.l, dvRs]
theorem dvCs_map : ∀ l : List Dat, dvCs l = l.map dvD
  | [] => by simp [dvCs]
  | x :: xs => by simp [dvCs, dvCs_map xs]
theorem dvRs_map : ∀ l : List (List Dat), dvRs l = l.map dV
  | [] => by simp [dvRs]
  | r :: rs => by
    have : (dvCs r).getD 3 [] = dvRs (r.getD 3 .nilP).l := by
      rw [dvCs_map, ← dvD_l]
      simp only [List.getD_eq_getElem?_getD, List.getElem?_map]
      cases r[3]? with
      | none => simp [dvD]
      | some x => rfl
    simp only [dvRs, this, List.map_cons, dvRs_map rs]
    rfl

def V.k : V → Int | .mk k _ _ _ _ => k
def V.n : V → Int | .mk _ n _ _ _ => n
def V.t : V → List UInt8 | .mk _ _ t _ _ => t
def V.items : V → List V | .mk _ _ _ l _ => l
def V.keys : V → List (List UInt8) | .mk _ _ _ _ l => l

mutual
/-- How many values it is. -/
def cnt : V → Nat
  | .mk _ _ _ l _ => 1 + cnts l
def cnts : List V → Nat
  | [] => 0
  | v :: l => cnt v + cnts l
end

/-- Are keys texts, each before the next? -/
def keysOk (prev : Option (List UInt8)) : List (List UInt8) → Bool
  | [] => true
  | s :: l => isText s && (match prev with | none => true | some p => Go.Op.bytesLess p s) && keysOk (some s) l

/-- Is a value by itself as its kind wants it? -/
def ownF (k n : Int) (t : List UInt8) (items : List V) (keys : List (List UInt8)) : Bool :=
  if k = 0 then items.isEmpty && keys.isEmpty && decide (n = 0) && t.isEmpty
  else if k = 1 then items.isEmpty && keys.isEmpty && decide (n = 0 ∨ n = 1) && t.isEmpty
  else if k = 2 then items.isEmpty && keys.isEmpty && decide (-1000000000000 ≤ n ∧ n ≤ 1000000000000) && t.isEmpty
  else if k = 3 then items.isEmpty && keys.isEmpty && decide (n = 0) && isText t
  else if k = 4 then keys.isEmpty && decide (n = 0) && t.isEmpty
  else if k = 5 then decide (keys.length = items.length) && decide (n = 0) && t.isEmpty && keysOk none keys
  else false
def ownOk : V → Bool
  | .mk k n t items keys => ownF k n t items keys

mutual
/-- Is it valid within so many levels? -/
def okL : V → Nat → Bool
  | .mk k n t l ks, lv => match lv with
    | 0 => false
    | lv + 1 => ownOk (.mk k n t l ks) && okLs l lv
def okLs : List V → Nat → Bool
  | [], _ => true
  | v :: l, lv => okL v lv && okLs l lv
end

theorem cnt_pos (v : V) : 1 ≤ cnt v := by cases v; simp [cnt]
theorem cnts_len : ∀ l : List V, l.length ≤ cnts l
  | [] => by simp [cnts]
  | v :: l => by have := cnts_len l; have := cnt_pos v; simp [cnts]; omega
end Go.Ab
end

section
set_option linter.unusedSimpArgs false
/-! What cirrusref01.nodes counts. -/
set_option autoImplicit false
set_option linter.unusedVariables false
namespace Go.Ab

def nodesV (v : V) (lv : Nat) : Int := if okL v lv && decide (cnt v ≤ 60) then cnt v else 61

def H158 (lv : Nat) : Prop := ∀ (k n : Int) (t : List UInt8) (l3 l4 : List (List Dat)),
  SS (.call 158 [.agg [.d (.int .i64 k), .d (.int .i64 n), .d (.str t), .d (.lst 32 l3), .d (.lst 9 l4)], .d (.int .i64 (lv : Int))] []) = some (.ret false [3] [.int .i64 (nodesV (.mk k n t (dvRs l3) (dKs l4)) lv)] [])

theorem l158 {lv : Nat} (ih : H158 lv) (hlv : lv < 1000) : ∀ (t pre : List (List Dat)) (a : Int), 1 ≤ a → a ≤ 60 → (pre ++ t).length ≤ 60 → ∀ (k n : Int) (s : List UInt8) (l8 : List (List Dat)),
    SS (.pt 158 [] 506 { tmps := [(1, .d (.int .i64 ((lv + 1 : Nat) : Int))), (2, .ptr 1002 0), (5, .d (.int .i64 61)), (7, .d (.int .i64 a)), (8, .d (.int .i64 (pre.length : Int)))], boxes := [(1002, [.d (.int .i64 k), .d (.int .i64 n), .d (.str s), .d (.lst 32 (pre ++ t)), .d (.lst 9 l8)])] }) =
      some (.ret false [3] [.int .i64 (if okLs (dvRs t) lv && decide (a + (cnts (dvRs t) : Int) ≤ 60) then a + (cnts (dvRs t) : Int) else 61)] [])
  | [], pre, a, h1, h2, h3, k, n, s, l8 => p158_506 _ _ _ _ _ _ _ _ _ (by
      simp only [lp1e, cond_false]
      simp [dvRs, okLs, cnts, h2])
  | r :: t, pre, a, h1, h2, h3, k, n, s, l8 => p158_506 _ _ _ _ _ _ _ _ _ (by
      have hr := ih (r.getD 0 .nilP).i (r.getD 1 .nilP).i (r.getD 2 .nilP).s (r.getD 3 .nilP).l (r.getD 4 .nilP).l
      have hw : Go.IntKind.i64.wrap (((lv + 1 : Nat) : Int) - 1) = (lv : Int) := by rw [wrap64 (by omega) (by omega)]; omega
      have hv : V.mk (r.getD 0 .nilP).i (r.getD 1 .nilP).i (r.getD 2 .nilP).s (dvRs (r.getD 3 .nilP).l) (dKs (r.getD 4 .nilP).l) = dV r := rfl
      rw [hv] at hr
      have hc : dvRs (r :: t) = dV r :: dvRs t := by rw [dvRs_map, dvRs_map]; rfl
      have hb : (pre ++ r :: t).length < 4611686018427387904 := by omega
      simp only [lp0, lp1, lpg, lpw hb, Bool.and_self, cond_true, hw, hr, bindR0, rsi, hc, okLs, cnts]
      by_cases hq : okL (dV r) lv = true ∧ cnt (dV r) ≤ 60
      · have e : nodesV (dV r) lv = (cnt (dV r) : Int) := by simp [nodesV, hq.1, hq.2]
        have hw2 : Go.IntKind.i64.wrap (a + (cnt (dV r) : Int)) = a + (cnt (dV r) : Int) := wrap64 (by omega) (by omega)
        simp only [e, hw2]
        by_cases hs : a + (cnt (dV r) : Int) > 60
        · have : ¬ (a + ((cnt (dV r) + cnts (dvRs t) : Nat) : Int) ≤ 60) := by omega
          simp only [hs, decide_true, cond_true, this, decide_false, Bool.and_false]
          rfl
        · have := l158 ih hlv t (pre ++ [r]) (a + (cnt (dV r) : Int)) (by omega) (by omega) (by simpa using h3) k n s l8
          rw [List.append_assoc, List.singleton_append] at this
          simp only [hs, decide_false, cond_false, this, hq.1, Bool.true_and]
          have e2 : a + ((cnt (dV r) + cnts (dvRs t) : Nat) : Int) = a + (cnt (dV r) : Int) + (cnts (dvRs t) : Int) := by omega
          rw [e2]
      · have e : nodesV (dV r) lv = 61 := by
          simp only [nodesV]
          rw [if_neg]
          simpa using hq
        have hw2 : Go.IntKind.i64.wrap (a + 61) = a + 61 := wrap64 (by omega) (by omega)
        simp only [e, hw2]
        have h4 : a + 61 > 60 := by omega
        simp only [h4, decide_true, cond_true]
        congr 4
        rw [if_neg]
        intro hx
        simp only [Bool.and_eq_true, decide_eq_true_eq] at hx
        exact hq ⟨hx.1.1, by omega⟩)

def plainB (n : Int) (t : List UInt8) (l3 l4 : List (List Dat)) (b5 b6 b7 b8 : Bool) : Bool := (b5 || decide (n = 0)) && (b6 || t.isEmpty) && (b7 || l3.isEmpty) && (b8 || l4.isEmpty)

theorem len0 {α : Type} (l : List α) : ((l.length : Int) == 0) = l.isEmpty := by
  cases l with
  | nil => rfl
  | cons x l =>
    have : ((((x :: l).length : Nat) : Int) == 0) = false := by simp; omega
    rw [this]; rfl
theorem eqnil {α : Type} [BEq α] [LawfulBEq α] (l : List α) : (l == []) = l.isEmpty := by cases l <;> rfl

theorem s209 (k n : Int) (t : List UInt8) (l3 l4 : List (List Dat)) (b5 b6 b7 b8 : Bool) :
    SS (.call 209 [.agg [.d (.int .i64 k), .d (.int .i64 n), .d (.str t), .d (.lst 32 l3), .d (.lst 9 l4)], .d (.bool b5), .d (.bool b6), .d (.bool b7), .d (.bool b8)] []) = some (.ret false [4] [.bool (plainB n t l3 l4 b5 b6 b7 b8)] []) :=
  c209 _ _ _ _ _ _ _ _ _ (by
    have hn : (n == 0) = decide (n = 0) := by simp [BEq.beq]
    simp only [len0, eqnil, plainB, hn]
    cases b5 <;> cases b6 <;> cases b7 <;> cases b8 <;> cases decide (n = 0) <;> cases t.isEmpty <;> cases l3.isEmpty <;> cases l4.isEmpty <;> rfl)

/-- The keys' loop: then what comes behind, or 61. -/
theorem k158 {lv : Nat} {k n : Int} {s : List UInt8} {l3 : List (List Dat)} {r : Res} : ∀ (t pre : List (List Dat)), (pre ++ t).length < 4611686018427387904 →
    SS (.pt 158 [] 506 { tmps := [(1, .d (.int .i64 (lv : Int))), (2, .ptr 1002 0), (5, .d (.int .i64 61)), (7, .d (.int .i64 1)), (8, .d (.int .i64 0))], boxes := [(1002, [.d (.int .i64 k), .d (.int .i64 n), .d (.str s), .d (.lst 32 l3), .d (.lst 9 (pre ++ t))])] }) = some r →
    SS (.pt 158 [] 4030454 { tmps := [(1, .d (.int .i64 (lv : Int))), (2, .ptr 1002 0), (5, .d (.int .i64 61)), (6, .d (.int .i64 (pre.length : Int)))], boxes := [(1002, [.d (.int .i64 k), .d (.int .i64 n), .d (.str s), .d (.lst 32 l3), .d (.lst 9 (pre ++ t))])] }) =
      some (if keysOk (pre.getLast?.map dK) (dKs t) then r else .ret false [3] [.int .i64 61] [])
  | [], pre, hs, hr => p158_4030454 _ _ _ _ _ _ _ _ (by
      simp only [lp1e, cond_false, hr]
      simp [dKs, keysOk])
  | x :: t, pre, hs, hr => p158_4030454 _ _ _ _ _ _ _ _ (by
      have ih := k158 (lv := lv) (k := k) (n := n) (s := s) (l3 := l3) (r := r) t (pre ++ [x]) (by simpa using hs) (by rw [List.append_assoc, List.singleton_append]; exact hr)
      rw [List.append_assoc, List.singleton_append] at ih
      have hk : dKs (x :: t) = dK x :: dKs t := rfl
      have hlast : (pre ++ [x]).getLast? = some x := by simp
      rw [hlast] at ih
      have hx : ((x.getD 0 .nilP).s) = dK x := rfl
      simp only [lp0, lp1, lpg, lpw hs, Bool.and_self, cond_true, s137, bindR0, rsb, hx, ih, hk, keysOk]
      cases ht : isText (dK x) with
      | false => simp
      | true =>
        simp only [Bool.not_true, cond_false, Bool.true_and]
        rcases List.eq_nil_or_concat pre with rfl | ⟨p, y, hp⟩
        · simp [Option.map]
        · rw [List.concat_eq_append] at hp
          subst hp
          have e0 : decide ((((p ++ [y]).length : Nat) : Int) > 0) = true := by simp
          have hlt : (p ++ [y]).length < 4611686018427387904 := by simp at hs ⊢; omega
          have e1 : Go.IntKind.i64.wrap ((((p ++ [y]).length : Nat) : Int) - 1) = (p.length : Int) := by rw [wrap64 (by omega) (by omega)]; simp
          have e2 : ((p ++ [y]) ++ x :: t).getD (p.length : Int).toNat [] = y := by simp [List.getD_eq_getElem?_getD]
          have e3 : decide ((0 : Int) ≤ (p.length : Int)) = true := by simp
          have e4 : decide ((p.length : Int) < (((p ++ [y] ++ x :: t).length : Nat) : Int)) = true := by simp; omega
          have hy : ((y.getD 0 .nilP).s) = dK y := rfl
          simp only [e0, e1, e2, e3, e4, Bool.and_self, cond_true, hy]
          have : (p ++ [y]).getLast? = some y := by simp
          rw [this]
          cases hb : Go.Op.bytesLess (dK y) (dK x) <;> simp [hb])

theorem dvRs_len (l : List (List Dat)) : (dvRs l).length = l.length := by rw [dvRs_map, List.length_map]
theorem dKs_len (l : List (List Dat)) : (dKs l).length = l.length := by simp [dKs]
theorem dvRs_empty (l : List (List Dat)) : (dvRs l).isEmpty = l.isEmpty := by cases l <;> simp [dvRs_map]
theorem dKs_empty (l : List (List Dat)) : (dKs l).isEmpty = l.isEmpty := by cases l <;> simp [dKs]

theorem nodesV_succ (k n : Int) (t : List UInt8) (l : List V) (ks : List (List UInt8)) (lv : Nat) :
    nodesV (.mk k n t l ks) (lv + 1) = if ownOk (.mk k n t l ks) = true then (if okLs l lv && decide (1 + (cnts l : Int) ≤ 60) then 1 + (cnts l : Int) else 61) else 61 := by
  simp only [nodesV, okL, cnt]
  by_cases ho : ownOk (.mk k n t l ks) = true
  · by_cases hk : okLs l lv = true
    · by_cases hc : 1 + cnts l ≤ 60
      · have : (1 + (cnts l : Int) ≤ 60) := by omega
        simp [ho, hk, hc, this]
      · have : ¬ (1 + (cnts l : Int) ≤ 60) := by omega
        simp [ho, hk, hc, this]
    · simp [ho, hk]
  · simp [ho]

theorem h158 : ∀ lv : Nat, lv < 1000 → H158 lv
  | 0, _ => fun k n t l3 l4 => c158 _ _ _ _ _ _ (by
      simp [nodesV, okL])
  | lv + 1, hlv => fun k n t l3 l4 => c158 _ _ _ _ _ _ (by
      have ih := h158 lv (by omega)
      have e0 : decide ((((lv + 1 : Nat) : Int)) < 1) = false := by simp; omega
      rw [nodesV_succ]
      simp only [e0, cond_false]
      by_cases hl : (l3.length : Int) > 60
      · have e1 : ¬ (1 + (cnts (dvRs l3) : Int) ≤ 60) := by
          have := cnts_len (dvRs l3)
          rw [dvRs_len] at this
          omega
        simp only [hl, decide_true, cond_true, e1, decide_false, Bool.and_false]
        simp
      · have hloop := fun k n s l8 => l158 ih (by omega) l3 [] 1 (by omega) (by omega) (by simpa using (by omega : l3.length ≤ 60)) k n s l8
        simp only [List.nil_append, List.length_nil] at hloop
        have hkeys := fun hq => k158 (lv := lv + 1) (k := k) (n := n) (s := t) (l3 := l3) (r := _) l4 [] hq (hloop k n t l4)
        simp only [List.nil_append, List.length_nil, List.getLast?_nil, Option.map_none] at hkeys
        generalize (if okLs (dvRs l3) lv && decide (1 + (cnts (dvRs l3) : Int) ≤ 60) then 1 + (cnts (dvRs l3) : Int) else 61) = tl at hloop hkeys ⊢
        have z : ((0 : Nat) : Int) = 0 := rfl
        rw [z] at hkeys
        simp only [z] at hloop
        simp only [hl, decide_false, cond_false, s209, bindR0, rsb, s137, hloop]
        simp only [ownOk, ownF, dvRs_empty, dKs_empty, dvRs_len, dKs_len, plainB]
        by_cases k0 : k = 0
        · subst k0
          by_cases n0 : n = 0 <;> cases t.isEmpty <;> cases l3.isEmpty <;> cases l4.isEmpty <;> simp [n0]
        have q0 : (k == 0) = false := by simpa using k0
        by_cases k1 : k = 1
        · subst k1
          by_cases n0 : n = 0
          · subst n0
            cases t.isEmpty <;> cases l3.isEmpty <;> cases l4.isEmpty <;> simp
          · by_cases n1 : n = 1
            · subst n1
              cases t.isEmpty <;> cases l3.isEmpty <;> cases l4.isEmpty <;> simp
            · have m0 : (n != 0) = true := by simpa using n0
              have m1 : (n != 1) = true := by simpa using n1
              cases t.isEmpty <;> cases l3.isEmpty <;> cases l4.isEmpty <;> simp [n0, n1, m0, m1]
        have q1 : (k == 1) = false := by simpa using k1
        by_cases k2 : k = 2
        · subst k2
          by_cases n0 : n > 1000000000000
          · have : ¬ (-1000000000000 ≤ n ∧ n ≤ 1000000000000) := by omega
            cases t.isEmpty <;> cases l3.isEmpty <;> cases l4.isEmpty <;> simp [n0, this]
          · by_cases n1 : n < -1000000000000
            · have : ¬ (-1000000000000 ≤ n ∧ n ≤ 1000000000000) := by omega
              cases t.isEmpty <;> cases l3.isEmpty <;> cases l4.isEmpty <;> simp [n0, n1, this]
            · have : (-1000000000000 ≤ n ∧ n ≤ 1000000000000) := by omega
              cases t.isEmpty <;> cases l3.isEmpty <;> cases l4.isEmpty <;> simp [n0, n1, this]
        have q2 : (k == 2) = false := by simpa using k2
        by_cases k3 : k = 3
        · subst k3
          by_cases n0 : n = 0 <;> cases isText t <;> cases l3.isEmpty <;> cases l4.isEmpty <;> simp [n0]
        have q3 : (k == 3) = false := by simpa using k3
        by_cases k4 : k = 4
        · subst k4
          by_cases n0 : n = 0 <;> cases t.isEmpty <;> cases l4.isEmpty <;> simp [n0]
        have q4 : (k == 4) = false := by simpa using k4
        by_cases k5 : k = 5
        · subst k5
          by_cases hlen : l4.length = l3.length
          · have hne : ((l4.length : Int) != (l3.length : Int)) = false := by simp [hlen]
            simp only [hne, hkeys (by omega)]
            by_cases n0 : n = 0 <;> cases t.isEmpty <;> by_cases hk : keysOk none (dKs l4) = true <;> simp [hlen, n0, hk]
          · have hne : ((l4.length : Int) != (l3.length : Int)) = true := by simp; omega
            simp only [hne]
            by_cases n0 : n = 0 <;> cases t.isEmpty <;> simp [hlen, n0]
        have q5 : (k == 5) = false := by simpa using k5
        simp [q0, q1, q2, q3, q4, q5, k0, k1, k2, k3, k4, k5])
end Go.Ab
end

section
set_option linter.unusedSimpArgs false
/-! What value.right tells. -/
set_option autoImplicit false
set_option linter.unusedVariables false
namespace Go.Ab

mutual
/-- Its lists of keys are no longer than a machine counts. -/
def smV : V → Prop
  | .mk _ _ _ l ks => ks.length < 4611686018427387904 ∧ smVs l
def smVs : List V → Prop
  | [] => True
  | v :: l => smV v ∧ smVs l
end

theorem bindR1 {R : Type} {fail : R} {ow : Bool} {ts : List TypeId} {olds : List (List AV)} {kp : Dat → R} {k : List Dat → List (List (Dat × Bool)) → R} {rs : List Dat} {xs : List (List (Dat × Bool))} (h : backsOk olds xs = true) :
    bindR R fail false ts olds kp k (some (.ret ow ts rs xs)) = k rs xs := by
  simp [bindR, h]

theorem lpw' {α : Type} {pre : List α} {c : α} (h : pre.length < 4611686018427387904) : Go.IntKind.i64.wrap ((pre.length : Int) + 1) = ((pre ++ [c]).length : Int) := by
  rw [wrap64 (by omega) (by omega)]; simp

def H179 (lv : Nat) : Prop := ∀ (k n : Int) (t : List UInt8) (l3 l4 : List (List Dat)) (m : Int), 0 ≤ m → m ≤ 60 → smV (.mk k n t (dvRs l3) (dKs l4)) →
  ∃ (b : Bool) (m' : Int), SS (.call 179 [.agg [.d (.int .i64 k), .d (.int .i64 n), .d (.str t), .d (.lst 32 l3), .d (.lst 9 l4)], .d (.int .i64 (lv : Int)), .ptr 0 0] [[.d (.int .i64 m)]]) = some (.ret false [4] [.bool b] [[(.int .i64 m', false)]]) ∧
    b = (okL (.mk k n t (dvRs l3) (dKs l4)) lv && decide (m + (cnt (.mk k n t (dvRs l3) (dKs l4)) : Int) ≤ 60)) ∧ (b = true → m' = m + (cnt (.mk k n t (dvRs l3) (dKs l4)) : Int)) ∧ 0 ≤ m' ∧ m' ≤ 61

theorem l273 {lv : Nat} (ih : H179 lv) (hlv : lv < 1000) {x0 x1 : Dat} : ∀ (t pre : List (List Dat)) (m : Int), (pre.length : Int) ≤ m → m ≤ 60 → smVs (dvRs t) →
    ∃ (i m' : Int), SS (.pt 273 [[.d x0], [.ptr 2 0], [.d x1]] 26 { tmps := [(0, .d (.lst 32 (pre ++ t))), (1, .fn 224 [.ptr 0 0, .ptr 1 0]), (7, .d (.int .i64 ((pre ++ t).length : Int))), (8, .d (.int .i64 (pre.length : Int)))], boxes := [(0, [.d (.int .i64 ((lv + 1 : Nat) : Int))]), (1, [.ptr 2 0]), (2, [.d (.int .i64 m)])] }) =
        some (.ret false [3] [.int .i64 i] [[(.int .i64 ((lv + 1 : Nat) : Int), false)], [(.nilP, false)], [(.int .i64 m', false)]]) ∧
      decide (0 ≤ i) = !(okLs (dvRs t) lv && decide (m + (cnts (dvRs t) : Int) ≤ 60)) ∧ (decide (0 ≤ i) = false → m' = m + (cnts (dvRs t) : Int)) ∧ 0 ≤ m' ∧ m' ≤ 61
  | [], pre, m, h1, h2, hs => ⟨-1, m, p273_26 _ _ _ _ _ _ _ (by simp only [lp1e, cond_false]), by simp [dvRs, okLs, cnts, h2], fun _ => by simp [dvRs, cnts], by omega, by omega⟩
  | r :: t, pre, m, h1, h2, hs => by
    have hc : dvRs (r :: t) = dV r :: dvRs t := by rw [dvRs_map, dvRs_map]; rfl
    rw [hc] at hs ⊢
    obtain ⟨hs1, hs2⟩ := hs
    obtain ⟨b, m1, e1, e2, e3, e4, e5⟩ := ih (r.getD 0 .nilP).i (r.getD 1 .nilP).i (r.getD 2 .nilP).s (r.getD 3 .nilP).l (r.getD 4 .nilP).l m (by omega) h2 hs1
    have hv : V.mk (r.getD 0 .nilP).i (r.getD 1 .nilP).i (r.getD 2 .nilP).s (dvRs (r.getD 3 .nilP).l) (dKs (r.getD 4 .nilP).l) = dV r := rfl
    rw [hv] at e2 e3
    have hw : Go.IntKind.i64.wrap (((lv + 1 : Nat) : Int) - 1) = (lv : Int) := by rw [wrap64 (by omega) (by omega)]; omega
    have hcall := c224 (r.getD 0 .nilP).i (r.getD 1 .nilP).i (r.getD 2 .nilP).s (r.getD 3 .nilP).l (r.getD 4 .nilP).l ((lv + 1 : Nat) : Int) m (r := .ret false [4] [.bool (!b)] [[(.int .i64 ((lv + 1 : Nat) : Int), false)], [(.nilP, false)], [(.int .i64 m1, false)]]) (by
      rw [hw, e1, bindR1 (by simp [backsOk, backOk])]
      rfl)
    have hpre : pre.length < 4611686018427387904 := by omega
    cases b with
    | false =>
      refine ⟨(pre.length : Int), m1, p273_26 _ _ _ _ _ _ _ ?_, ?_, fun h => ?_, e4, e5⟩
      · simp only [lp0, lp1, lpg, Bool.and_self, cond_true, hcall]
        rw [bindR1 (by simp [backsOk, backOk])]
        rfl
      · simp only [okLs, cnts]
        have : (okL (dV r) lv && okLs (dvRs t) lv && decide (m + ((cnt (dV r) + cnts (dvRs t) : Nat) : Int) ≤ 60)) = false := by
          rw [Bool.eq_false_iff]
          intro hx
          simp only [Bool.and_eq_true, decide_eq_true_eq] at hx
          have : (okL (dV r) lv && decide (m + (cnt (dV r) : Int) ≤ 60)) = true := by
            simp only [Bool.and_eq_true, decide_eq_true_eq]
            exact ⟨hx.1.1, by omega⟩
          rw [this] at e2
          cases e2
        have h9 : decide ((0 : Int) ≤ (pre.length : Int)) = true := by simp
        rw [h9]
        exact (congrArg not this).symm
      · simp at h
    | true =>
      have e2' : okL (dV r) lv = true ∧ m + (cnt (dV r) : Int) ≤ 60 := by simpa using e2.symm
      have e3' := e3 rfl
      subst e3'
      have hcp := cnt_pos (dV r)
      obtain ⟨i, m', q1, q2, q3, q4, q5⟩ := l273 ih hlv (x0 := x0) (x1 := x1) t (pre ++ [r]) (m + (cnt (dV r) : Int)) (by simp; omega) e2'.2 hs2
      rw [List.append_assoc, List.singleton_append] at q1
      have hm : m + (cnt (dV r) : Int) + (cnts (dvRs t) : Int) = m + ((cnt (dV r) + cnts (dvRs t) : Nat) : Int) := by omega
      refine ⟨i, m', p273_26 _ _ _ _ _ _ _ ?_, ?_, fun h => ?_, q4, q5⟩
      · simp only [lp0, lp1, lpg, lpw' (c := r) hpre, Bool.and_self, cond_true, hcall]
        rw [bindR1 (by simp [backsOk, backOk])]
        simp only [Bool.not_true, rsb, cond_false]
        exact q1
      · refine q2.trans (congrArg not ?_)
        rw [Bool.eq_iff_iff]
        simp only [Bool.and_eq_true, decide_eq_true_eq]
        simp only [okLs, cnts, e2'.1, Bool.true_and, hm]
      · simp only [cnts, q3 h]; omega
end Go.Ab
namespace Go.Ab

/-- What comes behind the keys. -/
noncomputable def tail179 (lv m n : Int) (s : List UInt8) (l3 : List (List Dat)) : Out :=
  bif n == 0 then
    bif s == [] then
      bindR Out none false [4] [[AV.d (Dat.int Go.IntKind.i64 lv)], [AV.ptr 0 0], [AV.d (Dat.int Go.IntKind.i64 m)]] (fun v => some (Res.panic v))
        (fun rs xs => some (Res.ret false [4] [Dat.bool !(rs.getD 0 Dat.nilP).b] [[(Dat.int Go.IntKind.i64 (xat xs 2 0).i, false)]]))
        (SS (Key.call 223 [AV.d (Dat.lst 32 l3), AV.fn 224 [AV.ptr 0 0, AV.ptr 1 0]] [[AV.d (Dat.int Go.IntKind.i64 lv)], [AV.ptr 2 0], [AV.d (Dat.int Go.IntKind.i64 m)]]))
    else some (Res.ret false [4] [Dat.bool false] [[(Dat.int Go.IntKind.i64 m, false)]])
  else some (Res.ret false [4] [Dat.bool false] [[(Dat.int Go.IntKind.i64 m, false)]])

theorem k179 {lv m k n : Int} {s : List UInt8} {l3 : List (List Dat)} {x0 : Dat} {r : Res} (htail : tail179 lv m n s l3 = some r) : ∀ (t pre : List (List Dat)), (pre ++ t).length < 4611686018427387904 →
    SS (.pt 179 [[.d x0]] 2056182 { tmps := [(3, .ptr 1003 0), (4, .ptr 1004 0), (5, .ptr 1005 0), (107, .d (.lst 9 (pre ++ t))), (108, .d (.int .i64 ((pre ++ t).length : Int))), (109, .d (.int .i64 (pre.length : Int)))], boxes := [(0, [.d (.int .i64 m)]), (1003, [.d (.int .i64 k), .d (.int .i64 n), .d (.str s), .d (.lst 32 l3), .d (.lst 9 (pre ++ t))]), (1004, [.d (.int .i64 lv)]), (1005, [.ptr 0 0])] }) =
      some (if keysOk (pre.getLast?.map dK) (dKs t) then r else .ret false [4] [.bool false] [[(.int .i64 m, false)]])
  | [], pre, hs => p179_2056182 _ _ _ _ _ _ _ _ _ _ _ (by
      simp only [lp1e, cond_false]
      refine Eq.trans htail ?_
      simp [dKs, keysOk])
  | x :: t, pre, hs => p179_2056182 _ _ _ _ _ _ _ _ _ _ _ (by
      have ih := k179 (lv := lv) (k := k) (n := n) (s := s) (l3 := l3) (x0 := x0) (r := r) htail t (pre ++ [x]) (by simpa using hs)
      rw [List.append_assoc, List.singleton_append] at ih
      have hk : dKs (x :: t) = dK x :: dKs t := rfl
      have hlast : (pre ++ [x]).getLast? = some x := by simp
      rw [hlast] at ih
      have hx : ((x.getD 0 .nilP).s) = dK x := rfl
      simp only [lp0, lp1, lpg, lpw hs, Bool.and_self, cond_true, s222, bindR0, rsb, hx, ih, hk, keysOk]
      cases ht : isText (dK x) with
      | false => simp
      | true =>
        simp only [Bool.not_true, cond_false, Bool.true_and]
        rcases List.eq_nil_or_concat pre with rfl | ⟨p, y, hp⟩
        · simp [Option.map]
        · rw [List.concat_eq_append] at hp
          subst hp
          have e0 : decide ((((p ++ [y]).length : Nat) : Int) > 0) = true := by simp
          have hlt : (p ++ [y]).length < 4611686018427387904 := by simp at hs ⊢; omega
          have e1 : Go.IntKind.i64.wrap ((((p ++ [y]).length : Nat) : Int) - 1) = (p.length : Int) := by rw [wrap64 (by omega) (by omega)]; simp
          have e2 : ((p ++ [y]) ++ x :: t).getD (p.length : Int).toNat [] = y := by simp [List.getD_eq_getElem?_getD]
          have e3 : decide ((0 : Int) ≤ (p.length : Int)) = true := by simp
          have e4 : decide ((p.length : Int) < (((p ++ [y] ++ x :: t).length : Nat) : Int)) = true := by simp; omega
          have hy : ((y.getD 0 .nilP).s) = dK y := rfl
          simp only [e0, e1, e2, e3, e4, Bool.and_self, cond_true, hy]
          have : (p ++ [y]).getLast? = some y := by simp
          rw [this]
          cases hb : Go.Op.bytesLess (dK y) (dK x) <;> simp [hb])
end Go.Ab
namespace Go.Ab

theorem tail_spec {lv : Nat} (ih : H179 lv) (hlv : lv < 1000) (m n : Int) (s : List UInt8) (l3 : List (List Dat)) (h1 : 0 ≤ m) (h2 : m ≤ 60) (hs : smVs (dvRs l3)) :
    ∃ (b : Bool) (m' : Int), tail179 ((lv + 1 : Nat) : Int) m n s l3 = some (.ret false [4] [.bool b] [[(.int .i64 m', false)]]) ∧
      (b = true ↔ n = 0 ∧ s = [] ∧ okLs (dvRs l3) lv = true ∧ m + (cnts (dvRs l3) : Int) ≤ 60) ∧ (b = true → m' = m + (cnts (dvRs l3) : Int)) ∧ 0 ≤ m' ∧ m' ≤ 61 := by
  obtain ⟨i, m', q1, q2, q3, q4, q5⟩ := l273 ih hlv (x0 := .nilP) (x1 := .nilP) l3 [] m (by simpa using h1) h2 hs
  simp only [List.nil_append, List.length_nil] at q1
  have c1 := c273 l3 ((lv + 1 : Nat) : Int) m q1
  have c2 := c223 l3 ((lv + 1 : Nat) : Int) m (r := .ret false [4] [.bool (decide (0 ≤ i))] [[(.int .i64 ((lv + 1 : Nat) : Int), false)], [(.nilP, false)], [(.int .i64 m', false)]]) (by
    rw [c1, bindR1 (by simp [backsOk, backOk])]
    rfl)
  by_cases hn : n = 0
  · by_cases ht : s = []
    · subst hn ht
      refine ⟨!(decide (0 ≤ i)), m', ?_, ?_, fun h => q3 (by simpa using h), q4, q5⟩
      · unfold tail179
        rw [c2, bindR1 (by simp [backsOk, backOk])]
        rfl
      · rw [q2]
        simp
    · refine ⟨false, m, ?_, ?_, (fun h => (by cases h)), h1, by omega⟩
      · subst hn
        have : (s == []) = false := by simpa using ht
        simp [tail179, this]
      · simp [ht]
  · refine ⟨false, m, ?_, ?_, (fun h => (by cases h)), h1, by omega⟩
    · have : (n == 0) = false := by simpa using hn
      simp [tail179, this]
    · simp [hn]
end Go.Ab
end

section
set_option linter.unusedSimpArgs false
set_option autoImplicit false
set_option linter.unusedVariables false
namespace Go.Ab

theorem h179_core {lv : Nat} (ih : H179 lv) (hlv : lv < 1000) (k n : Int) (t : List UInt8) (l3 l4 : List (List Dat)) (m : Int) (h1 : 0 ≤ m) (h2 : m + 1 ≤ 60) (hs : smV (.mk k n t (dvRs l3) (dKs l4))) :
    ∃ (b : Bool) (m' : Int), SS (.call 179 [.agg [.d (.int .i64 k), .d (.int .i64 n), .d (.str t), .d (.lst 32 l3), .d (.lst 9 l4)], .d (.int .i64 ((lv + 1 : Nat) : Int)), .ptr 0 0] [[.d (.int .i64 m)]]) = some (.ret false [4] [.bool b] [[(.int .i64 m', false)]]) ∧
      (b = true ↔ ownOk (.mk k n t (dvRs l3) (dKs l4)) = true ∧ okLs (dvRs l3) lv = true ∧ m + 1 + (cnts (dvRs l3) : Int) ≤ 60) ∧ (b = true → m' = m + 1 + (cnts (dvRs l3) : Int)) ∧ 0 ≤ m' ∧ m' ≤ 61 := by
  obtain ⟨hs1, hs2⟩ := hs
  rw [dKs_len] at hs1
  have hw : Go.IntKind.i64.wrap (m + 1) = m + 1 := wrap64 (by omega) (by omega)
  obtain ⟨b, m', t1, t2, t3, t4, t5⟩ := tail_spec ih hlv (m + 1) n t l3 (by omega) h2 hs2
  have hk := k179 (k := k) (x0 := .nilP) t1 l4 [] (by simpa using hs1)
  simp only [List.nil_append, List.length_nil, List.getLast?_nil, Option.map_none] at hk
  have e0 : decide ((((lv + 1 : Nat) : Int)) < 1) = false := by simp; omega
  have e1 : decide (m + 1 > 60) = false := by simp; omega
  -- a value without items
  have single : ∀ c : Bool, l3 = [] → (c = true ↔ ownOk (.mk k n t (dvRs l3) (dKs l4)) = true) → SS (.call 179 [.agg [.d (.int .i64 k), .d (.int .i64 n), .d (.str t), .d (.lst 32 l3), .d (.lst 9 l4)], .d (.int .i64 ((lv + 1 : Nat) : Int)), .ptr 0 0] [[.d (.int .i64 m)]]) = some (.ret false [4] [.bool c] [[(.int .i64 (m + 1), false)]]) →
      ∃ (b : Bool) (m' : Int), SS (.call 179 [.agg [.d (.int .i64 k), .d (.int .i64 n), .d (.str t), .d (.lst 32 l3), .d (.lst 9 l4)], .d (.int .i64 ((lv + 1 : Nat) : Int)), .ptr 0 0] [[.d (.int .i64 m)]]) = some (.ret false [4] [.bool b] [[(.int .i64 m', false)]]) ∧
      (b = true ↔ ownOk (.mk k n t (dvRs l3) (dKs l4)) = true ∧ okLs (dvRs l3) lv = true ∧ m + 1 + (cnts (dvRs l3) : Int) ≤ 60) ∧ (b = true → m' = m + 1 + (cnts (dvRs l3) : Int)) ∧ 0 ≤ m' ∧ m' ≤ 61 := fun c hl hc hS => by
    subst hl
    refine ⟨c, m + 1, hS, ?_, fun _ => by simp [dvRs, cnts], by omega, by omega⟩
    rw [hc]
    simp [dvRs, okLs, cnts]
    omega
  have bad : ownOk (.mk k n t (dvRs l3) (dKs l4)) = false → SS (.call 179 [.agg [.d (.int .i64 k), .d (.int .i64 n), .d (.str t), .d (.lst 32 l3), .d (.lst 9 l4)], .d (.int .i64 ((lv + 1 : Nat) : Int)), .ptr 0 0] [[.d (.int .i64 m)]]) = some (.ret false [4] [.bool false] [[(.int .i64 (m + 1), false)]]) →
      ∃ (b : Bool) (m' : Int), SS (.call 179 [.agg [.d (.int .i64 k), .d (.int .i64 n), .d (.str t), .d (.lst 32 l3), .d (.lst 9 l4)], .d (.int .i64 ((lv + 1 : Nat) : Int)), .ptr 0 0] [[.d (.int .i64 m)]]) = some (.ret false [4] [.bool b] [[(.int .i64 m', false)]]) ∧
      (b = true ↔ ownOk (.mk k n t (dvRs l3) (dKs l4)) = true ∧ okLs (dvRs l3) lv = true ∧ m + 1 + (cnts (dvRs l3) : Int) ≤ 60) ∧ (b = true → m' = m + 1 + (cnts (dvRs l3) : Int)) ∧ 0 ≤ m' ∧ m' ≤ 61 := fun ho hS =>
    ⟨false, m + 1, hS, by rw [ho]; simp, fun h => (by cases h), by omega, by omega⟩
  have own5 : k = 5 → (ownOk (.mk k n t (dvRs l3) (dKs l4)) = true ↔ l4.length = l3.length ∧ n = 0 ∧ t = [] ∧ keysOk none (dKs l4) = true) := fun e => by
    subst e
    simp [ownOk, ownF, dvRs_len, dKs_len, and_assoc]
  have z : ((0 : Nat) : Int) = 0 := rfl
  rw [z] at hk
  by_cases k5 : k = 5
  · have ho := own5 k5
    subst k5
    by_cases hlen : l4.length = l3.length
    · have hne : ((l4.length : Int) != (l3.length : Int)) = false := by simp [hlen]
      by_cases hkk : keysOk none (dKs l4) = true
      · replace hk := hk.trans (congrArg some (if_pos hkk))
        refine ⟨b, m', c179 _ _ _ _ _ _ _ ?_, ?_, t3, t4, t5⟩
        · simp only [hw, e0, e1, cond_false, hne, hk]
          cases ((l3.length : Int) == 0) <;> rfl
        · rw [t2, ho]
          simp [hlen, hkk, and_assoc]
      · replace hk := hk.trans (congrArg some (if_neg hkk))
        refine bad (Bool.eq_false_iff.2 fun e => hkk (ho.1 e).2.2.2) (c179 _ _ _ _ _ _ _ ?_)
        simp only [hw, e0, e1, cond_false, hne, hk]
        cases ((l3.length : Int) == 0) <;> rfl
    · have hne : ((l4.length : Int) != (l3.length : Int)) = true := by simp; omega
      refine bad (Bool.eq_false_iff.2 fun e => hlen (ho.1 e).1) (c179 _ _ _ _ _ _ _ ?_)
      simp only [hw, e0, e1, cond_false, hne]
      cases ((l3.length : Int) == 0) <;> rfl
  by_cases k4 : k = 4
  · subst k4
    have ho : ownOk (.mk 4 n t (dvRs l3) (dKs l4)) = true ↔ l4 = [] ∧ n = 0 ∧ t = [] := by
      simp [ownOk, ownF, dKs_empty, and_assoc]
    by_cases hl4 : l4 = []
    · refine ⟨b, m', c179 _ _ _ _ _ _ _ ?_, ?_, t3, t4, t5⟩
      · subst hl4
        simp only [hw, e0, e1, cond_false]
        cases ((l3.length : Int) == 0) <;> exact t1
      · rw [t2, ho]
        simp [hl4, and_assoc]
    · refine bad (Bool.eq_false_iff.2 fun e => hl4 (ho.1 e).1) (c179 _ _ _ _ _ _ _ ?_)
      have hp : decide ((l4.length : Int) > 0) = true := by
        have := List.length_pos_iff.2 hl4
        simp; omega
      simp only [hw, e0, e1, cond_false, hp]
      cases ((l3.length : Int) == 0) <;> rfl
  have q5 : (k == 5) = false := by simpa using k5
  have q4 : (k == 4) = false := by simpa using k4
  by_cases hl3 : l3 = []
  · refine single (ownOk (.mk k n t (dvRs l3) (dKs l4))) hl3 Iff.rfl (c179 _ _ _ _ _ _ _ ?_)
    subst hl3
    have z0 : ((([] : List (List Dat)).length : Int) == 0) = true := rfl
    simp only [hw, e0, e1, cond_false, len0, eqnil, s222, bindR0, rsb, z0, cond_true, List.isEmpty_nil, q5, q4]
    simp only [ownOk, ownF, dvRs_empty, dKs_empty, dvRs_len, dKs_len, List.isEmpty_nil]
    by_cases k0 : k = 0
    · subst k0
      by_cases n0 : n = 0
      · cases t.isEmpty <;> cases l4.isEmpty <;> simp [n0]
      · have m0 : (n == 0) = false := by simpa using n0
        cases t.isEmpty <;> cases l4.isEmpty <;> simp [n0, m0]
    have q0 : (k == 0) = false := by simpa using k0
    by_cases k1 : k = 1
    · subst k1
      by_cases n0 : n = 0
      · subst n0; cases t.isEmpty <;> cases l4.isEmpty <;> simp
      · by_cases n1 : n = 1
        · subst n1; cases t.isEmpty <;> cases l4.isEmpty <;> simp
        · have m0 : (n == 0) = false := by simpa using n0
          have m1 : (n == 1) = false := by simpa using n1
          cases t.isEmpty <;> cases l4.isEmpty <;> simp [n0, n1, m0, m1]
    have q1 : (k == 1) = false := by simpa using k1
    by_cases k2 : k = 2
    · subst k2
      by_cases n0 : n ≥ -1000000000000
      · by_cases n1 : n ≤ 1000000000000
        · cases t.isEmpty <;> cases l4.isEmpty <;> simp [n0, n1]
        · cases t.isEmpty <;> cases l4.isEmpty <;> simp [n0, n1]
      · cases t.isEmpty <;> cases l4.isEmpty <;> simp [n0]
    have q2 : (k == 2) = false := by simpa using k2
    by_cases k3 : k = 3
    · subst k3
      by_cases n0 : n = 0
      · cases isText t <;> cases l4.isEmpty <;> simp [n0]
      · have m0 : (n == 0) = false := by simpa using n0
        cases isText t <;> cases l4.isEmpty <;> simp [n0, m0]
    have q3 : (k == 3) = false := by simpa using k3
    simp [q0, q1, q2, q3, k0, k1, k2, k3, k4, k5]
  · have hne : ((l3.length : Int) == 0) = false := by rw [len0]; simpa using hl3
    have hb : ownOk (.mk k n t (dvRs l3) (dKs l4)) = false := by
      have : l3.isEmpty = false := by simpa using hl3
      simp [ownOk, ownF, dvRs_empty, this, k4, k5]
    refine bad hb (c179 _ _ _ _ _ _ _ ?_)
    simp only [hw, e0, e1, cond_false, hne, q4, q5]
    cases (k == 0) <;> cases (k == 1) <;> cases (k == 2) <;> cases (k == 3) <;> rfl
end Go.Ab
end

section
set_option linter.unusedSimpArgs false
set_option autoImplicit false
set_option linter.unusedVariables false
namespace Go.Ab

theorem h179 : ∀ lv : Nat, lv < 1000 → H179 lv
  | 0, _ => fun k n t l3 l4 m h1 h2 hs => by
    have hw : Go.IntKind.i64.wrap (m + 1) = m + 1 := wrap64 (by omega) (by omega)
    refine ⟨false, m + 1, c179 _ _ _ _ _ _ _ ?_, ?_, fun h => (by cases h), by omega, by omega⟩
    · simp [hw]
    · simp [okL]
  | lv + 1, hlv => fun k n t l3 l4 m h1 h2 hs => by
    have ih := h179 lv (by omega)
    by_cases h3 : m + 1 ≤ 60
    · obtain ⟨b, m', q1, q2, q3, q4, q5⟩ := h179_core ih (by omega) k n t l3 l4 m h1 h3 hs
      refine ⟨b, m', q1, ?_, fun h => ?_, q4, q5⟩
      · rw [Bool.eq_iff_iff, q2]
        simp only [Bool.and_eq_true, decide_eq_true_eq]
        simp only [okL, cnt, Bool.and_eq_true]
        constructor
        · rintro ⟨a1, a2, a3⟩
          exact ⟨⟨a1, a2⟩, by omega⟩
        · rintro ⟨⟨a1, a2⟩, a3⟩
          exact ⟨a1, a2, by omega⟩
      · rw [q3 h]
        simp only [cnt]
        omega
    · have hw : Go.IntKind.i64.wrap (m + 1) = m + 1 := wrap64 (by omega) (by omega)
      refine ⟨false, m + 1, c179 _ _ _ _ _ _ _ ?_, ?_, fun h => (by cases h), by omega, by omega⟩
      · have e0 : decide ((((lv + 1 : Nat) : Int)) < 1) = false := by simp; omega
        have e1 : decide (m + 1 > 60) = true := by simp; omega
        simp only [hw, e0, e1, cond_false, cond_true]
      · symm
        rw [Bool.eq_false_iff]
        intro hx
        simp only [Bool.and_eq_true, decide_eq_true_eq] at hx
        have := cnt_pos (.mk k n t (dvRs l3) (dKs l4))
        omega

/-- Is a value valid? -/
def okV (v : V) : Bool := okL v 6 && decide (cnt v ≤ 60)

theorem s129 (k n : Int) (t : List UInt8) (l3 l4 : List (List Dat)) (hs : smV (.mk k n t (dvRs l3) (dKs l4))) :
    SS (.call 129 [.agg [.d (.int .i64 k), .d (.int .i64 n), .d (.str t), .d (.lst 32 l3), .d (.lst 9 l4)]] []) = some (.ret false [4] [.bool (okV (.mk k n t (dvRs l3) (dKs l4)))] []) := by
  obtain ⟨b, m', q1, q2, _⟩ := h179 6 (by omega) k n t l3 l4 0 (by omega) (by omega) hs
  refine c129 _ _ _ _ _ ?_
  have q1' : SS (Key.call 179 [.agg [.d (.int .i64 k), .d (.int .i64 n), .d (.str t), .d (.lst 32 l3), .d (.lst 9 l4)], .d (.int .i64 6), .ptr 0 0] [[.d (.int .i64 0)]]) = some (.ret false [4] [.bool b] [[(.int .i64 m', false)]]) := q1
  rw [q1', bindR1 (by simp [backsOk, backOk])]
  have : b = okV (.mk k n t (dvRs l3) (dKs l4)) := by
    rw [q2, Bool.eq_iff_iff]
    simp only [okV, Bool.and_eq_true, decide_eq_true_eq]
    constructor <;> rintro ⟨a1, a2⟩ <;> exact ⟨a1, by omega⟩
  rw [← this]
  rfl

theorem s115 (k n : Int) (t : List UInt8) (l3 l4 : List (List Dat)) :
    SS (.call 115 [.agg [.d (.int .i64 k), .d (.int .i64 n), .d (.str t), .d (.lst 32 l3), .d (.lst 9 l4)]] []) = some (.ret false [4] [.bool (okV (.mk k n t (dvRs l3) (dKs l4)))] []) := by
  refine c115 _ _ _ _ _ ?_
  have q1 : SS (Key.call 158 [.agg [.d (.int .i64 k), .d (.int .i64 n), .d (.str t), .d (.lst 32 l3), .d (.lst 9 l4)], .d (.int .i64 6)] []) = _ := h158 6 (by omega) k n t l3 l4
  rw [q1, bindR0]
  have : decide (nodesV (.mk k n t (dvRs l3) (dKs l4)) 6 ≤ 60) = okV (.mk k n t (dvRs l3) (dKs l4)) := by
    rw [Bool.eq_iff_iff]
    simp only [okV, nodesV, Bool.and_eq_true, decide_eq_true_eq]
    split
    · rename_i h; constructor
      · intro h2; exact h
      · intro h2; omega
    · rename_i h; constructor
      · intro h2; omega
      · intro h2; exact absurd h2 h
  rw [← this]
  rfl
end Go.Ab
end

section
set_option linter.unusedSimpArgs false
/-! Orders. -/
set_option autoImplicit false
set_option linter.unusedVariables false
namespace Go.Ab

theorem s78 (s t : List UInt8) : SS (.call 78 [.d (.str s), .d (.str t)] []) = some (.ret false [3] [.int .i64 (bcmp s t)] []) := ssOf (by kernel_rfl) rfl

/-- The first that is not null. -/
def orI : List Int → Int
  | [] => 0
  | x :: l => if x = 0 then orI l else x

theorem l77 : ∀ (t pre : List (List Dat)), (pre ++ t).length < 4611686018427387904 →
    SS (.pt 77 [] 58 { tmps := [(3, .d (.int .i64 0)), (6, .d (.lst 3 (pre ++ t))), (7, .d (.int .i64 ((pre ++ t).length : Int))), (8, .d (.int .i64 (pre.length : Int)))], boxes := [] }) = some (.ret false [3] [.int .i64 (orI (t.map fun r => (r.getD 0 .nilP).i))] [])
  | [], pre, hs => p77_58 _ _ _ _ (by simp only [lp1e, cond_false]; rfl)
  | c :: t, pre, hs => p77_58 _ _ _ _ (by
    have ih := l77 t (pre ++ [c]) (by simpa using hs)
    rw [List.append_assoc, List.singleton_append] at ih
    simp only [lp0, lp1, lpg, lpw hs, Bool.and_self, cond_true, ih]
    by_cases h1 : (c.getD 0 .nilP).i = 0
    · have : ((c.getD 0 .nilP).i != 0) = false := by simpa using h1
      simp only [List.map_cons, orI, h1, if_true]
      rfl
    · have : ((c.getD 0 .nilP).i != 0) = true := by simpa using h1
      simp only [this, cond_true, List.map_cons, orI, h1, if_false])

theorem s77 (l : List (List Dat)) (h : l.length < 4611686018427387904) : SS (.call 77 [.d (.lst 3 l)] []) = some (.ret false [3] [.int .i64 (orI (l.map fun r => (r.getD 0 .nilP).i))] []) := c77 l (l77 l [] h)

/-! ### Loops by a number -/
section ix
variable {α : Type} {l : List α} {i : Nat}
theorem ix0 : decide ((0 : Int) ≤ (i : Int)) = true := by simp
theorem ix1 (h : i < l.length) : decide ((i : Int) < (l.length : Int)) = true := by simp [h]
theorem ix1' (h : ¬ i < l.length) : decide ((i : Int) < (l.length : Int)) = false := by simp; omega
theorem ixw (h : i < 4611686018427387904) : Go.IntKind.i64.wrap ((i : Int) + 1) = ((i + 1 : Nat) : Int) := by
  rw [wrap64 (by omega) (by omega)]; rfl
theorem dropd (d : α) (h : i < l.length) : l.drop i = l.getD i d :: l.drop (i + 1) := by
  rw [List.drop_eq_getElem_cons h, List.getD_eq_getElem?_getD, List.getElem?_eq_getElem h]; rfl
end ix

mutual
/-- Objects have a key for each item. -/
def shV : V → Prop
  | .mk k _ _ l ks => (k = 5 → ks.length = l.length) ∧ shVs l
def shVs : List V → Prop
  | [] => True
  | v :: l => shV v ∧ shVs l
end

mutual
/-- How value.Order compares. -/
noncomputable def ordP : V → V → Int
  | .mk k n t l ks, b => if k = b.k then
      (match ordPs (decide (k = 5)) l b.items ks b.keys with
        | some d => d
        | none => orI [icmp n b.n, bcmp t b.t, icmp l.length b.items.length])
      else icmp k b.k
noncomputable def ordPs (obj : Bool) : List V → List V → List (List UInt8) → List (List UInt8) → Option Int
  | [], _, _, _ => none
  | x :: l, ys, ks, ks' => match ys with
    | [] => none
    | y :: ys => if obj = true ∧ ¬ ks.headD [] = ks'.headD [] then some (bcmp (ks.headD []) (ks'.headD [])) else
        if ordP x y = 0 then ordPs obj l ys ks.tail ks'.tail else some (ordP x y)
end
end Go.Ab
end

section
set_option linter.unusedSimpArgs false
/-! value.Order. -/
set_option autoImplicit false
set_option linter.unusedVariables false
namespace Go.Ab

def H70 (N : Nat) : Prop := ∀ (k n : Int) (t : List UInt8) (l3 l4 : List (List Dat)) (k' n' : Int) (t' : List UInt8) (l3' l4' : List (List Dat)),
  cnt (.mk k n t (dvRs l3) (dKs l4)) ≤ N → cnt (.mk k n t (dvRs l3) (dKs l4)) < 4611686018427387904 → shV (.mk k n t (dvRs l3) (dKs l4)) → shV (.mk k' n' t' (dvRs l3') (dKs l4')) →
  SS (.call 70 [.agg [.d (.int .i64 k), .d (.int .i64 n), .d (.str t), .d (.lst 32 l3), .d (.lst 9 l4)], .agg [.d (.int .i64 k'), .d (.int .i64 n'), .d (.str t'), .d (.lst 32 l3'), .d (.lst 9 l4')]] []) =
    some (.ret false [3] [.int .i64 (ordP (.mk k n t (dvRs l3) (dKs l4)) (.mk k' n' t' (dvRs l3') (dKs l4')))] [])

theorem dvRs_drop {l : List (List Dat)} {i : Nat} (h : i < l.length) : dvRs (l.drop i) = dV (l.getD i []) :: dvRs (l.drop (i + 1)) := by
  rw [dropd [] h, dvRs_map, dvRs_map]; rfl
theorem dKs_drop {l : List (List Dat)} {i : Nat} (h : i < l.length) : dKs (l.drop i) = dK (l.getD i []) :: dKs (l.drop (i + 1)) := by
  rw [dropd [] h]; rfl
theorem shVs_mem : ∀ {l : List V}, shVs l → ∀ x ∈ l, shV x
  | v :: l, h, x, hx => by
    rcases List.mem_cons.1 hx with rfl | hx
    · exact h.1
    · exact shVs_mem h.2 x hx
theorem cnts_mem : ∀ {l : List V} {x : V}, x ∈ l → cnt x ≤ cnts l
  | v :: l, x, hx => by
    rcases List.mem_cons.1 hx with rfl | hx
    · simp [cnts]
    · have := cnts_mem hx; simp [cnts]; omega
theorem dvRs_mem {l : List (List Dat)} {i : Nat} (h : i < l.length) : dV (l.getD i []) ∈ dvRs l := by
  rw [dvRs_map]
  refine List.mem_map.2 ⟨l.getD i [], ?_, rfl⟩
  rw [List.getD_eq_getElem?_getD, List.getElem?_eq_getElem h]
  exact List.getElem_mem h

theorem l70 {N : Nat} (ih : H70 N) {k n : Int} {t : List UInt8} {l3 l4 : List (List Dat)} {n' : Int} {t' : List UInt8} {l3' l4' : List (List Dat)}
    (hN : cnts (dvRs l3) ≤ N) (hb : cnts (dvRs l3) < 4611686018427387904) (hs : shVs (dvRs l3)) (hs' : shVs (dvRs l3')) (hk : k = 5 → l4.length = l3.length ∧ l4'.length = l3'.length) :
    ∀ (m i : Nat), i + m = min l3.length l3'.length →
    SS (.pt 70 [] 58 { tmps := [(2, .ptr 1002 0), (3, .ptr 1003 0), (23, .d (.int .i64 ((min l3.length l3'.length : Nat) : Int))), (24, .d (.int .i64 (i : Int)))], boxes := [(1002, [.d (.int .i64 k), .d (.int .i64 n), .d (.str t), .d (.lst 32 l3), .d (.lst 9 l4)]), (1003, [.d (.int .i64 k), .d (.int .i64 n'), .d (.str t'), .d (.lst 32 l3'), .d (.lst 9 l4')])] }) =
      some (.ret false [3] [.int .i64 (match ordPs (decide (k = 5)) (dvRs (l3.drop i)) (dvRs (l3'.drop i)) (dKs (l4.drop i)) (dKs (l4'.drop i)) with
        | some d => d
        | none => orI [icmp n n', bcmp t t', icmp l3.length l3'.length])] [])
  | 0, i, hi => p70_58 _ _ _ _ _ _ _ _ _ _ _ _ (by
      have e1 : decide ((i : Int) < ((min l3.length l3'.length : Nat) : Int)) = false := by simp; omega
      simp only [e1, cond_false, s76, s78, bindR0, rsi]
      rw [s77 _ (by simp), bindR0]
      have hnone : ordPs (decide (k = 5)) (dvRs (l3.drop i)) (dvRs (l3'.drop i)) (dKs (l4.drop i)) (dKs (l4'.drop i)) = none := by
        by_cases h : i < l3.length
        · have h' : l3'.drop i = [] := List.drop_eq_nil_of_le (by omega)
          rw [h', dvRs_drop h]
          simp [dvRs, ordPs]
        · have h' : l3.drop i = [] := List.drop_eq_nil_of_le (by omega)
          rw [h']
          simp [dvRs, ordPs]
      rw [hnone]
      rfl)
  | m + 1, i, hi => p70_58 _ _ _ _ _ _ _ _ _ _ _ _ (by
      have h1 : i < l3.length := by omega
      have h2 : i < l3'.length := by omega
      have e1 : decide ((i : Int) < ((min l3.length l3'.length : Nat) : Int)) = true := by simp; omega
      have hlen : l3.length < 4611686018427387904 := by
        have := cnts_len (dvRs l3)
        rw [dvRs_len] at this
        omega
      have hrec := l70 ih (k := k) (n := n) (t := t) (l3 := l3) (l4 := l4) (n' := n') (t' := t') (l3' := l3') (l4' := l4') hN hb hs hs' hk m (i + 1) (by omega)
      have hx := cnts_mem (dvRs_mem h1)
      have hcall := ih ((l3.getD i []).getD 0 .nilP).i ((l3.getD i []).getD 1 .nilP).i ((l3.getD i []).getD 2 .nilP).s ((l3.getD i []).getD 3 .nilP).l ((l3.getD i []).getD 4 .nilP).l
        ((l3'.getD i []).getD 0 .nilP).i ((l3'.getD i []).getD 1 .nilP).i ((l3'.getD i []).getD 2 .nilP).s ((l3'.getD i []).getD 3 .nilP).l ((l3'.getD i []).getD 4 .nilP).l
        (Nat.le_trans hx hN) (Nat.lt_of_le_of_lt hx hb) (shVs_mem hs _ (dvRs_mem h1)) (shVs_mem hs' _ (dvRs_mem h2))
      have hv : ∀ r : List Dat, V.mk (r.getD 0 .nilP).i (r.getD 1 .nilP).i (r.getD 2 .nilP).s (dvRs (r.getD 3 .nilP).l) (dKs (r.getD 4 .nilP).l) = dV r := fun _ => rfl
      rw [hv, hv] at hcall
      rw [dvRs_drop h1, dvRs_drop h2]
      have hkey : ∀ r : List Dat, (r.getD 0 .nilP).s = dK r := fun _ => rfl
      simp only [e1, cond_true, ix0, ix1 h1, ix1 h2, Bool.and_self, Int.toNat_natCast, hcall, bindR0, rsi, ixw (Nat.lt_trans h1 hlen), hrec, ordPs]
      by_cases k5 : k = 5
      · subst k5
        obtain ⟨hk1, hk2⟩ := hk rfl
        have h3 : i < l4.length := by omega
        have h4 : i < l4'.length := by omega
        rw [dKs_drop h3, dKs_drop h4]
        have z5 : ((5 : Int) == 5) = true := rfl
        simp only [z5, cond_true, ix1 h3, ix1 h4, Bool.and_self, s78, bindR0, rsi, hkey, List.headD_cons, List.tail_cons]
        generalize dK (l4.getD i []) = ka
        generalize dK (l4'.getD i []) = kb
        generalize ordP (dV (l3.getD i [])) (dV (l3'.getD i [])) = d
        by_cases hq : ka = kb
        · have hq' : (ka == kb) = true := by simpa using hq
          by_cases hd : d = 0
          · have hd' : (d != 0) = false := by simpa using hd
            simp [hq, hd]
          · have hd' : (d != 0) = true := by simpa using hd
            simp [hq, hd, hd']
        · have hq' : (ka == kb) = false := by simpa using hq
          simp [hq, hq']
      · have z5 : (k == 5) = false := by simpa using k5
        simp only [z5, cond_false]
        generalize ordP (dV (l3.getD i [])) (dV (l3'.getD i [])) = d
        by_cases hd : d = 0
        · have hd' : (d != 0) = false := by simpa using hd
          have ht : ∀ l : List (List Dat), (dKs (l.drop i)).tail = dKs (l.drop (i + 1)) := fun l => by simp [dKs, ← List.map_tail]
          simp [hd, k5, ht]
        · have hd' : (d != 0) = true := by simpa using hd
          simp [hd, hd', k5])

theorem h70 : ∀ N : Nat, H70 N
  | 0 => fun k n t l3 l4 k' n' t' l3' l4' hN hb hs hs' => by
    have := cnt_pos (.mk k n t (dvRs l3) (dKs l4))
    omega
  | N + 1 => fun k n t l3 l4 k' n' t' l3' l4' hN hb hs hs' => c70 _ _ _ _ _ _ _ _ _ _ (by
    simp only [cnt] at hN hb
    obtain ⟨s1, s2⟩ := hs
    obtain ⟨s1', s2'⟩ := hs'
    rw [dKs_len, dvRs_len] at s1 s1'
    by_cases hk : k = k'
    · subst hk
      have hl := l70 (h70 N) (k := k) (n := n) (t := t) (l3 := l3) (l4 := l4) (n' := n') (t' := t') (l3' := l3') (l4' := l4') (by omega) (by omega) s2 s2' (fun e => ⟨s1 e, s1' e⟩) (min l3.length l3'.length) 0 (by omega)
      have z : (k != k) = false := by simp
      have hmin : (if (l3'.length : Int) < (l3.length : Int) then (l3'.length : Int) else (l3.length : Int)) = ((min l3.length l3'.length : Nat) : Int) := by
        split <;> omega
      simp only [z, cond_false, hmin]
      have z0 : ((0 : Nat) : Int) = 0 := rfl
      simp only [z0, List.drop_zero] at hl
      refine hl.trans ?_
      have e : ordP (.mk k n t (dvRs l3) (dKs l4)) (.mk k n' t' (dvRs l3') (dKs l4')) = (match ordPs (decide (k = 5)) (dvRs l3) (dvRs l3') (dKs l4) (dKs l4') with
        | some d => d
        | none => orI [icmp n n', bcmp t t', icmp l3.length l3'.length]) := by
        rw [← dvRs_len l3, ← dvRs_len l3']
        unfold ordP
        exact if_pos rfl
      rw [e]
    · have z : (k != k') = true := by simpa using hk
      have e : ordP (.mk k n t (dvRs l3) (dKs l4)) (.mk k' n' t' (dvRs l3') (dKs l4')) = icmp k k' := by
        unfold ordP
        exact if_neg hk
      simp only [z, cond_true, s76, bindR0, rsi, e])

theorem s70 (k n : Int) (t : List UInt8) (l3 l4 : List (List Dat)) (k' n' : Int) (t' : List UInt8) (l3' l4' : List (List Dat))
    (hb : cnt (.mk k n t (dvRs l3) (dKs l4)) < 4611686018427387904) (hs : shV (.mk k n t (dvRs l3) (dKs l4))) (hs' : shV (.mk k' n' t' (dvRs l3') (dKs l4'))) :
  SS (.call 70 [.agg [.d (.int .i64 k), .d (.int .i64 n), .d (.str t), .d (.lst 32 l3), .d (.lst 9 l4)], .agg [.d (.int .i64 k'), .d (.int .i64 n'), .d (.str t'), .d (.lst 32 l3'), .d (.lst 9 l4')]] []) =
    some (.ret false [3] [.int .i64 (ordP (.mk k n t (dvRs l3) (dKs l4)) (.mk k' n' t' (dvRs l3') (dKs l4')))] []) :=
  h70 _ k n t l3 l4 k' n' t' l3' l4' (Nat.le_refl _) hb hs hs'
end Go.Ab
end

section
set_option linter.unusedSimpArgs false
/-! cirrusref01.Order. -/
set_option autoImplicit false
set_option linter.unusedVariables false
namespace Go.Ab

theorem bcmp_less : ∀ s t : List UInt8, cond (s == t) 0 (cond (Go.Op.bytesLess s t) (-1) 1) = bcmp s t
  | [], [] => rfl
  | [], b :: t => rfl
  | a :: s, [] => rfl
  | a :: s, b :: t => by
    have ih := bcmp_less s t
    show _ = cond (Nat.blt a.toNat b.toNat) (-1) (cond (Nat.blt b.toNat a.toNat) 1 (bcmp s t))
    rw [← ih]
    by_cases h : a = b
    · subst h
      have h1 : Nat.blt a.toNat a.toNat = false := by
        rw [Bool.eq_false_iff]; intro e; exact Nat.lt_irrefl _ (Nat.le_of_ble_eq_true e)
      have h2 : decide (a < a) = false := by simp
      simp [Go.Op.bytesLess, h1]
    · have hne : ((a :: s) == (b :: t)) = false := by simp [h]
      have hab : (a == b) = false := by simpa using h
      have ht : a.toNat ≠ b.toNat := fun e => h (UInt8.toNat_inj.1 e)
      rw [hne]
      by_cases hlt : a.toNat < b.toNat
      · have h1 : Nat.blt a.toNat b.toNat = true := Nat.ble_eq_true_of_le hlt
        have h2 : decide (a < b) = true := by simpa [UInt8.lt_iff_toNat_lt] using hlt
        simp [Go.Op.bytesLess, h1, h2]
      · have h1 : Nat.blt a.toNat b.toNat = false := by
          rw [Bool.eq_false_iff]; intro e; exact hlt (Nat.le_of_ble_eq_true e)
        have h3 : Nat.blt b.toNat a.toNat = true := Nat.ble_eq_true_of_le (show b.toNat < a.toNat by omega)
        have h2 : decide (a < b) = false := by simp [UInt8.lt_iff_toNat_lt]; omega
        simp [Go.Op.bytesLess, h1, h2, h3, hab]

theorem icmp_sign (a b : Int) : cond (a == b) 0 (cond (decide (a < b)) (-1) 1) = icmp a b := by
  unfold icmp
  by_cases h : a = b
  · subst h; simp
  · have : (a == b) = false := by simpa using h
    rw [this, cond_false]
    by_cases h1 : a < b
    · simp [h1]
    · have : b < a := by omega
      simp [h1, this]

mutual
/-- How cirrusref01.Order compares. -/
noncomputable def ordR : V → V → Int
  | .mk k n t l ks, b => if k = b.k then
      (if k = 1 ∨ k = 2 then icmp n b.n else if k = 3 then bcmp t b.t else
        match ordRs (decide (k = 5)) l b.items ks b.keys with
        | some d => d
        | none => icmp l.length b.items.length)
      else icmp k b.k
noncomputable def ordRs (obj : Bool) : List V → List V → List (List UInt8) → List (List UInt8) → Option Int
  | [], _, _, _ => none
  | x :: l, ys, ks, ks' => match ys with
    | [] => none
    | y :: ys => if obj = true ∧ ¬ ks.headD [] = ks'.headD [] then some (bcmp (ks.headD []) (ks'.headD [])) else
        if ordR x y = 0 then ordRs obj l ys ks.tail ks'.tail else some (ordR x y)
end

def H30 (N : Nat) : Prop := ∀ (k n : Int) (t : List UInt8) (l3 l4 : List (List Dat)) (k' n' : Int) (t' : List UInt8) (l3' l4' : List (List Dat)),
  cnt (.mk k n t (dvRs l3) (dKs l4)) ≤ N → cnt (.mk k n t (dvRs l3) (dKs l4)) < 4611686018427387904 → shV (.mk k n t (dvRs l3) (dKs l4)) → shV (.mk k' n' t' (dvRs l3') (dKs l4')) →
  SS (.call 30 [.agg [.d (.int .i64 k), .d (.int .i64 n), .d (.str t), .d (.lst 32 l3), .d (.lst 9 l4)], .agg [.d (.int .i64 k'), .d (.int .i64 n'), .d (.str t'), .d (.lst 32 l3'), .d (.lst 9 l4')]] []) =
    some (.ret false [3] [.int .i64 (ordR (.mk k n t (dvRs l3) (dKs l4)) (.mk k' n' t' (dvRs l3') (dKs l4')))] [])

theorem l30 {N : Nat} (ih : H30 N) {k n : Int} {t : List UInt8} {l3 l4 : List (List Dat)} {n' : Int} {t' : List UInt8} {l3' l4' : List (List Dat)}
    (hN : cnts (dvRs l3) ≤ N) (hb : cnts (dvRs l3) < 4611686018427387904) (hs : shVs (dvRs l3)) (hs' : shVs (dvRs l3')) (hk : k = 5 → l4.length = l3.length ∧ l4'.length = l3'.length) :
    ∀ (m i : Nat), i + m = min l3.length l3'.length →
    SS (.pt 30 [] 250 { tmps := [(2, .ptr 1002 0), (3, .ptr 1003 0), (5, .d (.int .i64 (i : Int)))], boxes := [(1002, [.d (.int .i64 k), .d (.int .i64 n), .d (.str t), .d (.lst 32 l3), .d (.lst 9 l4)]), (1003, [.d (.int .i64 k), .d (.int .i64 n'), .d (.str t'), .d (.lst 32 l3'), .d (.lst 9 l4')])] }) =
      some (.ret false [3] [.int .i64 (match ordRs (decide (k = 5)) (dvRs (l3.drop i)) (dvRs (l3'.drop i)) (dKs (l4.drop i)) (dKs (l4'.drop i)) with
        | some d => d
        | none => icmp l3.length l3'.length)] [])
  | 0, i, hi => p30_250 _ _ _ _ _ _ _ _ _ _ _ (by
      simp only [s62, bindR0, rsi, icmp_sign]
      have hnone : ordRs (decide (k = 5)) (dvRs (l3.drop i)) (dvRs (l3'.drop i)) (dKs (l4.drop i)) (dKs (l4'.drop i)) = none := by
        by_cases h : i < l3.length
        · have h' : l3'.drop i = [] := List.drop_eq_nil_of_le (by omega)
          rw [h', dvRs_drop h]
          simp [dvRs, ordRs]
        · have h' : l3.drop i = [] := List.drop_eq_nil_of_le (by omega)
          rw [h']
          simp [dvRs, ordRs]
      rw [hnone]
      by_cases h : i < l3.length
      · have h' : ¬ i < l3'.length := by omega
        simp only [ix1 h, ix1' h', cond_true, cond_false]
      · simp only [ix1' h, cond_false])
  | m + 1, i, hi => p30_250 _ _ _ _ _ _ _ _ _ _ _ (by
      have h1 : i < l3.length := by omega
      have h2 : i < l3'.length := by omega
      have hlen : l3.length < 4611686018427387904 := by
        have := cnts_len (dvRs l3)
        rw [dvRs_len] at this
        omega
      have hrec := l30 ih (k := k) (n := n) (t := t) (l3 := l3) (l4 := l4) (n' := n') (t' := t') (l3' := l3') (l4' := l4') hN hb hs hs' hk m (i + 1) (by omega)
      have hx := cnts_mem (dvRs_mem h1)
      have hcall := ih ((l3.getD i []).getD 0 .nilP).i ((l3.getD i []).getD 1 .nilP).i ((l3.getD i []).getD 2 .nilP).s ((l3.getD i []).getD 3 .nilP).l ((l3.getD i []).getD 4 .nilP).l
        ((l3'.getD i []).getD 0 .nilP).i ((l3'.getD i []).getD 1 .nilP).i ((l3'.getD i []).getD 2 .nilP).s ((l3'.getD i []).getD 3 .nilP).l ((l3'.getD i []).getD 4 .nilP).l
        (Nat.le_trans hx hN) (Nat.lt_of_le_of_lt hx hb) (shVs_mem hs _ (dvRs_mem h1)) (shVs_mem hs' _ (dvRs_mem h2))
      have hv : ∀ r : List Dat, V.mk (r.getD 0 .nilP).i (r.getD 1 .nilP).i (r.getD 2 .nilP).s (dvRs (r.getD 3 .nilP).l) (dKs (r.getD 4 .nilP).l) = dV r := fun _ => rfl
      rw [hv, hv] at hcall
      rw [dvRs_drop h1, dvRs_drop h2]
      have hkey : ∀ r : List Dat, (r.getD 0 .nilP).s = dK r := fun _ => rfl
      simp only [cond_true, ix0, ix1 h1, ix1 h2, Bool.and_self, Int.toNat_natCast, hcall, bindR0, rsi, ixw (Nat.lt_trans h1 hlen), hrec, ordRs]
      by_cases k5 : k = 5
      · subst k5
        obtain ⟨hk1, hk2⟩ := hk rfl
        have h3 : i < l4.length := by omega
        have h4 : i < l4'.length := by omega
        rw [dKs_drop h3, dKs_drop h4]
        have z5 : ((5 : Int) == 5) = true := rfl
        simp only [z5, cond_true, ix1 h3, ix1 h4, Bool.and_self, s62, bindR0, rsi, hkey, List.headD_cons, List.tail_cons]
        generalize dK (l4.getD i []) = ka
        generalize dK (l4'.getD i []) = kb
        generalize ordR (dV (l3.getD i [])) (dV (l3'.getD i [])) = d
        by_cases hq : ka = kb
        · have hq' : (ka == kb) = true := by simpa using hq
          by_cases hd : d = 0
          · simp [hq, hd]
          · have hd' : (d != 0) = true := by simpa using hd
            simp [hq, hd, hd']
        · have hq' : (ka == kb) = false := by simpa using hq
          have hbc := bcmp_less ka kb
          rw [hq', cond_false] at hbc
          simp [hq, hq', ← hbc]
      · have z5 : (k == 5) = false := by simpa using k5
        simp only [z5, cond_false]
        generalize ordR (dV (l3.getD i [])) (dV (l3'.getD i [])) = d
        by_cases hd : d = 0
        · have hd' : (d != 0) = false := by simpa using hd
          have ht : ∀ l : List (List Dat), (dKs (l.drop i)).tail = dKs (l.drop (i + 1)) := fun l => by simp [dKs, ← List.map_tail]
          simp [hd, k5, ht]
        · have hd' : (d != 0) = true := by simpa using hd
          simp [hd, hd', k5])

theorem h30 : ∀ N : Nat, H30 N
  | 0 => fun k n t l3 l4 k' n' t' l3' l4' hN hb hs hs' => by
    have := cnt_pos (.mk k n t (dvRs l3) (dKs l4))
    omega
  | N + 1 => fun k n t l3 l4 k' n' t' l3' l4' hN hb hs hs' => c30 _ _ _ _ _ _ _ _ _ _ (by
    simp only [cnt] at hN hb
    obtain ⟨s1, s2⟩ := hs
    obtain ⟨s1', s2'⟩ := hs'
    rw [dKs_len, dvRs_len] at s1 s1'
    by_cases hk : k = k'
    · subst hk
      have hl := l30 (h30 N) (k := k) (n := n) (t := t) (l3 := l3) (l4 := l4) (n' := n') (t' := t') (l3' := l3') (l4' := l4') (by omega) (by omega) s2 s2' (fun e => ⟨s1 e, s1' e⟩) (min l3.length l3'.length) 0 (by omega)
      have z : (k != k) = false := by simp
      have z0 : ((0 : Nat) : Int) = 0 := rfl
      simp only [z0, List.drop_zero] at hl
      have e : ordR (.mk k n t (dvRs l3) (dKs l4)) (.mk k n' t' (dvRs l3') (dKs l4')) = if k = 1 ∨ k = 2 then icmp n n' else if k = 3 then bcmp t t' else (match ordRs (decide (k = 5)) (dvRs l3) (dvRs l3') (dKs l4) (dKs l4') with
        | some d => d
        | none => icmp l3.length l3'.length) := by
        rw [← dvRs_len l3, ← dvRs_len l3']
        conv => lhs; unfold ordR
        exact if_pos rfl
      rw [e]
      simp only [z, cond_false, s62, bindR0, rsi, icmp_sign, bcmp_less, hl]
      by_cases k1 : k = 1
      · subst k1; simp
      · have q1 : (k == 1) = false := by simpa using k1
        by_cases k2 : k = 2
        · subst k2; simp
        · have q2 : (k == 2) = false := by simpa using k2
          by_cases k3 : k = 3
          · subst k3; simp
          · have q3 : (k == 3) = false := by simpa using k3
            simp [q1, q2, q3, k1, k2, k3]
    · have z : (k != k') = true := by simpa using hk
      have e : ordR (.mk k n t (dvRs l3) (dKs l4)) (.mk k' n' t' (dvRs l3') (dKs l4')) = icmp k k' := by
        unfold ordR
        exact if_neg hk
      have e2 : cond (decide (k < k')) (-1) 1 = icmp k k' := by
        rw [← icmp_sign]
        have : (k == k') = false := by simpa using hk
        rw [this]; rfl
      simp only [z, cond_true, s62, bindR0, rsi, e, cond_false, e2])

theorem s30 (k n : Int) (t : List UInt8) (l3 l4 : List (List Dat)) (k' n' : Int) (t' : List UInt8) (l3' l4' : List (List Dat))
    (hb : cnt (.mk k n t (dvRs l3) (dKs l4)) < 4611686018427387904) (hs : shV (.mk k n t (dvRs l3) (dKs l4))) (hs' : shV (.mk k' n' t' (dvRs l3') (dKs l4'))) :
  SS (.call 30 [.agg [.d (.int .i64 k), .d (.int .i64 n), .d (.str t), .d (.lst 32 l3), .d (.lst 9 l4)], .agg [.d (.int .i64 k'), .d (.int .i64 n'), .d (.str t'), .d (.lst 32 l3'), .d (.lst 9 l4')]] []) =
    some (.ret false [3] [.int .i64 (ordR (.mk k n t (dvRs l3) (dKs l4)) (.mk k' n' t' (dvRs l3') (dKs l4')))] []) :=
  h30 _ k n t l3 l4 k' n' t' l3' l4' (Nat.le_refl _) hb hs hs'
end Go.Ab
end

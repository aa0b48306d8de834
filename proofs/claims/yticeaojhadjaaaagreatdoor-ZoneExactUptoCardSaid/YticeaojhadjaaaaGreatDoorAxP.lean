/- Part 16 of the proof that this seat's laws lean on: an abstract machine over the model's code, its soundness, and what it says of this program. -/
import Derived.Test.YticeaojhadjaaaaGreatDoorAxM
import Derived.Test.YticeaojhadjaaaaGreatDoorAxO

section
set_option linter.unusedSimpArgs false
/-! Orders agree; what fits a type. -/
set_option autoImplicit false
set_option linter.unusedVariables false
namespace Go.Ab

theorem icmp_self (n : Int) : icmp n n = 0 := by simp [icmp]
theorem bcmp_self (s : List UInt8) : bcmp s s = 0 := by rw [← bcmp_less]; simp

theorem own_facts {k n : Int} {t : List UInt8} {items : List V} {keys : List (List UInt8)} (h : ownF k n t items keys = true) :
    (k = 4 ∨ k = 5 ∨ items = []) ∧ (k = 1 ∨ k = 2 ∨ n = 0) ∧ (k = 3 ∨ t = []) ∧ (k = 5 → keys.length = items.length) ∧ (k = 5 ∨ keys = []) := by
  unfold ownF at h
  (repeat' split at h) <;> simp_all

theorem orI_l (a : Int) : orI [a, 0, 0] = a := by
  by_cases h : a = 0
  · subst h; rfl
  · simp [orI, h]
theorem orI_m (a : Int) : orI [0, a, 0] = a := by
  by_cases h : a = 0
  · subst h; rfl
  · simp [orI, h]
theorem orI_r (a : Int) : orI [0, 0, a] = a := by
  by_cases h : a = 0
  · subst h; rfl
  · simp [orI, h]

mutual
theorem ordPR : ∀ (v w : V) (lv lw : Nat), okL v lv = true → okL w lw = true → ordP v w = ordR v w
  | .mk k n t l ks, .mk k' n' t' l' ks', lv, lw, h, h' => by
    cases lv with
    | zero => simp [okL] at h
    | succ lv => cases lw with
      | zero => simp [okL] at h'
      | succ lw =>
        simp only [okL, Bool.and_eq_true] at h h'
        have hl := ordPRs (decide (k = 5)) l l' ks ks' lv lw h.2 h'.2
        obtain ⟨a1, a2, a3, _, _⟩ := own_facts h.1
        obtain ⟨b1, b2, b3, _, _⟩ := own_facts h'.1
        by_cases hk : k = k'
        · subst hk
          have eP : ordP (.mk k n t l ks) (.mk k n' t' l' ks') = (match ordPs (decide (k = 5)) l l' ks ks' with
            | some d => d
            | none => orI [icmp n n', bcmp t t', icmp l.length l'.length]) := by
            unfold ordP
            exact if_pos rfl
          have eR : ordR (.mk k n t l ks) (.mk k n' t' l' ks') = if k = 1 ∨ k = 2 then icmp n n' else if k = 3 then bcmp t t' else (match ordRs (decide (k = 5)) l l' ks ks' with
            | some d => d
            | none => icmp l.length l'.length) := by
            unfold ordR
            exact if_pos rfl
          rw [eP, eR, hl]
          by_cases k12 : k = 1 ∨ k = 2
          · have e1 : l = [] := by rcases a1 with h | h | h <;> first | exact h | (exfalso; omega)
            have e2 : l' = [] := by rcases b1 with h | h | h <;> first | exact h | (exfalso; omega)
            have e3 : t = [] := by rcases a3 with h | h <;> first | exact h | (exfalso; omega)
            have e4 : t' = [] := by rcases b3 with h | h <;> first | exact h | (exfalso; omega)
            subst e1; subst e2; subst e3; subst e4
            rw [if_pos k12]
            simp only [ordRs, bcmp_self, icmp_self]
            exact orI_l _
          · have e5 : n = 0 := by rcases a2 with h | h | h <;> first | exact h | (exfalso; omega)
            have e6 : n' = 0 := by rcases b2 with h | h | h <;> first | exact h | (exfalso; omega)
            subst e5; subst e6
            rw [if_neg k12]
            by_cases k3 : k = 3
            · have e1 : l = [] := by rcases a1 with h | h | h <;> first | exact h | (exfalso; omega)
              have e2 : l' = [] := by rcases b1 with h | h | h <;> first | exact h | (exfalso; omega)
              subst e1; subst e2
              rw [if_pos k3]
              simp only [ordRs, icmp_self]
              exact orI_m _
            · have e3 : t = [] := by rcases a3 with h | h <;> first | exact h | (exfalso; omega)
              have e4 : t' = [] := by rcases b3 with h | h <;> first | exact h | (exfalso; omega)
              subst e3; subst e4
              rw [if_neg k3]
              cases ordRs (decide (k = 5)) l l' ks ks' with
              | some d => rfl
              | none => simp only [bcmp_self, icmp_self]; exact orI_r _
        · have eP : ordP (.mk k n t l ks) (.mk k' n' t' l' ks') = icmp k k' := by
            unfold ordP
            exact if_neg hk
          have eR : ordR (.mk k n t l ks) (.mk k' n' t' l' ks') = icmp k k' := by
            unfold ordR
            exact if_neg hk
          rw [eP, eR]
theorem ordPRs : ∀ (obj : Bool) (l ys : List V) (ks ks' : List (List UInt8)) (lv lw : Nat), okLs l lv = true → okLs ys lw = true → ordPs obj l ys ks ks' = ordRs obj l ys ks ks'
  | obj, [], ys, ks, ks', lv, lw, h, h' => by simp [ordPs, ordRs]
  | obj, x :: l, [], ks, ks', lv, lw, h, h' => by simp [ordPs, ordRs]
  | obj, x :: l, y :: ys, ks, ks', lv, lw, h, h' => by
    simp only [okLs, Bool.and_eq_true] at h h'
    simp only [ordPs, ordRs, ordPR x y lv lw h.1 h'.1, ordPRs obj l ys ks.tail ks'.tail lv lw h.2 h'.2]
end

mutual
theorem okL_sh : ∀ (v : V) (lv : Nat), okL v lv = true → shV v
  | .mk k n t l ks, lv, h => by
    cases lv with
    | zero => simp [okL] at h
    | succ lv =>
      simp only [okL, Bool.and_eq_true] at h
      obtain ⟨_, _, _, a4, _⟩ := own_facts h.1
      exact ⟨a4, okLs_sh l lv h.2⟩
theorem okLs_sh : ∀ (l : List V) (lv : Nat), okLs l lv = true → shVs l
  | [], _, _ => trivial
  | v :: l, lv, h => by
    simp only [okLs, Bool.and_eq_true] at h
    exact ⟨okL_sh v lv h.1, okLs_sh l lv h.2⟩
end

theorem okV_cnt {v : V} (h : okV v = true) : cnt v < 4611686018427387904 := by
  simp only [okV, Bool.and_eq_true, decide_eq_true_eq] at h
  omega
theorem okV_sh {v : V} (h : okV v = true) : shV v := by
  simp only [okV, Bool.and_eq_true] at h
  exact okL_sh v 6 h.1
theorem okV_ord {v w : V} (h : okV v = true) (h' : okV w = true) : ordP v w = ordR v w := by
  simp only [okV, Bool.and_eq_true] at h h'
  exact ordPR v w 6 6 h.1 h'.1

/-- Does a value fit a type? -/
def fitsV (v : V) (t : Int) : Bool := decide (1 ≤ t) && (decide (t ≤ 4) && (okV v && ((t == 4) || ((v.k == 0) || (v.k == t)))))

theorem s69 (k n : Int) (t : List UInt8) (l3 l4 : List (List Dat)) (ty : Int) (hs : smV (.mk k n t (dvRs l3) (dKs l4))) :
    SS (.call 69 [.agg [.d (.int .i64 k), .d (.int .i64 n), .d (.str t), .d (.lst 32 l3), .d (.lst 9 l4)], .d (.int .i64 ty)] []) = some (.ret false [4] [.bool (fitsV (.mk k n t (dvRs l3) (dKs l4)) ty)] []) := c69 _ _ _ _ _ _ (by
  simp only [s129 k n t l3 l4 hs, bindR0, rsb]
  generalize hv : okV (.mk k n t (dvRs l3) (dKs l4)) = ok
  simp only [fitsV, hv, V.k]
  by_cases h1 : ty < 1
  · have : ¬ (1 ≤ ty) := by omega
    simp [h1, this]
  · by_cases h2 : ty > 4
    · have : ¬ (ty ≤ 4) := by omega
      simp [h1, h2, this]
    · have q1 : 1 ≤ ty := by omega
      have q2 : ty ≤ 4 := by omega
      cases ok with
      | false => simp [h1, h2]
      | true =>
        by_cases h4 : ty = 4
        · simp [h4]
        · by_cases h0 : k = 0
          · simp [h1, h2, h0, q1, q2]
          · have z4 : (ty == 4) = false := by simpa using h4
            have z0 : (k == 0) = false := by simpa using h0
            simp [h1, h2, h0, h4, q1, q2, z4, z0])

theorem s82 (k n : Int) (t : List UInt8) (l3 l4 : List (List Dat)) (ty : Int) :
    SS (.call 82 [.agg [.d (.int .i64 k), .d (.int .i64 n), .d (.str t), .d (.lst 32 l3), .d (.lst 9 l4)], .d (.int .i64 ty)] []) = some (.ret false [4] [.bool (fitsV (.mk k n t (dvRs l3) (dKs l4)) ty)] []) := c82 _ _ _ _ _ _ (by
  simp only [s115 k n t l3 l4, bindR0, rsb]
  generalize hv : okV (.mk k n t (dvRs l3) (dKs l4)) = ok
  simp only [fitsV, hv, V.k]
  by_cases h1 : ty < 1
  · have : ¬ (1 ≤ ty) := by omega
    simp [h1, this]
  · by_cases h2 : ty > 4
    · have : ¬ (ty ≤ 4) := by omega
      simp [h1, h2, this]
    · have q1 : 1 ≤ ty := by omega
      have q2 : ty ≤ 4 := by omega
      cases ok with
      | false => simp [h1, h2]
      | true =>
        by_cases h0 : k = 0
        · simp [h1, h2, h0, q1, q2]
        · have z0 : (k == 0) = false := by simpa using h0
          have : ty = 1 ∨ ty = 2 ∨ ty = 3 ∨ ty = 4 := by omega
          rcases this with rfl | rfl | rfl | rfl
          · by_cases hk : k = 1
            · subst hk; rfl
            · have zk : (k == 1) = false := by simpa using hk
              simp [h0, hk, z0, zk]
          · by_cases hk : k = 2
            · subst hk; rfl
            · have zk : (k == 2) = false := by simpa using hk
              simp [h0, hk, z0, zk]
          · by_cases hk : k = 3
            · subst hk; rfl
            · have zk : (k == 3) = false := by simpa using hk
              simp [h0, hk, z0, zk]
          · simp [z0])

/-! ### Null -/
theorem rs5 {x0 x1 x2 x3 x4 d : Dat} : ([x0, x1, x2, x3, x4] : List Dat).getD 0 d = x0 ∧ ([x0, x1, x2, x3, x4] : List Dat).getD 1 d = x1 ∧ ([x0, x1, x2, x3, x4] : List Dat).getD 2 d = x2 ∧ ([x0, x1, x2, x3, x4] : List Dat).getD 3 d = x3 ∧ ([x0, x1, x2, x3, x4] : List Dat).getD 4 d = x4 := ⟨rfl, rfl, rfl, rfl, rfl⟩
theorem dat_i (k : IntKind) (n : Int) : (Dat.int k n).i = n := rfl
theorem dat_s (s : List UInt8) : (Dat.str s).s = s := rfl
theorem dat_l (e : TypeId) (l : List (List Dat)) : (Dat.lst e l).l = l := rfl

theorem s81 : SS (.call 81 [] []) = some (.ret false [32] [.int .i64 0, .int .i64 0, .str [], .lst 32 [], .lst 9 []] []) := c81 rfl

/-- Is a value null as Go's zero value is? -/
def isNull (n0 n1 : Int) (s2 : List UInt8) (l3 l4 : List (List Dat)) : Bool := decide (n0 = 0) && (decide (n1 = 0) && (s2.isEmpty && (l4.isEmpty && l3.isEmpty)))

theorem s136n (l3 : List (List Dat)) : SS (.call 136 [.d (.lst 32 l3), .d (.lst 32 [])] []) = some (.ret false [4] [.bool l3.isEmpty] []) := c136 _ _ (by
  cases l3 with
  | nil => exact p136_58 _ _ _ rfl
  | cons x l =>
    have : (((x :: l).length : Int) != (([] : List (List Dat)).length : Int)) = true := by simp; omega
    simp only [this, cond_true]
    rfl)

theorem s80n (n0 n1 : Int) (s2 : List UInt8) (l3 l4 : List (List Dat)) :
    SS (.call 80 [.agg [.d (.int .i64 n0), .d (.int .i64 n1), .d (.str s2), .d (.lst 32 l3), .d (.lst 9 l4)], .agg [.d (.int .i64 0), .d (.int .i64 0), .d (.str []), .d (.lst 32 []), .d (.lst 9 [])]] []) = some (.ret false [4] [.bool (isNull n0 n1 s2 l3 l4)] []) := c80 _ _ _ _ _ _ _ _ _ _ (by
  unfold isNull
  by_cases h0 : n0 = 0
  · subst h0
    by_cases h1 : n1 = 0
    · subst h1
      cases s2 with
      | cons c s => rfl
      | nil => cases l4 with
        | cons x l =>
          have : (((x :: l).length : Int) != (([] : List (List Dat)).length : Int)) = true := by simp; omega
          simp only [this, cond_true]
          rfl
        | nil =>
          have hp := p80_58 0 0 0 [] l3 [] 0 0 [] [] [] (r := .ret false [4] [.bool l3.isEmpty] []) (by
            simp only [s136n, bindR0, rsb]
            rfl)
          refine Eq.trans ?_ hp
          rfl
    · have z1 : (n1 != 0) = true := by simpa using h1
      have z0 : ((0 : Int) != 0) = false := rfl
      simp [z1, h1]
  · have z0 : (n0 != 0) = true := by simpa using h0
    simp [z0, h0])

theorem isNull_V {n0 n1 : Int} {s2 : List UInt8} {l3 l4 : List (List Dat)} {ty : Int} (h1 : 1 ≤ ty) (h4 : ty ≤ 4) :
    isNull n0 n1 s2 l3 l4 = (fitsV (.mk n0 n1 s2 (dvRs l3) (dKs l4)) ty && (n0 == 0)) := by
  rw [Bool.eq_iff_iff]
  simp only [isNull, fitsV, Bool.and_eq_true, Bool.or_eq_true, decide_eq_true_eq, beq_iff_eq, V.k]
  constructor
  · rintro ⟨rfl, rfl, e2, e4, e3⟩
    rw [List.isEmpty_iff] at e2 e3 e4
    subst e2; subst e3; subst e4
    refine ⟨⟨h1, h4, ?_, Or.inr (Or.inl rfl)⟩, rfl⟩
    simp [okV, okL, okLs, ownOk, ownF, cnt, cnts, dvRs, dKs]
  · rintro ⟨⟨_, _, hv, _⟩, rfl⟩
    simp only [okV, okL, Bool.and_eq_true] at hv
    obtain ⟨a1, a2, a3, _, a5⟩ := own_facts hv.1.1
    have e1 : dvRs l3 = [] := by rcases a1 with h | h | h <;> first | exact h | (exfalso; omega)
    have e2 : n1 = 0 := by rcases a2 with h | h | h <;> first | exact h | (exfalso; omega)
    have e3 : s2 = [] := by rcases a3 with h | h <;> first | exact h | (exfalso; omega)
    have e5 : dKs l4 = [] := by rcases a5 with h | h <;> first | exact h | (exfalso; omega)
    refine ⟨rfl, e2, ?_, ?_, ?_⟩
    · rw [e3]; rfl
    · rw [List.isEmpty_iff]; exact List.map_eq_nil_iff.1 e5
    · rw [List.isEmpty_iff]; rw [dvRs_map] at e1; exact List.map_eq_nil_iff.1 e1

/-- Is what is known of values right? -/
noncomputable def statV (n0 n1 : Int) (mi ma : V) (rows ty : Int) : Bool :=
  decide (n0 = rows) && (decide (0 ≤ n1) && (decide (n1 ≤ rows) && (fitsV mi ty && (fitsV ma ty && (if n1 = rows then (mi.k == 0) && (ma.k == 0) else (mi.k != 0) && ((ma.k != 0) && decide (ordP mi ma ≤ 0)))))))

theorem fits_ok {v : V} {ty : Int} (h : fitsV v ty = true) : okV v = true := by
  simp only [fitsV, Bool.and_eq_true] at h
  exact h.2.2.1

theorem s35 (n0 n1 n2 n3 : Int) (s4 : List UInt8) (l5 l6 : List (List Dat)) (n7 n8 : Int) (s9 : List UInt8) (l10 l11 : List (List Dat)) (rows ty : Int)
    (h1 : smV (.mk n2 n3 s4 (dvRs l5) (dKs l6))) (h2 : smV (.mk n7 n8 s9 (dvRs l10) (dKs l11))) :
    SS (.call 35 [.agg [.d (.int .i64 n0), .d (.int .i64 n1), .d (.int .i64 n2), .d (.int .i64 n3), .d (.str s4), .d (.lst 32 l5), .d (.lst 9 l6), .d (.int .i64 n7), .d (.int .i64 n8), .d (.str s9), .d (.lst 32 l10), .d (.lst 9 l11)], .d (.int .i64 rows), .d (.int .i64 ty)] []) =
      some (.ret false [4] [.bool (statV n0 n1 (.mk n2 n3 s4 (dvRs l5) (dKs l6)) (.mk n7 n8 s9 (dvRs l10) (dKs l11)) rows ty)] []) := c35 _ _ _ _ _ _ _ _ _ _ _ _ _ _ (by
  simp only [s69 _ _ _ _ _ _ h1, s69 _ _ _ _ _ _ h2, bindR0, rsb]
  by_cases q0 : n0 = rows
  · have z0 : (n0 != rows) = false := by simpa using q0
    by_cases q1 : n1 < 0
    · have : ¬ (0 ≤ n1) := by omega
      simp [statV, z0, q1, this]
    · by_cases q2 : n1 > rows
      · have : ¬ (n1 ≤ rows) := by omega
        simp [statV, z0, q1, q2, this]
      · have q1' : 0 ≤ n1 := by omega
        have q2' : n1 ≤ rows := by omega
        by_cases f1 : fitsV (.mk n2 n3 s4 (dvRs l5) (dKs l6)) ty = true
        · by_cases f2 : fitsV (.mk n7 n8 s9 (dvRs l10) (dKs l11)) ty = true
          · have hord := s70 n2 n3 s4 l5 l6 n7 n8 s9 l10 l11 (okV_cnt (fits_ok f1)) (okV_sh (fits_ok f1)) (okV_sh (fits_ok f2))
            simp only [hord, bindR0, rsi]
            simp only [statV, f1, f2, q0, q1, q2, q1', q2', z0, V.k, decide_true, decide_false, Bool.true_and, cond_true, cond_false, Bool.not_true, bne_self_eq_false]
            generalize ordP (.mk n2 n3 s4 (dvRs l5) (dKs l6)) (.mk n7 n8 s9 (dvRs l10) (dKs l11)) = d
            by_cases q3 : n1 = rows
            · have z3 : (n1 == rows) = true := by simpa using q3
              by_cases q4 : n2 = 0
              · by_cases q5 : n7 = 0
                · simp [q3, q4, q5]
                · have : (n7 == 0) = false := by simpa using q5
                  simp [q3, q4, q5, this]
              · have : (n2 == 0) = false := by simpa using q4
                simp [q3, q4, this]
            · have z3 : (n1 == rows) = false := by simpa using q3
              by_cases q4 : n2 = 0
              · simp [q3, q4, z3]
              · have y4 : (n2 != 0) = true := by simpa using q4
                by_cases q5 : n7 = 0
                · simp [q3, q4, q5, z3, y4]
                · have y5 : (n7 != 0) = true := by simpa using q5
                  simp [q3, q4, q5, z3, y4, y5]
                  exact decide_eq_decide.2 Iff.rfl
          · have f2' : fitsV (.mk n7 n8 s9 (dvRs l10) (dKs l11)) ty = false := by simpa using f2
            simp only [statV, f1, f2', q0, q1, q2, q1', q2', z0, decide_true, decide_false, Bool.true_and, Bool.false_and, cond_true, cond_false, Bool.not_true, Bool.not_false, bne_self_eq_false]
        · have f1' : fitsV (.mk n2 n3 s4 (dvRs l5) (dKs l6)) ty = false := by simpa using f1
          simp only [statV, f1', q0, q1, q2, q1', q2', z0, decide_true, decide_false, Bool.true_and, Bool.false_and, cond_true, cond_false, Bool.not_true, Bool.not_false, bne_self_eq_false]
  · have z0 : (n0 != rows) = true := by simpa using q0
    simp [statV, z0, q0])

theorem s39 (n0 n1 n2 n3 : Int) (s4 : List UInt8) (l5 l6 : List (List Dat)) (n7 n8 : Int) (s9 : List UInt8) (l10 l11 : List (List Dat)) (rows ty : Int) (ht1 : 1 ≤ ty) (ht4 : ty ≤ 4) :
    SS (.call 39 [.agg [.d (.int .i64 n0), .d (.int .i64 n1), .d (.int .i64 n2), .d (.int .i64 n3), .d (.str s4), .d (.lst 32 l5), .d (.lst 9 l6), .d (.int .i64 n7), .d (.int .i64 n8), .d (.str s9), .d (.lst 32 l10), .d (.lst 9 l11)], .d (.int .i64 rows), .d (.int .i64 ty)] []) =
      some (.ret false [4] [.bool (statV n0 n1 (.mk n2 n3 s4 (dvRs l5) (dKs l6)) (.mk n7 n8 s9 (dvRs l10) (dKs l11)) rows ty)] []) := c39 _ _ _ _ _ _ _ _ _ _ _ _ _ _ (by
  simp only [s81, bindR0, rs5, dat_i, dat_s, dat_l, s80n, s82, rsb]
  by_cases q0 : n0 = rows
  · have z0 : (n0 != rows) = false := by simpa using q0
    by_cases q1 : n1 < 0
    · have : ¬ (0 ≤ n1) := by omega
      simp [statV, z0, q1, this]
    · by_cases q2 : n1 > rows
      · have : ¬ (n1 ≤ rows) := by omega
        simp [statV, z0, q1, q2, this]
      · have q1' : 0 ≤ n1 := by omega
        have q2' : n1 ≤ rows := by omega
        simp only [statV, isNull_V ht1 ht4, q0, q1, q2, q1', q2', z0, V.k, decide_true, decide_false, Bool.true_and, cond_true, cond_false, bne_self_eq_false]
        by_cases q3 : n1 = rows
        · have z3 : (n1 == rows) = true := by simpa using q3
          simp only [z3, cond_true, if_pos q3]
          generalize fitsV (.mk n2 n3 s4 (dvRs l5) (dKs l6)) ty = b1
          generalize fitsV (.mk n7 n8 s9 (dvRs l10) (dKs l11)) ty = b2
          generalize (n2 == 0) = b3
          generalize (n7 == 0) = b4
          cases b1 <;> cases b2 <;> cases b3 <;> cases b4 <;> rfl
        · have z3 : (n1 == rows) = false := by simpa using q3
          simp only [z3, cond_false, if_neg q3]
          by_cases f1 : fitsV (.mk n2 n3 s4 (dvRs l5) (dKs l6)) ty = true
          · by_cases f2 : fitsV (.mk n7 n8 s9 (dvRs l10) (dKs l11)) ty = true
            · have hord := s30 n2 n3 s4 l5 l6 n7 n8 s9 l10 l11 (okV_cnt (fits_ok f1)) (okV_sh (fits_ok f1)) (okV_sh (fits_ok f2))
              rw [← okV_ord (fits_ok f1) (fits_ok f2)] at hord
              simp only [hord, bindR0, rsi, f1, f2, cond_true, Bool.true_and]
              generalize ordP (.mk n2 n3 s4 (dvRs l5) (dKs l6)) (.mk n7 n8 s9 (dvRs l10) (dKs l11)) = d
              by_cases q4 : n2 = 0
              · simp [q4]
              · have y4 : (n2 != 0) = true := by simpa using q4
                by_cases q5 : n7 = 0
                · simp [q4, q5]
                · have y5 : (n7 != 0) = true := by simpa using q5
                  simp [q4, q5, y4, y5]
                  exact decide_eq_decide.2 Iff.rfl
            · have f2' : fitsV (.mk n7 n8 s9 (dvRs l10) (dKs l11)) ty = false := by simpa using f2
              simp only [f1, f2', cond_true, cond_false, Bool.true_and, Bool.false_and]
          · have f1' : fitsV (.mk n2 n3 s4 (dvRs l5) (dKs l6)) ty = false := by simpa using f1
            simp only [f1', cond_false, Bool.false_and]
  · have z0 : (n0 != rows) = true := by simpa using q0
    simp [statV, z0, q0])
end Go.Ab
end

section
set_option linter.unusedSimpArgs false
/-! Words and columns. -/
set_option autoImplicit false
set_option linter.unusedVariables false
namespace Go.Ab

def lc (c : UInt8) : Bool := decide (97 ≤ c.toNat) && decide (c.toNat ≤ 122)
def dc (c : UInt8) : Bool := (decide (48 ≤ c.toNat) && decide (c.toNat ≤ 57)) || decide (c.toNat = 95)
def wc (c : UInt8) : Bool := lc c || dc c
/-- Is it a word? -/
def wordW : List UInt8 → Bool
  | [] => false
  | c :: t => lc c && (t.all wc && decide ((c :: t).length ≤ 24))

theorem tl2 (c : UInt8) : decide ((c.toNat : Int) ≥ 97) = decide (97 ≤ c.toNat) ∧ decide ((c.toNat : Int) ≤ 122) = decide (c.toNat ≤ 122) ∧ decide ((c.toNat : Int) ≥ 48) = decide (48 ≤ c.toNat) ∧ decide ((c.toNat : Int) ≤ 57) = decide (c.toNat ≤ 57) ∧ ((c.toNat : Int) == 95) = decide (c.toNat = 95) := by
  refine ⟨?_, ?_, ?_, ?_, ?_⟩
  · rw [decide_eq_decide]; omega
  · rw [decide_eq_decide]; omega
  · rw [decide_eq_decide]; omega
  · rw [decide_eq_decide]; omega
  · rw [Bool.eq_iff_iff]; simp <;> omega

theorem l68 : ∀ (t pre : List UInt8), (pre ++ t).length < 4611686018427387904 → 0 < pre.length →
    SS (.pt 68 [] 26 { tmps := [(0, .d (.str (pre ++ t))), (6, .d (.int .i64 ((pre ++ t).length : Int))), (7, .d (.int .i64 (pre.length : Int)))], boxes := [] }) = some (.ret false [4] [.bool (t.all wc && decide ((pre ++ t).length ≤ 24))] [])
  | [], pre, hs, hp => p68_26 _ _ _ (by
      have h1 : ((pre ++ []) == ([] : List UInt8)) = false := by cases pre with
        | nil => simp at hp
        | cons c l => rfl
      have h2 : decide (((pre ++ ([] : List UInt8)).length : Int) ≤ 24) = decide ((pre ++ ([] : List UInt8)).length ≤ 24) := by rw [decide_eq_decide]; omega
      simp only [lp1e, cond_false, h1, h2, List.all_nil, Bool.true_and]
      rfl)
  | c :: t, pre, hs, hp => p68_26 _ _ _ (by
      have ih := l68 t (pre ++ [c]) (by simpa using hs) (by simp)
      rw [List.append_assoc, List.singleton_append] at ih
      have hp' : decide ((pre.length : Int) > 0) = true := by simp <;> omega
      simp only [lp0, lp1, lpg, lpw hs, Bool.and_self, cond_true, ih, tl2, hp', List.all_cons]
      simp only [wc, lc, dc]
      generalize decide (97 ≤ c.toNat) = b1
      generalize decide (c.toNat ≤ 122) = b2
      generalize decide (48 ≤ c.toNat) = b3
      generalize decide (c.toNat ≤ 57) = b4
      generalize decide (c.toNat = 95) = b5
      cases b1 <;> cases b2 <;> cases b3 <;> cases b4 <;> cases b5 <;> rfl)

theorem s68 (s : List UInt8) (hs : s.length < 4611686018427387904) : SS (.call 68 [.d (.str s)] []) = some (.ret false [4] [.bool (wordW s)] []) := c68 s (by
  cases s with
  | nil => exact p68_26 _ _ _ rfl
  | cons c t =>
    have ih := l68 t [c] (by simpa using hs) (by simp)
    refine p68_26 (c :: t) ((c :: t).length : Int) 0 ?_
    have z0 : decide ((0 : Int) < ((c :: t).length : Int)) = true := by simp <;> omega
    have z1 : decide ((0 : Int) ≤ 0) = true := rfl
    have z2 : ((c :: t).getD (0 : Int).toNat 0) = c := rfl
    have z3 : decide ((0 : Int) > 0) = false := rfl
    have z4 : Go.IntKind.i64.wrap (0 + 1) = (([c] : List UInt8).length : Int) := rfl
    have z5 : (c :: t : List UInt8) = [c] ++ t := rfl
    simp only [z0, z1, z2, z3, z4, Bool.and_self, cond_true, cond_false, tl2, wordW, lc]
    rw [z5, ih]
    generalize decide (97 ≤ c.toNat) = b1
    generalize decide (c.toNat ≤ 122) = b2
    cases b1 <;> cases b2 <;> rfl)

/-- Is a list of words, none of it told before? -/
def wordsL : List (List UInt8) → List (List UInt8) → Bool
  | _, [] => true
  | pre, s :: t => wordW s && (!(pre.contains s) && wordsL (pre ++ [s]) t)

/-- A column's type. -/
noncomputable def cTy (r : List Dat) : Int := (r.getD 1 .nilP).i
noncomputable def tyOk (r : List Dat) : Bool := decide (1 ≤ cTy r) && decide (cTy r ≤ 4)
/-- Are columns right? -/
noncomputable def colsV (l : List (List Dat)) : Bool := decide (1 ≤ l.length) && (decide (l.length ≤ 8) && (l.all tyOk && wordsL [] (dKs l)))

/-- What expr.Cols's loop finds. -/
noncomputable def colsL : List (List UInt8) → List (List Dat) → Bool
  | _, [] => true
  | pre, r :: t => wordW (dK r) && (!(pre.contains (dK r)) && (tyOk r && colsL (pre ++ [dK r]) t))
theorem colsL_eq : ∀ (t : List (List Dat)) (pre : List (List UInt8)), colsL pre t = (t.all tyOk && wordsL pre (dKs t))
  | [], pre => rfl
  | r :: t, pre => by
    have hc : dKs (r :: t) = dK r :: dKs t := rfl
    simp only [colsL, hc, wordsL, List.all_cons, colsL_eq t]
    generalize wordW (dK r) = b1
    generalize pre.contains (dK r) = b2
    generalize tyOk r = b3
    generalize t.all tyOk = b4
    cases b1 <;> cases b2 <;> cases b3 <;> cases b4 <;> rfl

theorem keyEq_str (a b : List UInt8) : keyEq (.str a) (.str b) = (a == b) := rfl

theorem mapPut_val {k : Dat} {v d : List Dat} (hk : keyEq k k = true) : ∀ (rows : List (List Dat)), mapVal k d (mapPut k v rows) = v
  | [] => by simp [mapPut, mapVal, hk]
  | r :: rows => by
    unfold mapPut
    by_cases h : keyEq k (r.headD .nilP) = true
    · simp only [h, cond_true, mapVal, List.headD_cons, hk, List.tail_cons]
    · have h' : keyEq k (r.headD .nilP) = false := by simpa using h
      simp only [h', cond_false, mapVal, mapPut_val hk rows]
theorem keyEq_eq {a b : Dat} (h : keyEq a b = true) : a = b := by
  cases a <;> cases b <;> simp_all [keyEq]
theorem mapPut_ne {k k' : Dat} {v d : List Dat} (hne : k' ≠ k) (hn : keyEq k' k = false) : ∀ (rows : List (List Dat)), mapVal k' d (mapPut k v rows) = mapVal k' d rows
  | [] => by simp [mapPut, mapVal, hn]
  | r :: rows => by
    unfold mapPut
    by_cases h : keyEq k (r.headD .nilP) = true
    · have e := keyEq_eq h
      rw [h, cond_true]
      simp only [mapVal, List.headD_cons, hn, cond_false, ← e]
    · have h' : keyEq k (r.headD .nilP) = false := by simpa using h
      simp only [h', cond_false, mapVal, mapPut_ne hne hn rows]

theorem l34 (l0 : List (List Dat)) : ∀ (t pre m : List (List Dat)), (pre ++ t).length < 4611686018427387904 → (∀ r ∈ t, (dK r).length < 4611686018427387904) →
    (∀ s, (mapVal (.str s) [.bool false] m).getD 0 .nilP = .bool ((dKs pre).contains s)) →
    SS (.pt 34 [] 58 { tmps := [(0, .d (.lst 83 l0)), (3, .own 1000115 m), (7, .d (.lst 83 (pre ++ t))), (8, .d (.int .i64 ((pre ++ t).length : Int))), (9, .d (.int .i64 (pre.length : Int)))], boxes := [] }) =
      some (.ret false [4] [.bool (colsL (dKs pre) t && (decide (1 ≤ l0.length) && decide (l0.length ≤ 8)))] [])
  | [], pre, m, hs, hk, hm => p34_58 _ _ _ _ _ (by
      have h1 : decide ((l0.length : Int) > 0) = decide (1 ≤ l0.length) := by rw [decide_eq_decide]; omega
      have h2 : decide ((l0.length : Int) ≤ 8) = decide (l0.length ≤ 8) := by rw [decide_eq_decide]; omega
      simp only [lp1e, cond_false, colsL, h1, h2, Bool.true_and]
      generalize decide (1 ≤ l0.length) = b1
      generalize decide (l0.length ≤ 8) = b2
      cases b1 <;> cases b2 <;> rfl)
  | r :: t, pre, m, hs, hk, hm => p34_58 _ _ _ _ _ (by
      have hkr : (r.getD 0 .nilP).s = dK r := rfl
      have hty : (r.getD 1 .nilP).i = cTy r := rfl
      have hp : dKs (pre ++ [r]) = dKs pre ++ [dK r] := by simp [dKs]
      have ih := l34 l0 t (pre ++ [r]) (mapPut (.str (dK r)) [.bool true] m) (by simpa using hs) (fun x hx => hk x (List.mem_cons_of_mem _ hx)) (fun s => by
        rw [hp]
        by_cases h : s = dK r
        · subst h
          rw [mapPut_val (by simp [keyEq])]
          simp
        · rw [mapPut_ne (by simpa using h) (by rw [keyEq_str]; simpa using h), hm]
          have : (dKs pre ++ [dK r]).contains s = (dKs pre).contains s := by
            simp [h]
          rw [this])
      rw [List.append_assoc, List.singleton_append, hp] at ih
      simp only [lp0, lp1, lpg, lpw hs, Bool.and_self, cond_true, ih, hkr, hty, hm, s68 _ (hk r (List.mem_cons_self ..)), bindR0, rsb, colsL, tyOk]
      have e1 : decide (cTy r < 1) = !decide (1 ≤ cTy r) := by rw [Bool.eq_iff_iff]; simp <;> omega
      have e2 : decide (cTy r > 4) = !decide (cTy r ≤ 4) := by rw [Bool.eq_iff_iff]; simp <;> omega
      have e3 : ∀ b, (Dat.bool b).b = b := fun _ => rfl
      rw [e1, e2, e3]
      generalize wordW (dK r) = b1
      generalize (dKs pre).contains (dK r) = b2
      generalize decide (1 ≤ cTy r) = b3
      generalize decide (cTy r ≤ 4) = b4
      cases b1 <;> cases b2 <;> cases b3 <;> cases b4 <;> rfl)

theorem s34 (l : List (List Dat)) (hl : l.length < 4611686018427387904) (hk : ∀ r ∈ l, (dK r).length < 4611686018427387904) : SS (.call 34 [.d (.lst 83 l)] []) = some (.ret false [4] [.bool (colsV l)] []) := c34 l (by
  have h := l34 l l [] [] hl hk (fun s => rfl)
  have e : (colsL (dKs []) l && (decide (1 ≤ l.length) && decide (l.length ≤ 8))) = colsV l := by
    rw [colsL_eq]
    show (l.all tyOk && wordsL [] (dKs l) && _) = _
    unfold colsV
    generalize (l.all tyOk && wordsL [] (dKs l)) = b1
    generalize decide (1 ≤ l.length) = b2
    generalize decide (l.length ≤ 8) = b3
    cases b1 <;> cases b2 <;> cases b3 <;> rfl
  rw [e] at h
  exact h)

end Go.Ab
end

section
set_option linter.unusedSimpArgs false
/-! Paths. -/
set_option autoImplicit false
set_option linter.unusedVariables false
namespace Go.Ab

noncomputable def stI (r : List Dat) : Int := (r.getD 0 .nilP).i
noncomputable def stK (r : List Dat) : List UInt8 := (r.getD 1 .nilP).s
/-- Is a step right? -/
def stepB (n : Int) (s : List UInt8) : Bool := if 0 ≤ n then decide (n ≤ 99) && s.isEmpty else decide (n = -1) && isText s
noncomputable def stepsV (l : List (List Dat)) : Bool := decide (l.length ≤ 6) && l.all fun r => stepB (stI r) (stK r)

theorem okV_str (s : List UInt8) : okV (.mk 3 0 s (dvRs []) (dKs [])) = isText s := by
  simp [okV, okL, okLs, ownOk, ownF, cnt, cnts, dvRs, dKs]
theorem s180 (s : List UInt8) : SS (.call 180 [.d (.str s)] []) = some (.ret false [32] [.int .i64 3, .int .i64 0, .str s, .lst 32 [], .lst 9 []] []) := c180 s rfl
theorem s129t (s : List UInt8) : SS (.call 129 [.agg [.d (.int .i64 3), .d (.int .i64 0), .d (.str s), .d (.lst 32 []), .d (.lst 9 [])]] []) = some (.ret false [4] [.bool (isText s)] []) := by
  have h := s129 3 0 s [] [] (by simp [smV, smVs, dvRs, dKs])
  rw [okV_str] at h
  exact h

theorem s131 (n : Int) (s : List UInt8) : SS (.call 131 [.agg [.d (.int .i64 n), .d (.str s)]] []) = some (.ret false [4] [.bool (stepB n s)] []) := c131 n s (by
  simp only [s180, bindR0, rs5, dat_i, dat_s, dat_l, s129t, rsb, stepB]
  by_cases h : 0 ≤ n
  · have h' : n ≥ 0 := h
    have e : (s == []) = s.isEmpty := by cases s <;> rfl
    by_cases h2 : n ≤ 99
    · simp [h, h2, e]
    · simp [h, h2]
  · have h' : ¬ (n ≥ 0) := h
    by_cases h2 : n = -1
    · subst h2; simp
    · have : (n == -1) = false := by simpa using h2
      simp [h, h2, this])

theorem s130 (n : Int) (s : List UInt8) : SS (.call 130 [.agg [.d (.int .i64 n), .d (.str s)]] []) = some (.ret false [4] [.bool (!(stepB n s))] []) := c130 n s (by simp only [s131, bindR0, rsb])
theorem l132b : ∀ (t pre : List (List Dat)), (pre ++ t).length < 4611686018427387904 →
    ∃ i : Int, SS (.pt 132 [] 26 { tmps := [(0, .d (.lst 119 (pre ++ t))), (1, .d (.fn 130 [])), (7, .d (.int .i64 ((pre ++ t).length : Int))), (8, .d (.int .i64 (pre.length : Int)))], boxes := [] }) = some (.ret false [3] [.int .i64 i] []) ∧ decide (i ≥ 0) = !(t.all fun r => stepB (stI r) (stK r))
  | [], pre, hs => ⟨-1, p132_26_1 _ _ _ (by simp only [lp1e, cond_false]), rfl⟩
  | r :: t, pre, hs => by
    obtain ⟨i, h1, h2⟩ := l132b t (pre ++ [r]) (by simpa using hs)
    rw [List.append_assoc, List.singleton_append] at h1
    have hi : (r.getD 0 .nilP).i = stI r := rfl
    have hk : (r.getD 1 .nilP).s = stK r := rfl
    by_cases h : stepB (stI r) (stK r) = true
    · refine ⟨i, p132_26_1 _ _ _ ?_, ?_⟩
      · simp only [lp0, lp1, lpg, lpw hs, Bool.and_self, cond_true, s130, bindR0, rsb, hi, hk, h, Bool.not_true, cond_false, h1]
      · simp only [List.all_cons, h, Bool.true_and, h2]
    · have h' : stepB (stI r) (stK r) = false := by simpa using h
      refine ⟨(pre.length : Int), p132_26_1 _ _ _ ?_, ?_⟩
      · simp only [lp0, lp1, lpg, Bool.and_self, cond_true, s130, bindR0, rsb, hi, hk, h', Bool.not_false]
      · simp only [List.all_cons, h', Bool.false_and, Bool.not_false]
        rw [decide_eq_true_eq]; omega

theorem s71 (l : List (List Dat)) : SS (.call 71 [.d (.lst 119 l)] []) = some (.ret false [4] [.bool (stepsV l)] []) := c71 l (by
  by_cases h : l.length ≤ 6
  · obtain ⟨i, h1, h2⟩ := l132b l [] (by simp <;> omega)
    have h3 := c132_1 l h1
    have h4 := c72_1 l (r := .ret false [4] [.bool (decide (i ≥ 0))] []) (by
      simp only [h3, bindR0, rsi]
      exact congrArg (fun b => some (Res.ret false [4] [Dat.bool b] [])) (decide_eq_decide.2 Iff.rfl))
    have z : decide ((l.length : Int) ≤ 6) = true := by rw [decide_eq_true_eq]; omega
    simp only [z, cond_true, h4, bindR0, rsb, h2, Bool.not_not, stepsV, h, decide_true, Bool.true_and]
  · have z : decide ((l.length : Int) ≤ 6) = false := by rw [decide_eq_false_iff_not]; omega
    simp only [z, cond_false, stepsV, h, decide_false, Bool.false_and])

/-- Is it a path of one or two keys? -/
noncomputable def pathV (l : List (List Dat)) : Bool := stepsV l && ((decide (l.length = 1) || decide (l.length = 2)) && l.all fun r => decide (stI r < 0))

/-! ### Comparing -/
/-- How keys of paths are compared. -/
noncomputable def pcmp : List (List Dat) → List (List Dat) → Int
  | [], ys => icmp 0 ys.length
  | x :: l, ys => match ys with
    | [] => 1
    | y :: ys => if bcmp (stK x) (stK y) = 0 then pcmp l ys else bcmp (stK x) (stK y)

end Go.Ab
end

section
set_option linter.unusedSimpArgs false
/-! Heads. -/
set_option autoImplicit false
set_option linter.unusedVariables false
namespace Go.Ab

noncomputable def phC (r : List Dat) : Int := (r.getD 0 .nilP).i
noncomputable def phP (r : List Dat) : List (List Dat) := (r.getD 1 .nilP).l
/-- A value at a place of a row. -/
noncomputable def vAt (r : List Dat) (a b c d e : Nat) : V := .mk (r.getD a .nilP).i (r.getD b .nilP).i (r.getD c .nilP).s (dvRs (r.getD d .nilP).l) (dKs (r.getD e .nilP).l)
noncomputable def stA (r : List Dat) (rows ty : Int) : Bool := statV (r.getD 0 .nilP).i (r.getD 1 .nilP).i (vAt r 2 3 4 5 6) (vAt r 7 8 9 10 11) rows ty
noncomputable def stB (r : List Dat) (rows : Int) : Bool := statV (r.getD 2 .nilP).i (r.getD 3 .nilP).i (vAt r 4 5 6 7 8) (vAt r 9 10 11 12 13) rows 4
def smA (r : List Dat) : Prop := smV (vAt r 2 3 4 5 6) ∧ smV (vAt r 7 8 9 10 11)
def smB (r : List Dat) : Prop := smV (vAt r 4 5 6 7 8) ∧ smV (vAt r 9 10 11 12 13)

noncomputable def phOk (cols : List (List Dat)) (c : Int) (p : List (List Dat)) (st : Bool) : Bool :=
  decide (0 ≤ c) && (decide (c < (cols.length : Int)) && (decide (cTy (cols.getD c.toNat []) = 4) && (pathV p && st)))

/-! ### Stats -/
noncomputable def statsL (rows : Int) : List (List Dat) → List (List Dat) → Bool
  | [], _ => true
  | r :: t, cs => stA r rows (cTy (cs.headD [])) && statsL rows t cs.tail

theorem tail_drop' {α : Type} (l : List α) (i : Nat) : (l.drop i).tail = l.drop (i + 1) := by simp
theorem vAt_eq (r : List Dat) (a b c d e : Nat) : V.mk (r.getD a .nilP).i (r.getD b .nilP).i (r.getD c .nilP).s (dvRs (r.getD d .nilP).l) (dKs (r.getD e .nilP).l) = vAt r a b c d e := rfl

theorem l10 (cols : List (List Dat)) (n1 n2 n3 : Int) (stats paths : List (List Dat)) {b : Bool}
    (hb : SS (.pt 10 [] 250 { tmps := [(1, .ptr 1001 0), (5, .own 1000085 []), (71, .d (.lst 86 paths)), (72, .d (.int .i64 (paths.length : Int))), (73, .d (.int .i64 0))], boxes := [(1001, [.d (.lst 83 cols), .d (.int .i64 n1), .d (.int .i64 n2), .d (.int .i64 n3), .d (.lst 43 stats), .d (.lst 86 paths)])] }) = some (.ret false [4] [.bool b] [])) :
    ∀ (t pre : List (List Dat)), (pre ++ t).length < 4611686018427387904 → cols.length = (pre ++ t).length → (∀ r ∈ t, smA r) →
    SS (.pt 10 [] 58 { tmps := [(1, .ptr 1001 0), (50, .d (.lst 43 (pre ++ t))), (51, .d (.int .i64 ((pre ++ t).length : Int))), (52, .d (.int .i64 (pre.length : Int)))], boxes := [(1001, [.d (.lst 83 cols), .d (.int .i64 n1), .d (.int .i64 n2), .d (.int .i64 n3), .d (.lst 43 stats), .d (.lst 86 paths)])] }) =
      some (.ret false [4] [.bool (statsL n1 t (cols.drop pre.length) && b)] [])
  | [], pre, hs, hc, hm => p10_58 _ _ _ _ _ _ _ _ _ (by simp only [lp1e, cond_false, hb, statsL, Bool.true_and])
  | r :: t, pre, hs, hc, hm => p10_58 _ _ _ _ _ _ _ _ _ (by
      have ih := l10 cols n1 n2 n3 stats paths hb t (pre ++ [r]) (by simpa using hs) (by simpa using hc) (fun x hx => hm x (List.mem_cons_of_mem _ hx))
      rw [List.append_assoc, List.singleton_append] at ih
      obtain ⟨m1, m2⟩ := hm r (List.mem_cons_self ..)
      have hi : pre.length < cols.length := by rw [hc]; simp
      have e0 : ((cols.getD pre.length []).getD 1 .nilP).i = cTy (cols.getD pre.length []) := rfl
      have e1 : (cols.drop pre.length).headD [] = cols.getD pre.length [] := by rw [dropd [] hi]; rfl
      have e2 : (cols.drop pre.length).tail = cols.drop (pre ++ [r]).length := by rw [tail_drop', List.length_append, List.length_singleton]
      have hg : (pre ++ r :: t).getD pre.length [] = r := by simp [List.getD_eq_getElem?_getD]
      simp only [lp0, lp1, lpw hs, ix1 hi, Bool.and_self, cond_true, Int.toNat_natCast, hg, e0, s35 _ _ _ _ _ _ _ _ _ _ _ _ _ _ m1 m2, bindR0, rsb, ih, statsL, e1, e2, vAt_eq]
      show cond (!(stA r n1 (cTy (cols.getD pre.length [])))) _ _ = _
      generalize stA r n1 (cTy (cols.getD pre.length [])) = b1
      cases b1 <;> rfl)

theorem l11 (cols : List (List Dat)) (n1 n2 n3 : Int) (paths : List (List Dat)) {b : Bool} (hall : cols.all tyOk = true) :
    ∀ (t pre : List (List Dat)),
    (SS (.pt 11 [] 250 { tmps := [(1, .ptr 1001 0), (4, .d (.int .i64 0)), (5, .d (.int .i64 0))], boxes := [(1001, [.d (.lst 83 cols), .d (.int .i64 n1), .d (.int .i64 n2), .d (.int .i64 n3), .d (.lst 43 (pre ++ t)), .d (.lst 86 paths)])] }) = some (.ret false [4] [.bool b] [])) →
    (pre ++ t).length < 4611686018427387904 → cols.length = (pre ++ t).length →
    SS (.pt 11 [] 58 { tmps := [(1, .ptr 1001 0), (3, .d (.int .i64 (pre.length : Int)))], boxes := [(1001, [.d (.lst 83 cols), .d (.int .i64 n1), .d (.int .i64 n2), .d (.int .i64 n3), .d (.lst 43 (pre ++ t)), .d (.lst 86 paths)])] }) =
      some (.ret false [4] [.bool (statsL n1 t (cols.drop pre.length) && b)] [])
  | [], pre, hb, hs, hc => p11_58 _ _ _ _ _ _ _ (by simp only [lp1e, cond_false, hb, statsL, Bool.true_and])
  | r :: t, pre, hb, hs, hc => p11_58 _ _ _ _ _ _ _ (by
      have ih := l11 cols n1 n2 n3 paths (b := b) hall t (pre ++ [r]) (by rw [List.append_assoc, List.singleton_append]; exact hb) (by simpa using hs) (by simpa using hc)
      rw [List.append_assoc, List.singleton_append] at ih
      have hi : pre.length < cols.length := by rw [hc]; simp
      have e0 : ((cols.getD pre.length []).getD 1 .nilP).i = cTy (cols.getD pre.length []) := rfl
      have e1 : (cols.drop pre.length).headD [] = cols.getD pre.length [] := by rw [dropd [] hi]; rfl
      have e2 : (cols.drop pre.length).tail = cols.drop (pre ++ [r]).length := by rw [tail_drop', List.length_append, List.length_singleton]
      have hty : 1 ≤ cTy (cols.getD pre.length []) ∧ cTy (cols.getD pre.length []) ≤ 4 := by
        have hm : cols.getD pre.length [] ∈ cols := by rw [List.getD_eq_getElem?_getD, List.getElem?_eq_getElem hi]; exact List.getElem_mem hi
        have := List.all_eq_true.1 hall _ hm
        simpa [tyOk] using this
      have hg : (pre ++ r :: t).getD pre.length [] = r := by simp [List.getD_eq_getElem?_getD]
      simp only [lp0, lp1, ix1 hi, Bool.and_self, cond_true, Int.toNat_natCast, e0, hg, lpw hs, s39 _ _ _ _ _ _ _ _ _ _ _ _ _ _ hty.1 hty.2, bindR0, rsb, ih, statsL, e1, e2, vAt_eq]
      show cond (!(stA r n1 (cTy (cols.getD pre.length [])))) _ _ = _
      generalize stA r n1 (cTy (cols.getD pre.length [])) = b1
      cases b1 <;> rfl)

/-! ### Paths: the reference's step -/
section ref
variable (n0 : Int) (l2 : List (List Dat)) (n3 n4 n5 : Int) (l6 l7 : List (List Dat)) (n8 : Int) (l9 : List (List Dat)) (n10 n11 n12 n13 : Int) (s14 : List UInt8) (l15 l16 : List (List Dat)) (n17 n18 : Int) (s19 : List UInt8) (l20 l21 : List (List Dat))

/-- Does a path come after the one before? -/
noncomputable def afterB (q : List Dat) (c : Int) (p : List (List Dat)) : Bool := decide (phC q < c) || (decide (phC q = c) && decide (pcmp (phP q) p < 0))

end ref
end Go.Ab
end

section
set_option linter.unusedSimpArgs false
/-! The examples of the chapter hold. -/
set_option autoImplicit false
set_option linter.unusedVariables false
set_option maxRecDepth 100000
namespace Go.Ab
theorem s12 : SS (.call 12 [] []) = some (.ret false [4] [.bool true] []) := sem_of (B := tb) (n := 400) (by kernel_rfl)
end Go.Ab
end

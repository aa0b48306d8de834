/- Part 16 of the proof that this seat's laws lean on: an abstract machine over the model's code, its soundness, and what it says of this program. -/
import Derived.Test.YticeaojhadjaaaaGreatDoorAbO

section
set_option linter.unusedSimpArgs false
/-! Orders agree; what fits a type. -/
set_option autoImplicit false
set_option linter.unusedVariables false
namespace Go.Ab

theorem icmp_self (n : Int) : icmp n n = 0 := by simp [icmp]
theorem bcmp_self (s : List UInt8) : bcmp s s = 0 := by rw [← bcmp_less]; simp

theorem own_facts {k n : Int} {t : List UInt8} {items : List V} {keys : List (List UInt8)} (h : ownF k n t items keys = true) :
    (k = 4 ∨ k = 5 ∨ items = []) ∧ (k = 1 ∨ k = 2 ∨ n = 0) ∧ (k = 3 ∨ t = []) ∧ (k = 5 → keys.length = items.length) ∧ (k = 5 ∨ keys = []) := by
  unfold ownF at h
  (repeat' split at h) <;> simp_all

theorem orI_l (a : Int) : orI [a, 0, 0] = a := by
  by_cases h : a = 0
  · subst h; rfl
  · simp [orI, h]
theorem orI_m (a : Int) : orI [0, a, 0] = a := by
  by_cases h : a = 0
  · subst h; rfl
  · simp [orI, h]
theorem orI_r (a : Int) : orI [0, 0, a] = a := by
  by_cases h : a = 0
  · subst h; rfl
  · simp [orI, h]

mutual
theorem ordPR : ∀ (v w : V) (lv lw : Nat), okL v lv = true → okL w lw = true → ordP v w = ordR v w
  | .mk k n t l ks, .mk k' n' t' l' ks', lv, lw, h, h' => by
    cases lv with
    | zero => simp [okL] at h
    | succ lv => cases lw with
      | zero => simp [okL] at h'
      | succ lw =>
        simp only [okL, Bool.and_eq_true] at h h'
        have hl := ordPRs (decide (k = 5)) l l' ks ks' lv lw h.2 h'.2
        obtain ⟨a1, a2, a3, _, _⟩ := own_facts h.1
        obtain ⟨b1, b2, b3, _, _⟩ := own_facts h'.1
        by_cases hk : k = k'
        · subst hk
          have eP : ordP (.mk k n t l ks) (.mk k n' t' l' ks') = (match ordPs (decide (k = 5)) l l' ks ks' with
            | some d => d
            | none => orI [icmp n n', bcmp t t', icmp l.length l'.length]) := by
            unfold ordP
            exact if_pos rfl
          have eR : ordR (.mk k n t l ks) (.mk k n' t' l' ks') = if k = 1 ∨ k = 2 then icmp n n' else if k = 3 then bcmp t t' else (match ordRs (decide (k = 5)) l l' ks ks' with
            | some d => d
            | none => icmp l.length l'.length) := by
            unfold ordR
            exact if_pos rfl
          rw [eP, eR, hl]
          by_cases k12 : k = 1 ∨ k = 2
          · have e1 : l = [] := by rcases a1 with h | h | h <;> first | exact h | (exfalso; omega)
            have e2 : l' = [] := by rcases b1 with h | h | h <;> first | exact h | (exfalso; omega)
            have e3 : t = [] := by rcases a3 with h | h <;> first | exact h | (exfalso; omega)
            have e4 : t' = [] := by rcases b3 with h | h <;> first | exact h | (exfalso; omega)
            subst e1; subst e2; subst e3; subst e4
            rw [if_pos k12]
            simp only [ordRs, bcmp_self, icmp_self]
            exact orI_l _
          · have e5 : n = 0 := by rcases a2 with h | h | h <;> first | exact h | (exfalso; omega)
            have e6 : n' = 0 := by rcases b2 with h | h | h <;> first | exact h | (exfalso; omega)
            subst e5; subst e6
            rw [if_neg k12]
            by_cases k3 : k = 3
            · have e1 : l = [] := by rcases a1 with h | h | h <;> first | exact h | (exfalso; omega)
              have e2 : l' = [] := by rcases b1 with h | h | h <;> first | exact h | (exfalso; omega)
              subst e1; subst e2
              rw [if_pos k3]
              simp only [ordRs, icmp_self]
              exact orI_m _
            · have e3 : t = [] := by rcases a3 with h | h <;> first | exact h | (exfalso; omega)
              have e4 : t' = [] := by rcases b3 with h | h <;> first | exact h | (exfalso; omega)
              subst e3; subst e4
              rw [if_neg k3]
              cases ordRs (decide (k = 5)) l l' ks ks' with
              | some d => rfl
              | none => simp only [bcmp_self, icmp_self]; exact orI_r _
        · have eP : ordP (.mk k n t l ks) (.mk k' n' t' l' ks') = icmp k k' := by
            unfold ordP
            exact if_neg hk
          have eR : ordR (.mk k n t l ks) (.mk k' n' t' l' ks') = icmp k k' := by
            unfold ordR
            exact if_neg hk
          rw [eP, eR]
theorem ordPRs : ∀ (obj : Bool) (l ys : List V) (ks ks' : List (List UInt8)) (lv lw : Nat), okLs l lv = true → okLs ys lw = true → ordPs obj l ys ks ks' = ordRs obj l ys ks ks'
  | obj, [], ys, ks, ks', lv, lw, h, h' => by simp [ordPs, ordRs]
  | obj, x :: l, [], ks, ks', lv, lw, h, h' => by simp [ordPs, ordRs]
  | obj, x :: l, y :: ys, ks, ks', lv, lw, h, h' => by
    simp only [okLs, Bool.and_eq_true] at h h'
    simp only [ordPs, ordRs, ordPR x y lv lw h.1 h'.1, ordPRs obj l ys ks.tail ks'.tail lv lw h.2 h'.2]
end

mutual
theorem okL_sh : ∀ (v : V) (lv : Nat), okL v lv = true → shV v
  | .mk k n t l ks, lv, h => by
    cases lv with
    | zero => simp [okL] at h
    | succ lv =>
      simp only [okL, Bool.and_eq_true] at h
      obtain ⟨_, _, _, a4, _⟩ := own_facts h.1
      exact ⟨a4, okLs_sh l lv h.2⟩
theorem okLs_sh : ∀ (l : List V) (lv : Nat), okLs l lv = true → shVs l
  | [], _, _ => trivial
  | v :: l, lv, h => by
    simp only [okLs, Bool.and_eq_true] at h
    exact ⟨okL_sh v lv h.1, okLs_sh l lv h.2⟩
end

theorem okV_cnt {v : V} (h : okV v = true) : cnt v < 4611686018427387904 := by
  simp only [okV, Bool.and_eq_true, decide_eq_true_eq] at h
  omega
theorem okV_sh {v : V} (h : okV v = true) : shV v := by
  simp only [okV, Bool.and_eq_true] at h
  exact okL_sh v 6 h.1
theorem okV_ord {v w : V} (h : okV v = true) (h' : okV w = true) : ordP v w = ordR v w := by
  simp only [okV, Bool.and_eq_true] at h h'
  exact ordPR v w 6 6 h.1 h'.1

/-- Does a value fit a type? -/
def fitsV (v : V) (t : Int) : Bool := decide (1 ≤ t) && (decide (t ≤ 4) && (okV v && ((t == 4) || ((v.k == 0) || (v.k == t)))))

theorem s69 (k n : Int) (t : List UInt8) (l3 l4 : List (List Dat)) (ty : Int) (hs : smV (.mk k n t (dvRs l3) (dKs l4))) :
    SS (.call 69 [.agg [.d (.int .i64 k), .d (.int .i64 n), .d (.str t), .d (.lst 32 l3), .d (.lst 9 l4)], .d (.int .i64 ty)] []) = some (.ret false [4] [.bool (fitsV (.mk k n t (dvRs l3) (dKs l4)) ty)] []) := c69 _ _ _ _ _ _ (by
  simp only [s129 k n t l3 l4 hs, bindR0, rsb]
  generalize hv : okV (.mk k n t (dvRs l3) (dKs l4)) = ok
  simp only [fitsV, hv, V.k]
  by_cases h1 : ty < 1
  · have : ¬ (1 ≤ ty) := by omega
    simp [h1, this]
  · by_cases h2 : ty > 4
    · have : ¬ (ty ≤ 4) := by omega
      simp [h1, h2, this]
    · have q1 : 1 ≤ ty := by omega
      have q2 : ty ≤ 4 := by omega
      cases ok with
      | false => simp [h1, h2]
      | true =>
        by_cases h4 : ty = 4
        · simp [h4]
        · by_cases h0 : k = 0
          · simp [h1, h2, h0, q1, q2]
          · have z4 : (ty == 4) = false := by simpa using h4
            have z0 : (k == 0) = false := by simpa using h0
            simp [h1, h2, h0, h4, q1, q2, z4, z0])

theorem s82 (k n : Int) (t : List UInt8) (l3 l4 : List (List Dat)) (ty : Int) :
    SS (.call 82 [.agg [.d (.int .i64 k), .d (.int .i64 n), .d (.str t), .d (.lst 32 l3), .d (.lst 9 l4)], .d (.int .i64 ty)] []) = some (.ret false [4] [.bool (fitsV (.mk k n t (dvRs l3) (dKs l4)) ty)] []) := c82 _ _ _ _ _ _ (by
  simp only [s115 k n t l3 l4, bindR0, rsb]
  generalize hv : okV (.mk k n t (dvRs l3) (dKs l4)) = ok
  simp only [fitsV, hv, V.k]
  by_cases h1 : ty < 1
  · have : ¬ (1 ≤ ty) := by omega
    simp [h1, this]
  · by_cases h2 : ty > 4
    · have : ¬ (ty ≤ 4) := by omega
      simp [h1, h2, this]
    · have q1 : 1 ≤ ty := by omega
      have q2 : ty ≤ 4 := by omega
      cases ok with
      | false => simp [h1, h2]
      | true =>
        by_cases h0 : k = 0
        · simp [h1, h2, h0, q1, q2]
        · have z0 : (k == 0) = false := by simpa using h0
          have : ty = 1 ∨ ty = 2 ∨ ty = 3 ∨ ty = 4 := by omega
          rcases this with rfl | rfl | rfl | rfl
          · by_cases hk : k = 1
            · subst hk; rfl
            · have zk : (k == 1) = false := by simpa using hk
              simp [h0, hk, z0, zk]
          · by_cases hk : k = 2
            · subst hk; rfl
            · have zk : (k == 2) = false := by simpa using hk
              simp [h0, hk, z0, zk]
          · by_cases hk : k = 3
            · subst hk; rfl
            · have zk : (k == 3) = false := by simpa using hk
              simp [h0, hk, z0, zk]
          · simp [z0])

/-! ### Null -/
theorem rs5 {x0 x1 x2 x3 x4 d : Dat} : ([x0, x1, x2, x3, x4] : List Dat).getD 0 d = x0 ∧ ([x0, x1, x2, x3, x4] : List Dat).getD 1 d = x1 ∧ ([x0, x1, x2, x3, x4] : List Dat).getD 2 d = x2 ∧ ([x0, x1, x2, x3, x4] : List Dat).getD 3 d = x3 ∧ ([x0, x1, x2, x3, x4] : List Dat).getD 4 d = x4 := ⟨rfl, rfl, rfl, rfl, rfl⟩
theorem dat_i (k : IntKind) (n : Int) : (Dat.int k n).i = n := rfl
theorem dat_s (s : List UInt8) : (Dat.str s).s = s := rfl
theorem dat_l (e : TypeId) (l : List (List Dat)) : (Dat.lst e l).l = l := rfl

theorem s81 : SS (.call 81 [] []) = some (.ret false [32] [.int .i64 0, .int .i64 0, .str [], .lst 32 [], .lst 9 []] []) := c81 rfl

/-- Is a value null as Go's zero value is? -/
def isNull (n0 n1 : Int) (s2 : List UInt8) (l3 l4 : List (List Dat)) : Bool := decide (n0 = 0) && (decide (n1 = 0) && (s2.isEmpty && (l4.isEmpty && l3.isEmpty)))

theorem s136n (l3 : List (List Dat)) : SS (.call 136 [.d (.lst 32 l3), .d (.lst 32 [])] []) = some (.ret false [4] [.bool l3.isEmpty] []) := c136 _ _ (by
  cases l3 with
  | nil => exact p136_58 _ _ _ rfl
  | cons x l =>
    have : (((x :: l).length : Int) != (([] : List (List Dat)).length : Int)) = true := by simp; omega
    simp only [this, cond_true]
    rfl)

theorem s80n (n0 n1 : Int) (s2 : List UInt8) (l3 l4 : List (List Dat)) :
    SS (.call 80 [.agg [.d (.int .i64 n0), .d (.int .i64 n1), .d (.str s2), .d (.lst 32 l3), .d (.lst 9 l4)], .agg [.d (.int .i64 0), .d (.int .i64 0), .d (.str []), .d (.lst 32 []), .d (.lst 9 [])]] []) = some (.ret false [4] [.bool (isNull n0 n1 s2 l3 l4)] []) := c80 _ _ _ _ _ _ _ _ _ _ (by
  unfold isNull
  by_cases h0 : n0 = 0
  · subst h0
    by_cases h1 : n1 = 0
    · subst h1
      cases s2 with
      | cons c s => rfl
      | nil => cases l4 with
        | cons x l =>
          have : (((x :: l).length : Int) != (([] : List (List Dat)).length : Int)) = true := by simp; omega
          simp only [this, cond_true]
          rfl
        | nil =>
          have hp := p80_58 0 0 0 [] l3 [] 0 0 [] [] [] (r := .ret false [4] [.bool l3.isEmpty] []) (by
            simp only [s136n, bindR0, rsb]
            rfl)
          refine Eq.trans ?_ hp
          rfl
    · have z1 : (n1 != 0) = true := by simpa using h1
      have z0 : ((0 : Int) != 0) = false := rfl
      simp [z1, h1]
  · have z0 : (n0 != 0) = true := by simpa using h0
    simp [z0, h0])

theorem isNull_V {n0 n1 : Int} {s2 : List UInt8} {l3 l4 : List (List Dat)} {ty : Int} (h1 : 1 ≤ ty) (h4 : ty ≤ 4) :
    isNull n0 n1 s2 l3 l4 = (fitsV (.mk n0 n1 s2 (dvRs l3) (dKs l4)) ty && (n0 == 0)) := by
  rw [Bool.eq_iff_iff]
  simp only [isNull, fitsV, Bool.and_eq_true, Bool.or_eq_true, decide_eq_true_eq, beq_iff_eq, V.k]
  constructor
  · rintro ⟨rfl, rfl, e2, e4, e3⟩
    rw [List.isEmpty_iff] at e2 e3 e4
    subst e2; subst e3; subst e4
    refine ⟨⟨h1, h4, ?_, Or.inr (Or.inl rfl)⟩, rfl⟩
    simp [okV, okL, okLs, ownOk, ownF, cnt, cnts, dvRs, dKs]
  · rintro ⟨⟨_, _, hv, _⟩, rfl⟩
    simp only [okV, okL, Bool.and_eq_true] at hv
    obtain ⟨a1, a2, a3, _, a5⟩ := own_facts hv.1.1
    have e1 : dvRs l3 = [] := by rcases a1 with h | h | h <;> first | exact h | (exfalso; omega)
    have e2 : n1 = 0 := by rcases a2 with h | h | h <;> first | exact h | (exfalso; omega)
    have e3 : s2 = [] := by rcases a3 with h | h <;> first | exact h | (exfalso; omega)
    have e5 : dKs l4 = [] := by rcases a5 with h | h <;> first | exact h | (exfalso; omega)
    refine ⟨rfl, e2, ?_, ?_, ?_⟩
    · rw [e3]; rfl
    · rw [List.isEmpty_iff]; exact List.map_eq_nil_iff.1 e5
    · rw [List.isEmpty_iff]; rw [dvRs_map] at e1; exact List.map_eq_nil_iff.1 e1

/-- Is what is known of values right? -/
noncomputable def statV (n0 n1 : Int) (mi ma : V) (rows ty : Int) : Bool :=
  decide (n0 = rows) && (decide (0 ≤ n1) && (decide (n1 ≤ rows) && (fitsV mi ty && (fitsV ma ty && (if n1 = rows then (mi.k == 0) && (ma.k == 0) else (mi.k != 0) && ((ma.k != 0) && decide (ordP mi ma ≤ 0)))))))

theorem fits_ok {v : V} {ty : Int} (h : fitsV v ty = true) : okV v = true := by
  simp only [fitsV, Bool.and_eq_true] at h
  exact h.2.2.1

theorem s35 (n0 n1 n2 n3 : Int) (s4 : List UInt8) (l5 l6 : List (List Dat)) (n7 n8 : Int) (s9 : List UInt8) (l10 l11 : List (List Dat)) (rows ty : Int)
    (h1 : smV (.mk n2 n3 s4 (dvRs l5) (dKs l6))) (h2 : smV (.mk n7 n8 s9 (dvRs l10) (dKs l11))) :
    SS (.call 35 [.agg [.d (.int .i64 n0), .d (.int .i64 n1), .d (.int .i64 n2), .d (.int .i64 n3), .d (.str s4), .d (.lst 32 l5), .d (.lst 9 l6), .d (.int .i64 n7), .d (.int .i64 n8), .d (.str s9), .d (.lst 32 l10), .d (.lst 9 l11)], .d (.int .i64 rows), .d (.int .i64 ty)] []) =
      some (.ret false [4] [.bool (statV n0 n1 (.mk n2 n3 s4 (dvRs l5) (dKs l6)) (.mk n7 n8 s9 (dvRs l10) (dKs l11)) rows ty)] []) := c35 _ _ _ _ _ _ _ _ _ _ _ _ _ _ (by
  simp only [s69 _ _ _ _ _ _ h1, s69 _ _ _ _ _ _ h2, bindR0, rsb]
  by_cases q0 : n0 = rows
  · have z0 : (n0 != rows) = false := by simpa using q0
    by_cases q1 : n1 < 0
    · have : ¬ (0 ≤ n1) := by omega
      simp [statV, z0, q1, this]
    · by_cases q2 : n1 > rows
      · have : ¬ (n1 ≤ rows) := by omega
        simp [statV, z0, q1, q2, this]
      · have q1' : 0 ≤ n1 := by omega
        have q2' : n1 ≤ rows := by omega
        by_cases f1 : fitsV (.mk n2 n3 s4 (dvRs l5) (dKs l6)) ty = true
        · by_cases f2 : fitsV (.mk n7 n8 s9 (dvRs l10) (dKs l11)) ty = true
          · have hord := s70 n2 n3 s4 l5 l6 n7 n8 s9 l10 l11 (okV_cnt (fits_ok f1)) (okV_sh (fits_ok f1)) (okV_sh (fits_ok f2))
            simp only [hord, bindR0, rsi]
            simp only [statV, f1, f2, q0, q1, q2, q1', q2', z0, V.k, decide_true, decide_false, Bool.true_and, cond_true, cond_false, Bool.not_true, bne_self_eq_false]
            generalize ordP (.mk n2 n3 s4 (dvRs l5) (dKs l6)) (.mk n7 n8 s9 (dvRs l10) (dKs l11)) = d
            by_cases q3 : n1 = rows
            · have z3 : (n1 == rows) = true := by simpa using q3
              by_cases q4 : n2 = 0
              · by_cases q5 : n7 = 0
                · simp [q3, q4, q5]
                · have : (n7 == 0) = false := by simpa using q5
                  simp [q3, q4, q5, this]
              · have : (n2 == 0) = false := by simpa using q4
                simp [q3, q4, this]
            · have z3 : (n1 == rows) = false := by simpa using q3
              by_cases q4 : n2 = 0
              · simp [q3, q4, z3]
              · have y4 : (n2 != 0) = true := by simpa using q4
                by_cases q5 : n7 = 0
                · simp [q3, q4, q5, z3, y4]
                · have y5 : (n7 != 0) = true := by simpa using q5
                  simp [q3, q4, q5, z3, y4, y5]
                  exact decide_eq_decide.2 Iff.rfl
          · have f2' : fitsV (.mk n7 n8 s9 (dvRs l10) (dKs l11)) ty = false := by simpa using f2
            simp only [statV, f1, f2', q0, q1, q2, q1', q2', z0, decide_true, decide_false, Bool.true_and, Bool.false_and, cond_true, cond_false, Bool.not_true, Bool.not_false, bne_self_eq_false]
        · have f1' : fitsV (.mk n2 n3 s4 (dvRs l5) (dKs l6)) ty = false := by simpa using f1
          simp only [statV, f1', q0, q1, q2, q1', q2', z0, decide_true, decide_false, Bool.true_and, Bool.false_and, cond_true, cond_false, Bool.not_true, Bool.not_false, bne_self_eq_false]
  · have z0 : (n0 != rows) = true := by simpa using q0
    simp [statV, z0, q0])

theorem s39 (n0 n1 n2 n3 : Int) (s4 : List UInt8) (l5 l6 : List (List Dat)) (n7 n8 : Int) (s9 : List UInt8) (l10 l11 : List (List Dat)) (rows ty : Int) (ht1 : 1 ≤ ty) (ht4 : ty ≤ 4) :
    SS (.call 39 [.agg [.d (.int .i64 n0), .d (.int .i64 n1), .d (.int .i64 n2), .d (.int .i64 n3), .d (.str s4), .d (.lst 32 l5), .d (.lst 9 l6), .d (.int .i64 n7), .d (.int .i64 n8), .d (.str s9), .d (.lst 32 l10), .d (.lst 9 l11)], .d (.int .i64 rows), .d (.int .i64 ty)] []) =
      some (.ret false [4] [.bool (statV n0 n1 (.mk n2 n3 s4 (dvRs l5) (dKs l6)) (.mk n7 n8 s9 (dvRs l10) (dKs l11)) rows ty)] []) := c39 _ _ _ _ _ _ _ _ _ _ _ _ _ _ (by
  simp only [s81, bindR0, rs5, dat_i, dat_s, dat_l, s80n, s82, rsb]
  by_cases q0 : n0 = rows
  · have z0 : (n0 != rows) = false := by simpa using q0
    by_cases q1 : n1 < 0
    · have : ¬ (0 ≤ n1) := by omega
      simp [statV, z0, q1, this]
    · by_cases q2 : n1 > rows
      · have : ¬ (n1 ≤ rows) := by omega
        simp [statV, z0, q1, q2, this]
      · have q1' : 0 ≤ n1 := by omega
        have q2' : n1 ≤ rows := by omega
        simp only [statV, isNull_V ht1 ht4, q0, q1, q2, q1', q2', z0, V.k, decide_true, decide_false, Bool.true_and, cond_true, cond_false, bne_self_eq_false]
        by_cases q3 : n1 = rows
        · have z3 : (n1 == rows) = true := by simpa using q3
          simp only [z3, cond_true, if_pos q3]
          generalize fitsV (.mk n2 n3 s4 (dvRs l5) (dKs l6)) ty = b1
          generalize fitsV (.mk n7 n8 s9 (dvRs l10) (dKs l11)) ty = b2
          generalize (n2 == 0) = b3
          generalize (n7 == 0) = b4
          cases b1 <;> cases b2 <;> cases b3 <;> cases b4 <;> rfl
        · have z3 : (n1 == rows) = false := by simpa using q3
          simp only [z3, cond_false, if_neg q3]
          by_cases f1 : fitsV (.mk n2 n3 s4 (dvRs l5) (dKs l6)) ty = true
          · by_cases f2 : fitsV (.mk n7 n8 s9 (dvRs l10) (dKs l11)) ty = true
            · have hord := s30 n2 n3 s4 l5 l6 n7 n8 s9 l10 l11 (okV_cnt (fits_ok f1)) (okV_sh (fits_ok f1)) (okV_sh (fits_ok f2))
              rw [← okV_ord (fits_ok f1) (fits_ok f2)] at hord
              simp only [hord, bindR0, rsi, f1, f2, cond_true, Bool.true_and]
              generalize ordP (.mk n2 n3 s4 (dvRs l5) (dKs l6)) (.mk n7 n8 s9 (dvRs l10) (dKs l11)) = d
              by_cases q4 : n2 = 0
              · simp [q4]
              · have y4 : (n2 != 0) = true := by simpa using q4
                by_cases q5 : n7 = 0
                · simp [q4, q5]
                · have y5 : (n7 != 0) = true := by simpa using q5
                  simp [q4, q5, y4, y5]
                  exact decide_eq_decide.2 Iff.rfl
            · have f2' : fitsV (.mk n7 n8 s9 (dvRs l10) (dKs l11)) ty = false := by simpa using f2
              simp only [f1, f2', cond_true, cond_false, Bool.true_and, Bool.false_and]
          · have f1' : fitsV (.mk n2 n3 s4 (dvRs l5) (dKs l6)) ty = false := by simpa using f1
            simp only [f1', cond_false, Bool.false_and]
  · have z0 : (n0 != rows) = true := by simpa using q0
    simp [statV, z0, q0])
end Go.Ab
end

section
set_option linter.unusedSimpArgs false
/-! Words and columns. -/
set_option autoImplicit false
set_option linter.unusedVariables false
namespace Go.Ab

def lc (c : UInt8) : Bool := decide (97 ≤ c.toNat) && decide (c.toNat ≤ 122)
def dc (c : UInt8) : Bool := (decide (48 ≤ c.toNat) && decide (c.toNat ≤ 57)) || decide (c.toNat = 95)
def wc (c : UInt8) : Bool := lc c || dc c
/-- Is it a word? -/
def wordW : List UInt8 → Bool
  | [] => false
  | c :: t => lc c && (t.all wc && decide ((c :: t).length ≤ 24))

theorem tl2 (c : UInt8) : decide ((c.toNat : Int) ≥ 97) = decide (97 ≤ c.toNat) ∧ decide ((c.toNat : Int) ≤ 122) = decide (c.toNat ≤ 122) ∧ decide ((c.toNat : Int) ≥ 48) = decide (48 ≤ c.toNat) ∧ decide ((c.toNat : Int) ≤ 57) = decide (c.toNat ≤ 57) ∧ ((c.toNat : Int) == 95) = decide (c.toNat = 95) := by
  refine ⟨?_, ?_, ?_, ?_, ?_⟩
  · rw [decide_eq_decide]; omega
  · rw [decide_eq_decide]; omega
  · rw [decide_eq_decide]; omega
  · rw [decide_eq_decide]; omega
  · rw [Bool.eq_iff_iff]; simp <;> omega

theorem l68 : ∀ (t pre : List UInt8), (pre ++ t).length < 4611686018427387904 → 0 < pre.length →
    SS (.pt 68 [] 26 { tmps := [(0, .d (.str (pre ++ t))), (6, .d (.int .i64 ((pre ++ t).length : Int))), (7, .d (.int .i64 (pre.length : Int)))], boxes := [] }) = some (.ret false [4] [.bool (t.all wc && decide ((pre ++ t).length ≤ 24))] [])
  | [], pre, hs, hp => p68_26 _ _ _ (by
      have h1 : ((pre ++ []) == ([] : List UInt8)) = false := by cases pre with
        | nil => simp at hp
        | cons c l => rfl
      have h2 : decide (((pre ++ ([] : List UInt8)).length : Int) ≤ 24) = decide ((pre ++ ([] : List UInt8)).length ≤ 24) := by rw [decide_eq_decide]; omega
      simp only [lp1e, cond_false, h1, h2, List.all_nil, Bool.true_and]
      rfl)
  | c :: t, pre, hs, hp => p68_26 _ _ _ (by
      have ih := l68 t (pre ++ [c]) (by simpa using hs) (by simp)
      rw [List.append_assoc, List.singleton_append] at ih
      have hp' : decide ((pre.length : Int) > 0) = true := by simp <;> omega
      simp only [lp0, lp1, lpg, lpw hs, Bool.and_self, cond_true, ih, tl2, hp', List.all_cons]
      simp only [wc, lc, dc]
      generalize decide (97 ≤ c.toNat) = b1
      generalize decide (c.toNat ≤ 122) = b2
      generalize decide (48 ≤ c.toNat) = b3
      generalize decide (c.toNat ≤ 57) = b4
      generalize decide (c.toNat = 95) = b5
      cases b1 <;> cases b2 <;> cases b3 <;> cases b4 <;> cases b5 <;> rfl)

theorem s68 (s : List UInt8) (hs : s.length < 4611686018427387904) : SS (.call 68 [.d (.str s)] []) = some (.ret false [4] [.bool (wordW s)] []) := c68 s (by
  cases s with
  | nil => exact p68_26 _ _ _ rfl
  | cons c t =>
    have ih := l68 t [c] (by simpa using hs) (by simp)
    refine p68_26 (c :: t) ((c :: t).length : Int) 0 ?_
    have z0 : decide ((0 : Int) < ((c :: t).length : Int)) = true := by simp <;> omega
    have z1 : decide ((0 : Int) ≤ 0) = true := rfl
    have z2 : ((c :: t).getD (0 : Int).toNat 0) = c := rfl
    have z3 : decide ((0 : Int) > 0) = false := rfl
    have z4 : Go.IntKind.i64.wrap (0 + 1) = (([c] : List UInt8).length : Int) := rfl
    have z5 : (c :: t : List UInt8) = [c] ++ t := rfl
    simp only [z0, z1, z2, z3, z4, Bool.and_self, cond_true, cond_false, tl2, wordW, lc]
    rw [z5, ih]
    generalize decide (97 ≤ c.toNat) = b1
    generalize decide (c.toNat ≤ 122) = b2
    cases b1 <;> cases b2 <;> rfl)

theorem tl3 (c : UInt8) : decide ((c.toNat : Int) < 97) = !decide (97 ≤ c.toNat) ∧ decide ((c.toNat : Int) > 122) = !decide (c.toNat ≤ 122) ∧ decide ((c.toNat : Int) < 48) = !decide (48 ≤ c.toNat) ∧ decide ((c.toNat : Int) > 57) = !decide (c.toNat ≤ 57) ∧ ((c.toNat : Int) != 95) = !decide (c.toNat = 95) := by
  refine ⟨?_, ?_, ?_, ?_, ?_⟩
  · rw [Bool.eq_iff_iff]; simp <;> omega
  · rw [Bool.eq_iff_iff]; simp <;> omega
  · rw [Bool.eq_iff_iff]; simp <;> omega
  · rw [Bool.eq_iff_iff]; simp <;> omega
  · rw [Bool.eq_iff_iff]; simp <;> omega

theorem l114 : ∀ (t pre : List UInt8), (pre ++ t).length < 4611686018427387904 →
    SS (.pt 114 [] 58 { tmps := [(0, .d (.str (pre ++ t))), (3, .d (.int .i64 (pre.length : Int)))], boxes := [] }) = some (.ret false [4] [.bool (t.all wc)] [])
  | [], pre, hs => p114_58 _ _ (by simp only [lp1e, cond_false]; rfl)
  | c :: t, pre, hs => p114_58 _ _ (by
      have ih := l114 t (pre ++ [c]) (by simpa using hs)
      rw [List.append_assoc, List.singleton_append] at ih
      simp only [lp0, lp1, lpg, lpw hs, Bool.and_self, cond_true, ih, tl3, List.all_cons]
      simp only [wc, lc, dc]
      generalize decide (97 ≤ c.toNat) = b1
      generalize decide (c.toNat ≤ 122) = b2
      generalize decide (48 ≤ c.toNat) = b3
      generalize decide (c.toNat ≤ 57) = b4
      generalize decide (c.toNat = 95) = b5
      cases b1 <;> cases b2 <;> cases b3 <;> cases b4 <;> cases b5 <;> rfl)

theorem lc_wc {c : UInt8} (h : lc c = true) : wc c = true := by simp [wc, h]

theorem s114 (s : List UInt8) : SS (.call 114 [.d (.str s)] []) = some (.ret false [4] [.bool (wordW s)] []) := c114 s (by
  cases s with
  | nil => rfl
  | cons c t =>
    have z0 : decide ((0 : Int) < ((c :: t).length : Int)) = true := by simp <;> omega
    have z1 : decide ((0 : Int) ≤ 0) = true := rfl
    have z2 : (c :: t).getD 0 0 = c := rfl
    have z3 : decide (((c :: t).length : Int) < 1) = false := by simp <;> omega
    by_cases h : (c :: t).length ≤ 24
    · have z4 : decide (((c :: t).length : Int) > 24) = false := by rw [decide_eq_false_iff_not]; omega
      have ih := l114 (c :: t) [] (by simp at h ⊢; omega)
      have ih' : SS (.pt 114 [] 58 { tmps := [(0, .d (.str (c :: t))), (3, .d (.int .i64 0))], boxes := [] }) = some (.ret false [4] [.bool ((c :: t).all wc)] []) := ih
      simp only [z0, z1, z2, z3, z4, ih', Bool.and_self, cond_true, cond_false, tl3, wordW, List.all_cons, h, decide_true, Bool.and_true]
      by_cases hl : lc c = true
      · rw [lc_wc hl, hl]
        simp only [lc, Bool.and_eq_true] at hl
        rw [hl.1, hl.2]
        rfl
      · have hl' : lc c = false := by simpa using hl
        rw [hl']
        unfold lc at hl'
        revert hl'
        generalize decide (97 ≤ c.toNat) = b1
        generalize decide (c.toNat ≤ 122) = b2
        cases b1 <;> cases b2 <;> intro hl' <;> first | rfl | (cases hl')
    · have z4 : decide (((c :: t).length : Int) > 24) = true := by rw [decide_eq_true_eq]; omega
      simp only [z3, z4, cond_true, cond_false, wordW, h, decide_false, Bool.and_false])

/-- Is a list of words, none of it told before? -/
def wordsL : List (List UInt8) → List (List UInt8) → Bool
  | _, [] => true
  | pre, s :: t => wordW s && (!(pre.contains s) && wordsL (pre ++ [s]) t)

theorem l135 (s : List UInt8) : ∀ (t pre : List (List Dat)), (pre ++ t).length < 4611686018427387904 →
    SS (.pt 135 [] 26 { tmps := [(0, .d (.lst 9 (pre ++ t))), (1, .d (.str s)), (5, .d (.int .i64 (pre.length : Int)))], boxes := [] }) = some (.ret false [4] [.bool ((dKs t).contains s)] [])
  | [], pre, hs => p135_26 _ _ _ (by simp only [lp1e, cond_false]; rfl)
  | r :: t, pre, hs => p135_26 _ _ _ (by
      have ih := l135 s t (pre ++ [r]) (by simpa using hs)
      rw [List.append_assoc, List.singleton_append] at ih
      have hk : (r.getD 0 .nilP).s = dK r := rfl
      have hc : dKs (r :: t) = dK r :: dKs t := rfl
      simp only [lp0, lp1, lpg, lpw hs, Bool.and_self, cond_true, ih, hk, hc, List.contains_cons]
      by_cases h : dK r = s
      · have h1 : (dK r == s) = true := by simpa using h
        have h2 : (s == dK r) = true := by simpa using h.symm
        simp only [h1, h2, cond_true, Bool.true_or]
      · have h1 : (dK r == s) = false := by simpa using h
        have h2 : (s == dK r) = false := by simpa using fun e => h e.symm
        simp only [h1, h2, cond_false, Bool.false_or])

theorem s135 (l : List (List Dat)) (s : List UInt8) (hl : l.length < 4611686018427387904) : SS (.call 135 [.d (.lst 9 l), .d (.str s)] []) = some (.ret false [4] [.bool ((dKs l).contains s)] []) := c135 l s (l135 s l [] hl)

theorem l79 : ∀ (t pre : List (List Dat)), (pre ++ t).length < 4611686018427387904 →
    SS (.pt 79 [] 26 { tmps := [(0, .d (.lst 9 (pre ++ t))), (3, .d (.int .i64 (pre.length : Int)))], boxes := [] }) = some (.ret false [4] [.bool (wordsL (dKs pre) (dKs t))] [])
  | [], pre, hs => p79_26 _ _ (by simp only [lp1e, cond_false]; rfl)
  | r :: t, pre, hs => p79_26 _ _ (by
      have ih := l79 t (pre ++ [r]) (by simpa using hs)
      rw [List.append_assoc, List.singleton_append] at ih
      have hk : (r.getD 0 .nilP).s = dK r := rfl
      have hc : dKs (r :: t) = dK r :: dKs t := rfl
      have hp : dKs (pre ++ [r]) = dKs pre ++ [dK r] := by simp [dKs]
      have ht : List.drop 0 (List.take (pre.length : Int).toNat (pre ++ r :: t)) = pre := by simp
      have hle : decide ((pre.length : Int) ≤ ((pre ++ r :: t).length : Int)) = true := by simp <;> omega
      have hpl : pre.length < 4611686018427387904 := by simp at hs; omega
      simp only [lp0, lp1, lpg, lpw hs, Bool.and_self, cond_true, ih, hk, hc, hp, ht, hle, s114, s135 _ _ hpl, bindR0, rsb, wordsL]
      generalize wordW (dK r) = b1
      generalize (dKs pre).contains (dK r) = b2
      cases b1 <;> cases b2 <;> rfl)

theorem s79 (l : List (List Dat)) (hl : l.length < 4611686018427387904) : SS (.call 79 [.d (.lst 9 l)] []) = some (.ret false [4] [.bool (wordsL [] (dKs l))] []) := c79 l (l79 l [] hl)

/-- A column's type. -/
noncomputable def cTy (r : List Dat) : Int := (r.getD 1 .nilP).i
noncomputable def tyOk (r : List Dat) : Bool := decide (1 ≤ cTy r) && decide (cTy r ≤ 4)
/-- Are columns right? -/
noncomputable def colsV (l : List (List Dat)) : Bool := decide (1 ≤ l.length) && (decide (l.length ≤ 8) && (l.all tyOk && wordsL [] (dKs l)))

/-- What expr.Cols's loop finds. -/
noncomputable def colsL : List (List UInt8) → List (List Dat) → Bool
  | _, [] => true
  | pre, r :: t => wordW (dK r) && (!(pre.contains (dK r)) && (tyOk r && colsL (pre ++ [dK r]) t))
theorem colsL_eq : ∀ (t : List (List Dat)) (pre : List (List UInt8)), colsL pre t = (t.all tyOk && wordsL pre (dKs t))
  | [], pre => rfl
  | r :: t, pre => by
    have hc : dKs (r :: t) = dK r :: dKs t := rfl
    simp only [colsL, hc, wordsL, List.all_cons, colsL_eq t]
    generalize wordW (dK r) = b1
    generalize pre.contains (dK r) = b2
    generalize tyOk r = b3
    generalize t.all tyOk = b4
    cases b1 <;> cases b2 <;> cases b3 <;> cases b4 <;> rfl

theorem keyEq_str (a b : List UInt8) : keyEq (.str a) (.str b) = (a == b) := rfl

theorem mapPut_val {k : Dat} {v d : List Dat} (hk : keyEq k k = true) : ∀ (rows : List (List Dat)), mapVal k d (mapPut k v rows) = v
  | [] => by simp [mapPut, mapVal, hk]
  | r :: rows => by
    unfold mapPut
    by_cases h : keyEq k (r.headD .nilP) = true
    · simp only [h, cond_true, mapVal, List.headD_cons, hk, List.tail_cons]
    · have h' : keyEq k (r.headD .nilP) = false := by simpa using h
      simp only [h', cond_false, mapVal, mapPut_val hk rows]
theorem keyEq_eq {a b : Dat} (h : keyEq a b = true) : a = b := by
  cases a <;> cases b <;> simp_all [keyEq]
theorem mapPut_ne {k k' : Dat} {v d : List Dat} (hne : k' ≠ k) (hn : keyEq k' k = false) : ∀ (rows : List (List Dat)), mapVal k' d (mapPut k v rows) = mapVal k' d rows
  | [] => by simp [mapPut, mapVal, hn]
  | r :: rows => by
    unfold mapPut
    by_cases h : keyEq k (r.headD .nilP) = true
    · have e := keyEq_eq h
      rw [h, cond_true]
      simp only [mapVal, List.headD_cons, hn, cond_false, ← e]
    · have h' : keyEq k (r.headD .nilP) = false := by simpa using h
      simp only [h', cond_false, mapVal, mapPut_ne hne hn rows]

theorem l34 (l0 : List (List Dat)) : ∀ (t pre m : List (List Dat)), (pre ++ t).length < 4611686018427387904 → (∀ r ∈ t, (dK r).length < 4611686018427387904) →
    (∀ s, (mapVal (.str s) [.bool false] m).getD 0 .nilP = .bool ((dKs pre).contains s)) →
    SS (.pt 34 [] 58 { tmps := [(0, .d (.lst 83 l0)), (3, .own 1000115 m), (7, .d (.lst 83 (pre ++ t))), (8, .d (.int .i64 ((pre ++ t).length : Int))), (9, .d (.int .i64 (pre.length : Int)))], boxes := [] }) =
      some (.ret false [4] [.bool (colsL (dKs pre) t && (decide (1 ≤ l0.length) && decide (l0.length ≤ 8)))] [])
  | [], pre, m, hs, hk, hm => p34_58 _ _ _ _ _ (by
      have h1 : decide ((l0.length : Int) > 0) = decide (1 ≤ l0.length) := by rw [decide_eq_decide]; omega
      have h2 : decide ((l0.length : Int) ≤ 8) = decide (l0.length ≤ 8) := by rw [decide_eq_decide]; omega
      simp only [lp1e, cond_false, colsL, h1, h2, Bool.true_and]
      generalize decide (1 ≤ l0.length) = b1
      generalize decide (l0.length ≤ 8) = b2
      cases b1 <;> cases b2 <;> rfl)
  | r :: t, pre, m, hs, hk, hm => p34_58 _ _ _ _ _ (by
      have hkr : (r.getD 0 .nilP).s = dK r := rfl
      have hty : (r.getD 1 .nilP).i = cTy r := rfl
      have hp : dKs (pre ++ [r]) = dKs pre ++ [dK r] := by simp [dKs]
      have ih := l34 l0 t (pre ++ [r]) (mapPut (.str (dK r)) [.bool true] m) (by simpa using hs) (fun x hx => hk x (List.mem_cons_of_mem _ hx)) (fun s => by
        rw [hp]
        by_cases h : s = dK r
        · subst h
          rw [mapPut_val (by simp [keyEq])]
          simp
        · rw [mapPut_ne (by simpa using h) (by rw [keyEq_str]; simpa using h), hm]
          have : (dKs pre ++ [dK r]).contains s = (dKs pre).contains s := by
            simp [h]
          rw [this])
      rw [List.append_assoc, List.singleton_append, hp] at ih
      simp only [lp0, lp1, lpg, lpw hs, Bool.and_self, cond_true, ih, hkr, hty, hm, s68 _ (hk r (List.mem_cons_self ..)), bindR0, rsb, colsL, tyOk]
      have e1 : decide (cTy r < 1) = !decide (1 ≤ cTy r) := by rw [Bool.eq_iff_iff]; simp <;> omega
      have e2 : decide (cTy r > 4) = !decide (cTy r ≤ 4) := by rw [Bool.eq_iff_iff]; simp <;> omega
      have e3 : ∀ b, (Dat.bool b).b = b := fun _ => rfl
      rw [e1, e2, e3]
      generalize wordW (dK r) = b1
      generalize (dKs pre).contains (dK r) = b2
      generalize decide (1 ≤ cTy r) = b3
      generalize decide (cTy r ≤ 4) = b4
      cases b1 <;> cases b2 <;> cases b3 <;> cases b4 <;> rfl)

theorem s34 (l : List (List Dat)) (hl : l.length < 4611686018427387904) (hk : ∀ r ∈ l, (dK r).length < 4611686018427387904) : SS (.call 34 [.d (.lst 83 l)] []) = some (.ret false [4] [.bool (colsV l)] []) := c34 l (by
  have h := l34 l l [] [] hl hk (fun s => rfl)
  have e : (colsL (dKs []) l && (decide (1 ≤ l.length) && decide (l.length ≤ 8))) = colsV l := by
    rw [colsL_eq]
    show (l.all tyOk && wordsL [] (dKs l) && _) = _
    unfold colsV
    generalize (l.all tyOk && wordsL [] (dKs l)) = b1
    generalize decide (1 ≤ l.length) = b2
    generalize decide (l.length ≤ 8) = b3
    cases b1 <;> cases b2 <;> cases b3 <;> rfl
  rw [e] at h
  exact h)

theorem l38 : ∀ (t pre : List (List Dat)) (m : List (List Dat)), (pre ++ t).length < 4611686018427387904 → m.length = pre.length → pre.length ≤ 9 → dKs m = dKs pre → pre.all tyOk = true →
    SS (.pt 38 [] 58 { tmps := [(0, .d (.lst 83 (pre ++ t))), (3, .own 9 m), (4, .d (.int .i64 (pre.length : Int)))], boxes := [] }) = some (.ret false [4] [.bool (colsV (pre ++ t))] [])
  | [], pre, m, hs, hm, hp, hd, hk => p38_58 _ _ _ (by
      have h1 : decide (((pre ++ ([] : List (List Dat))).length : Int) ≥ 1) = decide (1 ≤ pre.length) := by rw [List.append_nil, decide_eq_decide]; omega
      have h2 : decide (((pre ++ ([] : List (List Dat))).length : Int) ≤ 8) = decide (pre.length ≤ 8) := by rw [List.append_nil, decide_eq_decide]; omega
      simp only [lp1e, cond_false, h1, h2, s79 m (by omega), bindR0, rsb, hd]
      simp only [colsV, List.append_nil, hk, Bool.true_and]
      generalize decide (1 ≤ pre.length) = b1
      generalize decide (pre.length ≤ 8) = b2
      cases b1 <;> cases b2 <;> rfl)
  | r :: t, pre, m, hs, hm, hp, hd, hk => p38_58 _ _ _ (by
      have hkr : (r.getD 0 .nilP).s = dK r := rfl
      have hty : (r.getD 1 .nilP).i = cTy r := rfl
      have e1 : decide (cTy r < 1) = !decide (1 ≤ cTy r) := by rw [Bool.eq_iff_iff]; simp <;> omega
      have e2 : decide (cTy r > 4) = !decide (cTy r ≤ 4) := by rw [Bool.eq_iff_iff]; simp <;> omega
      by_cases h8 : pre.length ≤ 8
      · have z8 : decide ((pre.length : Int) ≤ 8) = true := by rw [decide_eq_true_eq]; omega
        have zl : (Nat.beq 9 9 && decide ((m.length + ([[Dat.str (dK r)]] : List (List Dat)).length) * 16 ≤ 140737488355328)) = true := by
          rw [Bool.and_eq_true]; refine ⟨rfl, ?_⟩; rw [decide_eq_true_eq, List.length_singleton]; omega
        simp only [lp0, lp1, lpg, lpw hs, Bool.and_self, cond_true, hkr, hty, e1, e2, z8, zl]
        by_cases ho : tyOk r = true
        · have ih := l38 t (pre ++ [r]) (m ++ [[.str (dK r)]]) (by simpa using hs) (by simp [hm]) (by simp <;> omega) (by
            have : dKs (m ++ [[.str (dK r)]]) = dKs m ++ [dK r] := by simp [dKs]; rfl
            rw [this, hd]; simp [dKs]) (by simp [hk, ho])
          rw [List.append_assoc, List.singleton_append] at ih
          simp only [ih]
          simp only [tyOk, Bool.and_eq_true] at ho
          simp only [ho.1, ho.2, Bool.not_true, cond_false]
        · have ho' : tyOk r = false := by simpa using ho
          have hall : colsV (pre ++ r :: t) = false := by simp [colsV, ho']
          rw [hall]
          unfold tyOk at ho'
          revert ho'
          generalize decide (1 ≤ cTy r) = b1
          generalize decide (cTy r ≤ 4) = b2
          cases b1 <;> cases b2 <;> intro ho' <;> first | rfl | (cases ho')
      · have z8 : decide ((pre.length : Int) ≤ 8) = false := by rw [decide_eq_false_iff_not]; omega
        have zz : decide (((pre ++ r :: t).length : Int) ≤ 8) = false := by rw [decide_eq_false_iff_not]; simp <;> omega
        have hall : colsV (pre ++ r :: t) = false := by
          have : decide ((pre ++ r :: t).length ≤ 8) = false := by rw [decide_eq_false_iff_not]; simp <;> omega
          simp only [colsV, this, Bool.false_and, Bool.and_false]
        rw [hall]
        simp only [lp1, cond_true, z8, zz, cond_false]
        generalize decide (((pre ++ r :: t).length : Int) ≥ 1) = b1
        cases b1 <;> rfl)

theorem s38 (l : List (List Dat)) (hl : l.length < 4611686018427387904) : SS (.call 38 [.d (.lst 83 l)] []) = some (.ret false [4] [.bool (colsV l)] []) := c38 l (l38 l [] [] hl rfl (by simp) rfl rfl)
end Go.Ab
end

section
set_option linter.unusedSimpArgs false
/-! Paths. -/
set_option autoImplicit false
set_option linter.unusedVariables false
namespace Go.Ab

noncomputable def stI (r : List Dat) : Int := (r.getD 0 .nilP).i
noncomputable def stK (r : List Dat) : List UInt8 := (r.getD 1 .nilP).s
/-- Is a step right? -/
def stepB (n : Int) (s : List UInt8) : Bool := if 0 ≤ n then decide (n ≤ 99) && s.isEmpty else decide (n = -1) && isText s
noncomputable def stepsV (l : List (List Dat)) : Bool := decide (l.length ≤ 6) && l.all fun r => stepB (stI r) (stK r)

theorem okV_str (s : List UInt8) : okV (.mk 3 0 s (dvRs []) (dKs [])) = isText s := by
  simp [okV, okL, okLs, ownOk, ownF, cnt, cnts, dvRs, dKs]
theorem isText_nil : isText [] = true := rfl

theorem s180 (s : List UInt8) : SS (.call 180 [.d (.str s)] []) = some (.ret false [32] [.int .i64 3, .int .i64 0, .str s, .lst 32 [], .lst 9 []] []) := c180 s rfl
theorem s129t (s : List UInt8) : SS (.call 129 [.agg [.d (.int .i64 3), .d (.int .i64 0), .d (.str s), .d (.lst 32 []), .d (.lst 9 [])]] []) = some (.ret false [4] [.bool (isText s)] []) := by
  have h := s129 3 0 s [] [] (by simp [smV, smVs, dvRs, dKs])
  rw [okV_str] at h
  exact h

theorem s131 (n : Int) (s : List UInt8) : SS (.call 131 [.agg [.d (.int .i64 n), .d (.str s)]] []) = some (.ret false [4] [.bool (stepB n s)] []) := c131 n s (by
  simp only [s180, bindR0, rs5, dat_i, dat_s, dat_l, s129t, rsb, stepB]
  by_cases h : 0 ≤ n
  · have h' : n ≥ 0 := h
    have e : (s == []) = s.isEmpty := by cases s <;> rfl
    by_cases h2 : n ≤ 99
    · simp [h, h2, e]
    · simp [h, h2]
  · have h' : ¬ (n ≥ 0) := h
    by_cases h2 : n = -1
    · subst h2; simp
    · have : (n == -1) = false := by simpa using h2
      simp [h, h2, this])

theorem s130 (n : Int) (s : List UInt8) : SS (.call 130 [.agg [.d (.int .i64 n), .d (.str s)]] []) = some (.ret false [4] [.bool (!(stepB n s))] []) := c130 n s (by simp only [s131, bindR0, rsb])
theorem s73 (n : Int) (s : List UInt8) : SS (.call 73 [.agg [.d (.int .i64 n), .d (.str s)]] []) = some (.ret false [4] [.bool (decide (0 ≤ n))] []) := c73 n s rfl

theorem l132 : ∀ (t pre : List (List Dat)), (pre ++ t).length < 4611686018427387904 →
    ∃ i : Int, SS (.pt 132 [] 26 { tmps := [(0, .d (.lst 119 (pre ++ t))), (1, .d (.fn 73 [])), (7, .d (.int .i64 ((pre ++ t).length : Int))), (8, .d (.int .i64 (pre.length : Int)))], boxes := [] }) = some (.ret false [3] [.int .i64 i] []) ∧ decide (i ≥ 0) = t.any fun r => decide (0 ≤ stI r)
  | [], pre, hs => ⟨-1, p132_26 _ _ _ (by simp only [lp1e, cond_false]), rfl⟩
  | r :: t, pre, hs => by
    obtain ⟨i, h1, h2⟩ := l132 t (pre ++ [r]) (by simpa using hs)
    rw [List.append_assoc, List.singleton_append] at h1
    have hi : (r.getD 0 .nilP).i = stI r := rfl
    by_cases h : 0 ≤ stI r
    · refine ⟨(pre.length : Int), p132_26 _ _ _ ?_, ?_⟩
      · simp only [lp0, lp1, lpg, Bool.and_self, cond_true, s73, bindR0, rsb, hi, h, decide_true]
      · simp only [List.any_cons, h, decide_true, Bool.true_or]
        rw [decide_eq_true_eq]; omega
    · refine ⟨i, p132_26 _ _ _ ?_, ?_⟩
      · simp only [lp0, lp1, lpg, lpw hs, Bool.and_self, cond_true, s73, bindR0, rsb, hi, h, decide_false, cond_false, h1]
      · simp only [List.any_cons, h, decide_false, Bool.false_or, h2]

theorem s72 (l : List (List Dat)) (hl : l.length < 4611686018427387904) : SS (.call 72 [.d (.lst 119 l), .d (.fn 73 [])] []) = some (.ret false [4] [.bool (l.any fun r => decide (0 ≤ stI r))] []) := by
  obtain ⟨i, h1, h2⟩ := l132 l [] hl
  have h3 := c132 l h1
  exact c72 l (by
    simp only [h3, bindR0, rsi]
    exact congrArg (fun b => some (Res.ret false [4] [Dat.bool b] [])) ((decide_eq_decide.2 Iff.rfl).trans h2))

theorem l132b : ∀ (t pre : List (List Dat)), (pre ++ t).length < 4611686018427387904 →
    ∃ i : Int, SS (.pt 132 [] 26 { tmps := [(0, .d (.lst 119 (pre ++ t))), (1, .d (.fn 130 [])), (7, .d (.int .i64 ((pre ++ t).length : Int))), (8, .d (.int .i64 (pre.length : Int)))], boxes := [] }) = some (.ret false [3] [.int .i64 i] []) ∧ decide (i ≥ 0) = !(t.all fun r => stepB (stI r) (stK r))
  | [], pre, hs => ⟨-1, p132_26_1 _ _ _ (by simp only [lp1e, cond_false]), rfl⟩
  | r :: t, pre, hs => by
    obtain ⟨i, h1, h2⟩ := l132b t (pre ++ [r]) (by simpa using hs)
    rw [List.append_assoc, List.singleton_append] at h1
    have hi : (r.getD 0 .nilP).i = stI r := rfl
    have hk : (r.getD 1 .nilP).s = stK r := rfl
    by_cases h : stepB (stI r) (stK r) = true
    · refine ⟨i, p132_26_1 _ _ _ ?_, ?_⟩
      · simp only [lp0, lp1, lpg, lpw hs, Bool.and_self, cond_true, s130, bindR0, rsb, hi, hk, h, Bool.not_true, cond_false, h1]
      · simp only [List.all_cons, h, Bool.true_and, h2]
    · have h' : stepB (stI r) (stK r) = false := by simpa using h
      refine ⟨(pre.length : Int), p132_26_1 _ _ _ ?_, ?_⟩
      · simp only [lp0, lp1, lpg, Bool.and_self, cond_true, s130, bindR0, rsb, hi, hk, h', Bool.not_false]
      · simp only [List.all_cons, h', Bool.false_and, Bool.not_false]
        rw [decide_eq_true_eq]; omega

theorem s71 (l : List (List Dat)) : SS (.call 71 [.d (.lst 119 l)] []) = some (.ret false [4] [.bool (stepsV l)] []) := c71 l (by
  by_cases h : l.length ≤ 6
  · obtain ⟨i, h1, h2⟩ := l132b l [] (by simp <;> omega)
    have h3 := c132_1 l h1
    have h4 := c72_1 l (r := .ret false [4] [.bool (decide (i ≥ 0))] []) (by
      simp only [h3, bindR0, rsi]
      exact congrArg (fun b => some (Res.ret false [4] [Dat.bool b] [])) (decide_eq_decide.2 Iff.rfl))
    have z : decide ((l.length : Int) ≤ 6) = true := by rw [decide_eq_true_eq]; omega
    simp only [z, cond_true, h4, bindR0, rsb, h2, Bool.not_not, stepsV, h, decide_true, Bool.true_and]
  · have z : decide ((l.length : Int) ≤ 6) = false := by rw [decide_eq_false_iff_not]; omega
    simp only [z, cond_false, stepsV, h, decide_false, Bool.false_and])

theorem l83 : ∀ (t pre : List (List Dat)), (pre ++ t).length < 4611686018427387904 →
    SS (.pt 83 [] 58 { tmps := [(0, .d (.lst 119 (pre ++ t))), (3, .d (.int .i64 (pre.length : Int)))], boxes := [] }) = some (.ret false [4] [.bool (t.all fun r => stepB (stI r) (stK r))] [])
  | [], pre, hs => p83_58 _ _ (by simp only [lp1e, cond_false]; rfl)
  | r :: t, pre, hs => p83_58 _ _ (by
      have ih := l83 t (pre ++ [r]) (by simpa using hs)
      rw [List.append_assoc, List.singleton_append] at ih
      have hi : (r.getD 0 .nilP).i = stI r := rfl
      have hk : (r.getD 1 .nilP).s = stK r := rfl
      have hn : (stK r == []) = (stK r).isEmpty := by cases stK r <;> rfl
      simp only [lp0, lp1, lpg, lpw hs, Bool.and_self, cond_true, ih, hi, hk, s137, bindR0, rsb, List.all_cons, hn]
      simp only [stepB]
      by_cases h : 0 ≤ stI r
      · have z1 : decide (stI r < -1) = false := by rw [decide_eq_false_iff_not]; omega
        have z2 : decide (stI r ≥ 0) = true := by rw [decide_eq_true_eq]; omega
        have z3 : decide (stI r > 99) = !decide (stI r ≤ 99) := by rw [Bool.eq_iff_iff]; simp
        rw [if_pos h]
        simp only [z1, z2, z3, cond_true, cond_false]
        by_cases he : (stK r).isEmpty = true
        · have := List.isEmpty_iff.1 he
          simp only [this, isText_nil]
          generalize decide (stI r ≤ 99) = b1
          cases b1 <;> rfl
        · have he' : (stK r).isEmpty = false := by simpa using he
          simp only [he']
          generalize decide (stI r ≤ 99) = b1
          cases b1 <;> rfl
      · have z2 : decide (stI r ≥ 0) = false := by rw [decide_eq_false_iff_not]; omega
        have z3 : decide (stI r > 99) = false := by rw [decide_eq_false_iff_not]; omega
        have z1 : decide (stI r < -1) = !decide (stI r = -1) := by rw [Bool.eq_iff_iff]; simp <;> omega
        rw [if_neg h]
        simp only [z1, z2, z3, cond_false]
        generalize decide (stI r = -1) = b1
        generalize isText (stK r) = b2
        cases b1 <;> cases b2 <;> rfl)

theorem s83 (l : List (List Dat)) : SS (.call 83 [.d (.lst 119 l)] []) = some (.ret false [4] [.bool (stepsV l)] []) := c83 l (by
  by_cases h : l.length ≤ 6
  · have z : decide ((l.length : Int) > 6) = false := by rw [decide_eq_false_iff_not]; omega
    have hl := l83 l [] (by simp <;> omega)
    have e : stepsV l = l.all fun r => stepB (stI r) (stK r) := by simp [stepsV, h]
    rw [e]
    simp only [z, cond_false]
    exact hl
  · have z : decide ((l.length : Int) > 6) = true := by rw [decide_eq_true_eq]; omega
    simp only [z, cond_true, stepsV, h, decide_false, Bool.false_and])

/-- Is it a path of one or two keys? -/
noncomputable def pathV (l : List (List Dat)) : Bool := stepsV l && ((decide (l.length = 1) || decide (l.length = 2)) && l.all fun r => decide (stI r < 0))

theorem s40 (l : List (List Dat)) : SS (.call 40 [.d (.lst 119 l)] []) = some (.ret false [4] [.bool (pathV l)] []) := c40 l (by
  simp only [s83, bindR0, rsb, pathV]
  cases hst : stepsV l with
  | false => rfl
  | true =>
    rcases l with _ | ⟨a, _ | ⟨b, _ | ⟨c, l⟩⟩⟩
    · rfl
    · have hi : (a.getD 0 .nilP).i = stI a := rfl
      have : (List.all [a] fun r => decide (stI r < 0)) = decide (stI a < 0) := by simp
      rw [this]
      show cond (decide (stI a < 0)) (some (Res.ret false [4] [.bool (decide (stI a < 0))] [])) _ = _
      generalize decide (stI a < 0) = b1
      cases b1 <;> rfl
    · have : (List.all [a, b] fun r => decide (stI r < 0)) = (decide (stI a < 0) && decide (stI b < 0)) := by simp
      rw [this]
      show cond (decide (stI a < 0)) (some (Res.ret false [4] [.bool (decide (stI b < 0))] [])) _ = _
      generalize decide (stI a < 0) = b1
      generalize decide (stI b < 0) = b2
      cases b1 <;> cases b2 <;> rfl
    · have z1 : (((a :: b :: c :: l).length : Int) == 1) = false := by simp <;> omega
      have z2 : (((a :: b :: c :: l).length : Int) == 2) = false := by simp <;> omega
      simp only [z1, z2, cond_true, cond_false]
      simp)

/-! ### Comparing -/
/-- How keys of paths are compared. -/
noncomputable def pcmp : List (List Dat) → List (List Dat) → Int
  | [], ys => icmp 0 ys.length
  | x :: l, ys => match ys with
    | [] => 1
    | y :: ys => if bcmp (stK x) (stK y) = 0 then pcmp l ys else bcmp (stK x) (stK y)

theorem icmp_succ (a b : Int) : icmp (a + 1) (b + 1) = icmp a b := by
  unfold icmp
  by_cases h1 : a < b
  · rw [if_pos h1, if_pos (by omega)]
  · rw [if_neg h1, if_neg (by omega)]
    by_cases h2 : b < a
    · rw [if_pos h2, if_pos (by omega)]
    · rw [if_neg h2, if_neg (by omega)]

theorem s75 (s s' : List UInt8) : SS (.call 75 [.agg [.d (.int .i64 (-1)), .d (.str s)], .agg [.d (.int .i64 (-1)), .d (.str s')]] []) = some (.ret false [3] [.int .i64 (bcmp s s')] []) := c75 _ _ _ _ (by
  have e : orI ([[Dat.int Go.IntKind.i64 (icmp (-1) (-1))], [Dat.int Go.IntKind.i64 (bcmp s s')]].map fun r => (r.getD 0 .nilP).i) = bcmp s s' := by
    show orI [icmp (-1) (-1), bcmp s s'] = _
    rw [icmp_self]
    by_cases h : bcmp s s' = 0
    · rw [h]; rfl
    · simp [orI, h]
  simp only [s76, s78, bindR0, rsi]
  rw [s77 _ (by simp), bindR0, e]
  rfl)

theorem l74 (l l' : List (List Dat)) (h : ∀ r ∈ l, stI r = -1) (h' : ∀ r ∈ l', stI r = -1) (hl : l.length < 4611686018427387904) : ∀ (m i : Nat), i + m = min l.length l'.length →
    SS (.pt 74 [] 26 { tmps := [(0, .d (.lst 119 l)), (1, .d (.lst 119 l')), (2, .d (.fn 75 [])), (13, .d (.int .i64 ((min l.length l'.length : Nat) : Int))), (14, .d (.int .i64 (i : Int)))], boxes := [] }) = some (.ret false [3] [.int .i64 (pcmp (l.drop i) (l'.drop i))] [])
  | 0, i, hi => p74_26 _ _ _ _ (by
      have e1 : decide ((i : Int) < ((min l.length l'.length : Nat) : Int)) = false := by simp <;> omega
      simp only [e1, cond_false, s76, bindR0, rsi]
      have : icmp (l.length : Int) (l'.length : Int) = pcmp (l.drop i) (l'.drop i) := by
        by_cases hh : i < l.length
        · have h2 : l'.drop i = [] := List.drop_eq_nil_of_le (by omega)
          rw [h2, dropd [] hh]
          simp only [pcmp, icmp]
          rw [if_neg (by omega), if_pos (by omega)]
        · have h2 : l.drop i = [] := List.drop_eq_nil_of_le (by omega)
          rw [h2]
          simp only [pcmp, icmp, List.length_drop]
          by_cases hc : (l.length : Int) < (l'.length : Int)
          · rw [if_pos hc, if_pos (by omega)]
          · rw [if_neg hc, if_neg (by omega), if_neg (by omega), if_neg (by omega)]
      rw [this])
  | m + 1, i, hi => p74_26 _ _ _ _ (by
      have h1 : i < l.length := by omega
      have h2 : i < l'.length := by omega
      have e1 : decide ((i : Int) < ((min l.length l'.length : Nat) : Int)) = true := by simp <;> omega
      have ih := l74 l l' h h' hl m (i + 1) (by omega)
      have m1 : l.getD i [] ∈ l := by rw [List.getD_eq_getElem?_getD, List.getElem?_eq_getElem h1]; exact List.getElem_mem h1
      have m2 : l'.getD i [] ∈ l' := by rw [List.getD_eq_getElem?_getD, List.getElem?_eq_getElem h2]; exact List.getElem_mem h2
      have f1 : ((l.getD i []).getD 0 .nilP).i = -1 := h _ m1
      have f2 : ((l'.getD i []).getD 0 .nilP).i = -1 := h' _ m2
      have g1 : ((l.getD i []).getD 1 .nilP).s = stK (l.getD i []) := rfl
      have g2 : ((l'.getD i []).getD 1 .nilP).s = stK (l'.getD i []) := rfl
      simp only [e1, ix0, ix1 h1, ix1 h2, Bool.and_self, cond_true, Int.toNat_natCast, f1, f2, g1, g2, s75, bindR0, rsi, ixw (Nat.lt_trans h1 hl), ih]
      rw [dropd [] h1, dropd [] h2]
      simp only [pcmp]
      generalize bcmp (stK (l.getD i [])) (stK (l'.getD i [])) = d
      by_cases hd : d = 0
      · subst hd; simp
      · have : (d != 0) = true := by simpa using hd
        simp [this, hd])

theorem s37 (l l' : List (List Dat)) (h : ∀ r ∈ l, stI r = -1) (h' : ∀ r ∈ l', stI r = -1) (hl : l.length < 4611686018427387904) :
    SS (.call 37 [.d (.lst 119 l), .d (.lst 119 l')] []) = some (.ret false [3] [.int .i64 (pcmp l l')] []) := by
  have h1 := l74 l l' h h' hl (min l.length l'.length) 0 (by omega)
  have hmin : (if (l'.length : Int) < (l.length : Int) then (l'.length : Int) else (l.length : Int)) = ((min l.length l'.length : Nat) : Int) := by
    split <;> omega
  have h2 := c74 l l' (r := .ret false [3] [.int .i64 (pcmp l l')] []) (by rw [hmin]; exact h1)
  exact c37 l l' (by simp only [h2, bindR0, rsi])

theorem l41 (l l' : List (List Dat)) (h : ∀ r ∈ l, stI r = -1) (h' : ∀ r ∈ l', stI r = -1) (hl : l.length < 4611686018427387904) : ∀ (m i : Nat), i + m = min l.length l'.length →
    SS (.pt 41 [] 26 { tmps := [(0, .d (.lst 119 l)), (1, .d (.lst 119 l')), (5, .d (.int .i64 (i : Int)))], boxes := [] }) = some (.ret false [3] [.int .i64 (pcmp (l.drop i) (l'.drop i))] [])
  | 0, i, hi => p41_26 _ _ _ (by
      by_cases hh : i < l.length
      · have hh' : ¬ i < l'.length := by omega
        have h2 : l'.drop i = [] := List.drop_eq_nil_of_le (by omega)
        have z1 : decide ((l.length : Int) < (l'.length : Int)) = false := by rw [decide_eq_false_iff_not]; omega
        have z2 : decide ((l.length : Int) > (l'.length : Int)) = true := by rw [decide_eq_true_eq]; omega
        rw [h2, dropd [] hh]
        simp only [ix1 hh, ix1' hh', cond_true, cond_false, z1, z2, pcmp]
      · have h2 : l.drop i = [] := List.drop_eq_nil_of_le (by omega)
        rw [h2]
        simp only [ix1' hh, cond_false, pcmp, icmp, List.length_drop]
        by_cases hc : (l.length : Int) < (l'.length : Int)
        · rw [if_pos (by omega)]
          simp [hc]
        · rw [if_neg (by omega), if_neg (by omega)]
          have z2 : ¬ ((l'.length : Int) < (l.length : Int)) := by omega
          simp [hc, z2])
  | m + 1, i, hi => p41_26 _ _ _ (by
      have h1 : i < l.length := by omega
      have h2 : i < l'.length := by omega
      have ih := l41 l l' h h' hl m (i + 1) (by omega)
      have m1 : l.getD i [] ∈ l := by rw [List.getD_eq_getElem?_getD, List.getElem?_eq_getElem h1]; exact List.getElem_mem h1
      have m2 : l'.getD i [] ∈ l' := by rw [List.getD_eq_getElem?_getD, List.getElem?_eq_getElem h2]; exact List.getElem_mem h2
      have f1 : ((l.getD i []).getD 0 .nilP).i = -1 := h _ m1
      have f2 : ((l'.getD i []).getD 0 .nilP).i = -1 := h' _ m2
      have g1 : ((l.getD i []).getD 1 .nilP).s = stK (l.getD i []) := rfl
      have g2 : ((l'.getD i []).getD 1 .nilP).s = stK (l'.getD i []) := rfl
      have q1 : ((-1 : Int) == -1) = true := rfl
      have q2 : decide ((-1 : Int) ≥ 0) = false := rfl
      have q3 : decide ((-1 : Int) < 0) = true := rfl
      simp only [ix0, ix1 h1, ix1 h2, Bool.and_self, cond_true, cond_false, Int.toNat_natCast, f1, f2, g1, g2, q1, q2, q3, Bool.and_true, Bool.true_and, ixw (Nat.lt_trans h1 hl), ih]
      rw [dropd [] h1, dropd [] h2]
      simp only [pcmp]
      have hb := bcmp_less (stK (l.getD i [])) (stK (l'.getD i []))
      rw [← hb]
      generalize stK (l.getD i []) = ka
      generalize stK (l'.getD i []) = kb
      generalize pcmp (l.drop (i + 1)) (l'.drop (i + 1)) = pc
      by_cases hq : ka = kb
      · subst hq; simp
      · have hq' : (ka == kb) = false := by simpa using hq
        simp only [hq', cond_false]
        cases Go.Op.bytesLess ka kb with
        | true => simp
        | false => simp)

theorem s41 (l l' : List (List Dat)) (h : ∀ r ∈ l, stI r = -1) (h' : ∀ r ∈ l', stI r = -1) (hl : l.length < 4611686018427387904) :
    SS (.call 41 [.d (.lst 119 l), .d (.lst 119 l')] []) = some (.ret false [3] [.int .i64 (pcmp l l')] []) := c41 l l' (l41 l l' h h' hl (min l.length l'.length) 0 (by omega))
end Go.Ab
end

section
set_option linter.unusedSimpArgs false
/-! Heads. -/
set_option autoImplicit false
set_option linter.unusedVariables false
namespace Go.Ab

theorem rsge (k : IntKind) (n : Int) : decide ((([Dat.int k n] : List Dat).getD 0 .nilP).i ≥ 0) = decide (0 ≤ n) := rfl
theorem rsle (k : IntKind) (n : Int) : decide ((([Dat.int k n] : List Dat).getD 0 .nilP).i ≤ 0) = decide (n ≤ 0) := rfl

noncomputable def phC (r : List Dat) : Int := (r.getD 0 .nilP).i
noncomputable def phP (r : List Dat) : List (List Dat) := (r.getD 1 .nilP).l
/-- A value at a place of a row. -/
noncomputable def vAt (r : List Dat) (a b c d e : Nat) : V := .mk (r.getD a .nilP).i (r.getD b .nilP).i (r.getD c .nilP).s (dvRs (r.getD d .nilP).l) (dKs (r.getD e .nilP).l)
noncomputable def stA (r : List Dat) (rows ty : Int) : Bool := statV (r.getD 0 .nilP).i (r.getD 1 .nilP).i (vAt r 2 3 4 5 6) (vAt r 7 8 9 10 11) rows ty
noncomputable def stB (r : List Dat) (rows : Int) : Bool := statV (r.getD 2 .nilP).i (r.getD 3 .nilP).i (vAt r 4 5 6 7 8) (vAt r 9 10 11 12 13) rows 4
def smA (r : List Dat) : Prop := smV (vAt r 2 3 4 5 6) ∧ smV (vAt r 7 8 9 10 11)
def smB (r : List Dat) : Prop := smV (vAt r 4 5 6 7 8) ∧ smV (vAt r 9 10 11 12 13)

noncomputable def phOk (cols : List (List Dat)) (c : Int) (p : List (List Dat)) (st : Bool) : Bool :=
  decide (0 ≤ c) && (decide (c < (cols.length : Int)) && (decide (cTy (cols.getD c.toNat []) = 4) && (pathV p && st)))

theorem pathV_len {p : List (List Dat)} (h : pathV p = true) : p.length ≤ 6 := by
  simp only [pathV, stepsV, Bool.and_eq_true, decide_eq_true_eq] at h
  exact h.1.1
theorem pathV_neg {p : List (List Dat)} (h : pathV p = true) : ∀ r ∈ p, stI r = -1 := by
  simp only [pathV, stepsV, Bool.and_eq_true, List.all_eq_true, decide_eq_true_eq] at h
  intro r hr
  have h1 := h.1.2 r hr
  have h2 := h.2.2 r hr
  unfold stepB at h1
  rw [if_neg (by omega)] at h1
  simp only [Bool.and_eq_true, decide_eq_true_eq] at h1
  exact h1.1

theorem s36 (l0 : List (List Dat)) (n1 n2 n3 : Int) (l4 l5 : List (List Dat)) (n6 : Int) (l7 : List (List Dat)) (n8 n9 n10 n11 : Int) (s12 : List UInt8) (l13 l14 : List (List Dat)) (n15 n16 : Int) (s17 : List UInt8) (l18 l19 : List (List Dat))
    (h1 : smV (.mk n10 n11 s12 (dvRs l13) (dKs l14))) (h2 : smV (.mk n15 n16 s17 (dvRs l18) (dKs l19))) :
    SS (.call 36 [.agg [.d (.lst 83 l0), .d (.int .i64 n1), .d (.int .i64 n2), .d (.int .i64 n3), .d (.lst 43 l4), .d (.lst 86 l5)], .agg [.d (.int .i64 n6), .d (.lst 119 l7), .d (.int .i64 n8), .d (.int .i64 n9), .d (.int .i64 n10), .d (.int .i64 n11), .d (.str s12), .d (.lst 32 l13), .d (.lst 9 l14), .d (.int .i64 n15), .d (.int .i64 n16), .d (.str s17), .d (.lst 32 l18), .d (.lst 9 l19)]] []) =
      some (.ret false [4] [.bool (phOk l0 n6 l7 (statV n8 n9 (.mk n10 n11 s12 (dvRs l13) (dKs l14)) (.mk n15 n16 s17 (dvRs l18) (dKs l19)) n1 4))] []) := c36 _ _ _ _ _ _ _ _ _ _ _ _ _ _ _ _ _ _ _ _ (by
  have hty : ((l0.getD n6.toNat []).getD 1 .nilP).i = cTy (l0.getD n6.toNat []) := rfl
  have e1 : decide (n6 < 0) = !decide (0 ≤ n6) := by rw [Bool.eq_iff_iff]; simp
  have e2 : decide (n6 ≥ (l0.length : Int)) = !decide (n6 < (l0.length : Int)) := by rw [Bool.eq_iff_iff]; simp
  have e3 : (cTy (l0.getD n6.toNat []) != 4) = !decide (cTy (l0.getD n6.toNat []) = 4) := by rw [Bool.eq_iff_iff]; simp
  simp only [hty, e1, e2, e3, s71, s35 _ _ _ _ _ _ _ _ _ _ _ _ _ _ h1 h2, bindR0, rsb, phOk, pathV]
  generalize decide (0 ≤ n6) = b1
  generalize decide (n6 < (l0.length : Int)) = b2
  generalize decide (cTy (l0.getD n6.toNat []) = 4) = b3
  generalize statV n8 n9 (.mk n10 n11 s12 (dvRs l13) (dKs l14)) (.mk n15 n16 s17 (dvRs l18) (dKs l19)) n1 4 = b4
  cases b1 with
  | false => rfl
  | true => cases b2 with
    | false => rfl
    | true => cases b3 with
      | false => rfl
      | true =>
        simp only [Bool.not_true, Bool.and_self, Bool.true_and, cond_true, cond_false]
        by_cases hq : l7.length < 1
        · have z : decide ((l7.length : Int) < 1) = true := by rw [decide_eq_true_eq]; omega
          have y1 : decide (l7.length = 1) = false := by rw [decide_eq_false_iff_not]; omega
          have y2 : decide (l7.length = 2) = false := by rw [decide_eq_false_iff_not]; omega
          simp only [z, cond_true, y1, y2, Bool.or_self, Bool.false_and, Bool.and_false]
        · have z : decide ((l7.length : Int) < 1) = false := by rw [decide_eq_false_iff_not]; omega
          by_cases hq2 : l7.length > 2
          · have z2 : decide ((l7.length : Int) > 2) = true := by rw [decide_eq_true_eq]; omega
            have y1 : decide (l7.length = 1) = false := by rw [decide_eq_false_iff_not]; omega
            have y2 : decide (l7.length = 2) = false := by rw [decide_eq_false_iff_not]; omega
            simp only [z, z2, cond_true, cond_false, y1, y2, Bool.or_self, Bool.false_and, Bool.and_false]
          · have z2 : decide ((l7.length : Int) > 2) = false := by rw [decide_eq_false_iff_not]; omega
            have y : (decide (l7.length = 1) || decide (l7.length = 2)) = true := by
              rw [Bool.or_eq_true, decide_eq_true_eq, decide_eq_true_eq]; omega
            have hany : (l7.any fun r => decide (0 ≤ stI r)) = !(l7.all fun r => decide (stI r < 0)) := by
              rw [Bool.eq_iff_iff]; simp
            simp only [z, z2, cond_false, y, Bool.true_and, s72 l7 (by omega), bindR0, rsb, hany]
            generalize stepsV l7 = b5
            generalize (l7.all fun r => decide (stI r < 0)) = b6
            cases b5 <;> cases b6 <;> cases b4 <;> rfl)

/-! ### Stats -/
noncomputable def statsL (rows : Int) : List (List Dat) → List (List Dat) → Bool
  | [], _ => true
  | r :: t, cs => stA r rows (cTy (cs.headD [])) && statsL rows t cs.tail

theorem tail_drop' {α : Type} (l : List α) (i : Nat) : (l.drop i).tail = l.drop (i + 1) := by simp
theorem vAt_eq (r : List Dat) (a b c d e : Nat) : V.mk (r.getD a .nilP).i (r.getD b .nilP).i (r.getD c .nilP).s (dvRs (r.getD d .nilP).l) (dKs (r.getD e .nilP).l) = vAt r a b c d e := rfl

theorem l10 (cols : List (List Dat)) (n1 n2 n3 : Int) (stats paths : List (List Dat)) {b : Bool}
    (hb : SS (.pt 10 [] 250 { tmps := [(1, .ptr 1001 0), (5, .own 1000085 []), (71, .d (.lst 86 paths)), (72, .d (.int .i64 (paths.length : Int))), (73, .d (.int .i64 0))], boxes := [(1001, [.d (.lst 83 cols), .d (.int .i64 n1), .d (.int .i64 n2), .d (.int .i64 n3), .d (.lst 43 stats), .d (.lst 86 paths)])] }) = some (.ret false [4] [.bool b] [])) :
    ∀ (t pre : List (List Dat)), (pre ++ t).length < 4611686018427387904 → cols.length = (pre ++ t).length → (∀ r ∈ t, smA r) →
    SS (.pt 10 [] 58 { tmps := [(1, .ptr 1001 0), (50, .d (.lst 43 (pre ++ t))), (51, .d (.int .i64 ((pre ++ t).length : Int))), (52, .d (.int .i64 (pre.length : Int)))], boxes := [(1001, [.d (.lst 83 cols), .d (.int .i64 n1), .d (.int .i64 n2), .d (.int .i64 n3), .d (.lst 43 stats), .d (.lst 86 paths)])] }) =
      some (.ret false [4] [.bool (statsL n1 t (cols.drop pre.length) && b)] [])
  | [], pre, hs, hc, hm => p10_58 _ _ _ _ _ _ _ _ _ (by simp only [lp1e, cond_false, hb, statsL, Bool.true_and])
  | r :: t, pre, hs, hc, hm => p10_58 _ _ _ _ _ _ _ _ _ (by
      have ih := l10 cols n1 n2 n3 stats paths hb t (pre ++ [r]) (by simpa using hs) (by simpa using hc) (fun x hx => hm x (List.mem_cons_of_mem _ hx))
      rw [List.append_assoc, List.singleton_append] at ih
      obtain ⟨m1, m2⟩ := hm r (List.mem_cons_self ..)
      have hi : pre.length < cols.length := by rw [hc]; simp
      have e0 : ((cols.getD pre.length []).getD 1 .nilP).i = cTy (cols.getD pre.length []) := rfl
      have e1 : (cols.drop pre.length).headD [] = cols.getD pre.length [] := by rw [dropd [] hi]; rfl
      have e2 : (cols.drop pre.length).tail = cols.drop (pre ++ [r]).length := by rw [tail_drop', List.length_append, List.length_singleton]
      have hg : (pre ++ r :: t).getD pre.length [] = r := by simp [List.getD_eq_getElem?_getD]
      simp only [lp0, lp1, lpw hs, ix1 hi, Bool.and_self, cond_true, Int.toNat_natCast, hg, e0, s35 _ _ _ _ _ _ _ _ _ _ _ _ _ _ m1 m2, bindR0, rsb, ih, statsL, e1, e2, vAt_eq]
      show cond (!(stA r n1 (cTy (cols.getD pre.length [])))) _ _ = _
      generalize stA r n1 (cTy (cols.getD pre.length [])) = b1
      cases b1 <;> rfl)

theorem l11 (cols : List (List Dat)) (n1 n2 n3 : Int) (paths : List (List Dat)) {b : Bool} (hall : cols.all tyOk = true) :
    ∀ (t pre : List (List Dat)),
    (SS (.pt 11 [] 250 { tmps := [(1, .ptr 1001 0), (4, .d (.int .i64 0)), (5, .d (.int .i64 0))], boxes := [(1001, [.d (.lst 83 cols), .d (.int .i64 n1), .d (.int .i64 n2), .d (.int .i64 n3), .d (.lst 43 (pre ++ t)), .d (.lst 86 paths)])] }) = some (.ret false [4] [.bool b] [])) →
    (pre ++ t).length < 4611686018427387904 → cols.length = (pre ++ t).length →
    SS (.pt 11 [] 58 { tmps := [(1, .ptr 1001 0), (3, .d (.int .i64 (pre.length : Int)))], boxes := [(1001, [.d (.lst 83 cols), .d (.int .i64 n1), .d (.int .i64 n2), .d (.int .i64 n3), .d (.lst 43 (pre ++ t)), .d (.lst 86 paths)])] }) =
      some (.ret false [4] [.bool (statsL n1 t (cols.drop pre.length) && b)] [])
  | [], pre, hb, hs, hc => p11_58 _ _ _ _ _ _ _ (by simp only [lp1e, cond_false, hb, statsL, Bool.true_and])
  | r :: t, pre, hb, hs, hc => p11_58 _ _ _ _ _ _ _ (by
      have ih := l11 cols n1 n2 n3 paths (b := b) hall t (pre ++ [r]) (by rw [List.append_assoc, List.singleton_append]; exact hb) (by simpa using hs) (by simpa using hc)
      rw [List.append_assoc, List.singleton_append] at ih
      have hi : pre.length < cols.length := by rw [hc]; simp
      have e0 : ((cols.getD pre.length []).getD 1 .nilP).i = cTy (cols.getD pre.length []) := rfl
      have e1 : (cols.drop pre.length).headD [] = cols.getD pre.length [] := by rw [dropd [] hi]; rfl
      have e2 : (cols.drop pre.length).tail = cols.drop (pre ++ [r]).length := by rw [tail_drop', List.length_append, List.length_singleton]
      have hty : 1 ≤ cTy (cols.getD pre.length []) ∧ cTy (cols.getD pre.length []) ≤ 4 := by
        have hm : cols.getD pre.length [] ∈ cols := by rw [List.getD_eq_getElem?_getD, List.getElem?_eq_getElem hi]; exact List.getElem_mem hi
        have := List.all_eq_true.1 hall _ hm
        simpa [tyOk] using this
      have hg : (pre ++ r :: t).getD pre.length [] = r := by simp [List.getD_eq_getElem?_getD]
      simp only [lp0, lp1, ix1 hi, Bool.and_self, cond_true, Int.toNat_natCast, e0, hg, lpw hs, s39 _ _ _ _ _ _ _ _ _ _ _ _ _ _ hty.1 hty.2, bindR0, rsb, ih, statsL, e1, e2, vAt_eq]
      show cond (!(stA r n1 (cTy (cols.getD pre.length [])))) _ _ = _
      generalize stA r n1 (cTy (cols.getD pre.length [])) = b1
      cases b1 <;> rfl)

/-! ### Paths: the reference's step -/
section ref
variable (n0 : Int) (l2 : List (List Dat)) (n3 n4 n5 : Int) (l6 l7 : List (List Dat)) (n8 : Int) (l9 : List (List Dat)) (n10 n11 n12 n13 : Int) (s14 : List UInt8) (l15 l16 : List (List Dat)) (n17 n18 : Int) (s19 : List UInt8) (l20 l21 : List (List Dat))

theorem r64 (i : Nat) {r : Res} (hi : i < 4611686018427387904) (h0 : 0 ≤ n0) (h8 : n0 ≤ 8)
    (h : (if n0 + 1 ≤ 8 then SS (.pt 11 [] 250 { tmps := [(1, .ptr 1001 0), (4, .d (.int .i64 (n0 + 1))), (5, .d (.int .i64 ((i + 1 : Nat) : Int)))], boxes := [(1001, [.d (.lst 83 l2), .d (.int .i64 n3), .d (.int .i64 n4), .d (.int .i64 n5), .d (.lst 43 l6), .d (.lst 86 l7)])] }) else some (.ret false [4] [.bool false] [])) = some r) :
    SS (.pt 11 [] 64079 { tmps := [(1, .ptr 1001 0), (4, .d (.int .i64 n0)), (5, .d (.int .i64 (i : Int)))], boxes := [(1001, [.d (.lst 83 l2), .d (.int .i64 n3), .d (.int .i64 n4), .d (.int .i64 n5), .d (.lst 43 l6), .d (.lst 86 l7)])] }) = some r := p11_64079 _ _ _ _ _ _ _ _ (by
  have hw : Go.IntKind.i64.wrap (n0 + 1) = n0 + 1 := wrap64 (by omega) (by omega)
  rw [hw, ixw hi, ← h]
  by_cases hq : n0 + 1 ≤ 8
  · have : decide (n0 + 1 > 8) = false := by rw [decide_eq_false_iff_not]; omega
    rw [this, if_pos hq]; rfl
  · have : decide (n0 + 1 > 8) = true := by rw [decide_eq_true_eq]; omega
    rw [this, if_neg hq]; rfl)

theorem r32_0 {r : Res}
    (h : SS (.pt 11 [] 64079 { tmps := [(1, .ptr 1001 0), (4, .d (.int .i64 0)), (5, .d (.int .i64 ((0 : Nat) : Int)))], boxes := [(1001, [.d (.lst 83 l2), .d (.int .i64 n3), .d (.int .i64 n4), .d (.int .i64 n5), .d (.lst 43 l6), .d (.lst 86 l7)])] }) = some r) :
    SS (.pt 11 [] 32039 { tmps := [(1, .ptr 1001 0), (4, .d (.int .i64 n0)), (5, .d (.int .i64 ((0 : Nat) : Int))), (6, .ptr 1006 0)], boxes := [(1001, [.d (.lst 83 l2), .d (.int .i64 n3), .d (.int .i64 n4), .d (.int .i64 n5), .d (.lst 43 l6), .d (.lst 86 l7)]), (1006, [.d (.int .i64 n8), .d (.lst 119 l9), .d (.int .i64 n10), .d (.int .i64 n11), .d (.int .i64 n12), .d (.int .i64 n13), .d (.str s14), .d (.lst 32 l15), .d (.lst 9 l16), .d (.int .i64 n17), .d (.int .i64 n18), .d (.str s19), .d (.lst 32 l20), .d (.lst 9 l21)])] }) = some r :=
  p11_32039 _ _ _ _ _ _ _ _ _ _ _ _ _ _ _ _ _ _ _ _ _ _ h

theorem r16_0 {r : Res}
    (h : SS (.pt 11 [] 64079 { tmps := [(1, .ptr 1001 0), (4, .d (.int .i64 0)), (5, .d (.int .i64 ((0 : Nat) : Int)))], boxes := [(1001, [.d (.lst 83 l2), .d (.int .i64 n3), .d (.int .i64 n4), .d (.int .i64 n5), .d (.lst 43 l6), .d (.lst 86 l7)])] }) = some r) :
    SS (.pt 11 [] 16019 { tmps := [(1, .ptr 1001 0), (4, .d (.int .i64 n0)), (5, .d (.int .i64 ((0 : Nat) : Int))), (6, .ptr 1006 0)], boxes := [(1001, [.d (.lst 83 l2), .d (.int .i64 n3), .d (.int .i64 n4), .d (.int .i64 n5), .d (.lst 43 l6), .d (.lst 86 l7)]), (1006, [.d (.int .i64 n8), .d (.lst 119 l9), .d (.int .i64 n10), .d (.int .i64 n11), .d (.int .i64 n12), .d (.int .i64 n13), .d (.str s14), .d (.lst 32 l15), .d (.lst 9 l16), .d (.int .i64 n17), .d (.int .i64 n18), .d (.str s19), .d (.lst 32 l20), .d (.lst 9 l21)])] }) = some r :=
  p11_16019 _ _ _ _ _ _ _ _ _ _ _ _ _ _ _ _ _ _ _ _ _ _ (r32_0 n0 l2 n3 n4 n5 l6 l7 n8 l9 n10 n11 n12 n13 s14 l15 l16 n17 n18 s19 l20 l21 h)

theorem r32_s (i : Nat) {r : Res} (hi : i + 1 < 4611686018427387904) (hl : i < l7.length)
    (h : SS (.pt 11 [] 64079 { tmps := [(1, .ptr 1001 0), (4, .d (.int .i64 (if phC (l7.getD i []) = n8 then n0 else 0))), (5, .d (.int .i64 ((i + 1 : Nat) : Int)))], boxes := [(1001, [.d (.lst 83 l2), .d (.int .i64 n3), .d (.int .i64 n4), .d (.int .i64 n5), .d (.lst 43 l6), .d (.lst 86 l7)])] }) = some r) :
    SS (.pt 11 [] 32039 { tmps := [(1, .ptr 1001 0), (4, .d (.int .i64 n0)), (5, .d (.int .i64 ((i + 1 : Nat) : Int))), (6, .ptr 1006 0)], boxes := [(1001, [.d (.lst 83 l2), .d (.int .i64 n3), .d (.int .i64 n4), .d (.int .i64 n5), .d (.lst 43 l6), .d (.lst 86 l7)]), (1006, [.d (.int .i64 n8), .d (.lst 119 l9), .d (.int .i64 n10), .d (.int .i64 n11), .d (.int .i64 n12), .d (.int .i64 n13), .d (.str s14), .d (.lst 32 l15), .d (.lst 9 l16), .d (.int .i64 n17), .d (.int .i64 n18), .d (.str s19), .d (.lst 32 l20), .d (.lst 9 l21)])] }) = some r :=
  p11_32039 _ _ _ _ _ _ _ _ _ _ _ _ _ _ _ _ _ _ _ _ _ _ (by
    have z0 : (((i + 1 : Nat) : Int) == 0) = false := by simp <;> omega
    have zw : Go.IntKind.i64.wrap (((i + 1 : Nat) : Int) - 1) = (i : Int) := by rw [wrap64 (by omega) (by omega)]; omega
    have hc : ((l7.getD i []).getD 0 .nilP).i = phC (l7.getD i []) := rfl
    simp only [z0, cond_false, zw, ix0, ix1 hl, Bool.and_self, cond_true, Int.toNat_natCast, hc]
    by_cases hq : phC (l7.getD i []) = n8
    · have : (phC (l7.getD i []) != n8) = false := by simpa using hq
      rw [if_pos hq] at h
      rw [this]
      exact h
    · have : (phC (l7.getD i []) != n8) = true := by simpa using hq
      rw [if_neg hq] at h
      rw [this]
      exact h)

/-- Does a path come after the one before? -/
noncomputable def afterB (q : List Dat) (c : Int) (p : List (List Dat)) : Bool := decide (phC q < c) || (decide (phC q = c) && decide (pcmp (phP q) p < 0))

theorem r16_s (i : Nat) {r : Res} (hi : i + 1 < 4611686018427387904) (hl : i < l7.length) (hq : pathV (phP (l7.getD i [])) = true) (hp : pathV l9 = true)
    (h : (if afterB (l7.getD i []) n8 l9 = true then SS (.pt 11 [] 64079 { tmps := [(1, .ptr 1001 0), (4, .d (.int .i64 (if phC (l7.getD i []) = n8 then n0 else 0))), (5, .d (.int .i64 ((i + 1 : Nat) : Int)))], boxes := [(1001, [.d (.lst 83 l2), .d (.int .i64 n3), .d (.int .i64 n4), .d (.int .i64 n5), .d (.lst 43 l6), .d (.lst 86 l7)])] }) else some (.ret false [4] [.bool false] [])) = some r) :
    SS (.pt 11 [] 16019 { tmps := [(1, .ptr 1001 0), (4, .d (.int .i64 n0)), (5, .d (.int .i64 ((i + 1 : Nat) : Int))), (6, .ptr 1006 0)], boxes := [(1001, [.d (.lst 83 l2), .d (.int .i64 n3), .d (.int .i64 n4), .d (.int .i64 n5), .d (.lst 43 l6), .d (.lst 86 l7)]), (1006, [.d (.int .i64 n8), .d (.lst 119 l9), .d (.int .i64 n10), .d (.int .i64 n11), .d (.int .i64 n12), .d (.int .i64 n13), .d (.str s14), .d (.lst 32 l15), .d (.lst 9 l16), .d (.int .i64 n17), .d (.int .i64 n18), .d (.str s19), .d (.lst 32 l20), .d (.lst 9 l21)])] }) = some r :=
  p11_16019 _ _ _ _ _ _ _ _ _ _ _ _ _ _ _ _ _ _ _ _ _ _ (by
    have z0 : decide (((i + 1 : Nat) : Int) > 0) = true := by rw [decide_eq_true_eq]; omega
    have zw : Go.IntKind.i64.wrap (((i + 1 : Nat) : Int) - 1) = (i : Int) := by rw [wrap64 (by omega) (by omega)]; omega
    have hc : ((l7.getD i []).getD 0 .nilP).i = phC (l7.getD i []) := rfl
    have hpp : ((l7.getD i []).getD 1 .nilP).l = phP (l7.getD i []) := rfl
    have hcmp := s41 (phP (l7.getD i [])) l9 (pathV_neg hq) (pathV_neg hp) (by have := pathV_len hq; omega)
    have h32 := r32_s n0 l2 n3 n4 n5 l6 l7 n8 l9 n10 n11 n12 n13 s14 l15 l16 n17 n18 s19 l20 l21 i (r := r) hi hl
    simp only [z0, cond_true, zw, ix0, ix1 hl, Bool.and_self, Int.toNat_natCast, hc, hpp, hcmp, bindR0, ↓rsge]
    by_cases h1 : phC (l7.getD i []) > n8
    · have : afterB (l7.getD i []) n8 l9 = false := by
        simp only [afterB, Bool.or_eq_false_iff, Bool.and_eq_false_iff, decide_eq_false_iff_not]
        exact ⟨by omega, Or.inl (by omega)⟩
      rw [this, if_neg (by simp)] at h
      simp only [h1, decide_true, cond_true]
      exact h
    · simp only [h1, decide_false, cond_false]
      by_cases h2 : phC (l7.getD i []) = n8
      · have z2 : (phC (l7.getD i []) == n8) = true := by simpa using h2
        simp only [z2, cond_true]
        by_cases h3 : pcmp (phP (l7.getD i [])) l9 < 0
        · have z3 : decide (0 ≤ pcmp (phP (l7.getD i [])) l9) = false := by rw [decide_eq_false_iff_not]; omega
          have : afterB (l7.getD i []) n8 l9 = true := by
            simp only [afterB, Bool.or_eq_true, Bool.and_eq_true, decide_eq_true_eq]
            exact Or.inr ⟨h2, h3⟩
          rw [this, if_pos rfl] at h
          simp only [z3, cond_false]
          exact h32 h
        · have z3 : decide (0 ≤ pcmp (phP (l7.getD i [])) l9) = true := by rw [decide_eq_true_eq]; omega
          have : afterB (l7.getD i []) n8 l9 = false := by
            simp only [afterB, Bool.or_eq_false_iff, Bool.and_eq_false_iff, decide_eq_false_iff_not]
            exact ⟨by omega, Or.inr h3⟩
          rw [this, if_neg (by simp)] at h
          simp only [z3, cond_true]
          exact h
      · have z2 : (phC (l7.getD i []) == n8) = false := by simpa using h2
        have : afterB (l7.getD i []) n8 l9 = true := by
          simp only [afterB, Bool.or_eq_true, Bool.and_eq_true, decide_eq_true_eq]
          exact Or.inl (by omega)
        rw [this, if_pos rfl] at h
        simp only [z2, cond_false]
        exact h32 h)
end ref
end Go.Ab
end

section
set_option linter.unusedSimpArgs false
/-! Valid is the same. -/
set_option autoImplicit false
set_option linter.unusedVariables false
namespace Go.Ab

noncomputable def mv (m : List (List Dat)) (c : Int) : Int := ((mapVal (.int .i64 c) [.int .i64 0] m).getD 0 .nilP).i

theorem keyEq_int (a b : Int) : keyEq (.int .i64 a) (.int .i64 b) = (a == b) := by simp [keyEq]
theorem mv_same (m : List (List Dat)) (c x : Int) : mv (mapPut (.int .i64 c) [.int .i64 x] m) c = x := by
  unfold mv
  rw [mapPut_val (by rw [keyEq_int]; simp)]
  rfl
theorem mv_ne (m : List (List Dat)) (c c' x : Int) (h : c' ≠ c) : mv (mapPut (.int .i64 c) [.int .i64 x] m) c' = mv m c' := by
  unfold mv
  rw [mapPut_ne (by simpa using h) (by rw [keyEq_int]; simpa using h)]

def Inv (pre m : List (List Dat)) (many : Int) : Prop :=
  0 ≤ many ∧ many ≤ 8 ∧ (∀ q ∈ pre, pathV (phP q) = true) ∧ ((pre = [] ∧ ∀ c, mv m c = 0) ∨ ∃ pre' q, pre = pre' ++ [q] ∧ mv m (phC q) = many ∧ ∀ c, phC q < c → mv m c = 0)

/-- Is a path right by itself? -/
noncomputable def phRow (cols : List (List Dat)) (rows : Int) (r : List Dat) : Bool := phOk cols (phC r) (phP r) (stB r rows)

theorem phRow_path {cols : List (List Dat)} {rows : Int} {r : List Dat} (h : phRow cols rows r = true) : pathV (phP r) = true := by
  simp only [phRow, phOk, Bool.and_eq_true] at h
  exact h.2.2.2.1

section
variable (cols : List (List Dat)) (n1 n2 n3 : Int) (stats : List (List Dat))

noncomputable def kP (m l : List (List Dat)) (i : Int) : Key := .pt 10 [] 250 { tmps := [(1, .ptr 1001 0), (5, .own 1000085 m), (71, .d (.lst 86 l)), (72, .d (.int .i64 (l.length : Int))), (73, .d (.int .i64 i))], boxes := [(1001, [.d (.lst 83 cols), .d (.int .i64 n1), .d (.int .i64 n2), .d (.int .i64 n3), .d (.lst 43 stats), .d (.lst 86 l)])] }
noncomputable def kR (l : List (List Dat)) (many i : Int) : Key := .pt 11 [] 250 { tmps := [(1, .ptr 1001 0), (4, .d (.int .i64 many)), (5, .d (.int .i64 i))], boxes := [(1001, [.d (.lst 83 cols), .d (.int .i64 n1), .d (.int .i64 n2), .d (.int .i64 n3), .d (.lst 43 stats), .d (.lst 86 l)])] }

/-- The reference's step: what is wrong by itself. -/
theorem rBad (pre t : List (List Dat)) (r : List Dat) (many : Int) (hb : phRow cols n1 r = false) : SS (kR cols n1 n2 n3 stats (pre ++ r :: t) many (pre.length : Int)) = some (.ret false [4] [.bool false] []) := p11_250 _ _ _ _ _ _ _ _ (by
  have hc : (r.getD 0 .nilP).i = phC r := rfl
  have hp : (r.getD 1 .nilP).l = phP r := rfl
  have hty : ((cols.getD (phC r).toNat []).getD 1 .nilP).i = cTy (cols.getD (phC r).toNat []) := rfl
  have e1 : decide (phC r < 0) = !decide (0 ≤ phC r) := by rw [Bool.eq_iff_iff]; simp
  have e2 : decide (phC r ≥ (cols.length : Int)) = !decide (phC r < (cols.length : Int)) := by rw [Bool.eq_iff_iff]; simp
  have e3 : (cTy (cols.getD (phC r).toNat []) != 4) = !decide (cTy (cols.getD (phC r).toNat []) = 4) := by rw [Bool.eq_iff_iff]; simp
  simp only [lp0, lp1, lpg, Bool.and_self, cond_true, hc, hp, hty, e1, e2, e3, s40, s39 _ _ _ _ _ _ _ _ _ _ _ _ _ _ (show (1 : Int) ≤ 4 by omega) (show (4 : Int) ≤ 4 by omega), bindR0, rsb, vAt_eq]
  have hst : statV (r.getD 2 .nilP).i (r.getD 3 .nilP).i (vAt r 4 5 6 7 8) (vAt r 9 10 11 12 13) n1 4 = stB r n1 := rfl
  rw [hst]
  unfold phRow phOk at hb
  revert hb
  generalize decide (0 ≤ phC r) = b1
  generalize decide (phC r < (cols.length : Int)) = b2
  generalize decide (cTy (cols.getD (phC r).toNat []) = 4) = b3
  generalize pathV (phP r) = b4
  generalize stB r n1 = b5
  cases b1 with
  | false => intro _; rfl
  | true => cases b2 with
    | false => intro _; rfl
    | true => cases b3 with
      | false => intro _; rfl
      | true => cases b4 with
        | false => intro _; rfl
        | true => cases b5 with
          | false => intro _; rfl
          | true => intro h; cases h)

/-- The reference's step: what is right by itself. -/
theorem rGood (pre t : List (List Dat)) (r : List Dat) (many : Int) {R : Res} (hb : phRow cols n1 r = true)
    (h : SS (.pt 11 [] 16019 { tmps := [(1, .ptr 1001 0), (4, .d (.int .i64 many)), (5, .d (.int .i64 (pre.length : Int))), (6, .ptr 1006 0)], boxes := [(1001, [.d (.lst 83 cols), .d (.int .i64 n1), .d (.int .i64 n2), .d (.int .i64 n3), .d (.lst 43 stats), .d (.lst 86 (pre ++ r :: t))]), (1006, [.d (.int .i64 (phC r)), .d (.lst 119 (phP r)), .d (.int .i64 (r.getD 2 .nilP).i), .d (.int .i64 (r.getD 3 .nilP).i), .d (.int .i64 (r.getD 4 .nilP).i), .d (.int .i64 (r.getD 5 .nilP).i), .d (.str (r.getD 6 .nilP).s), .d (.lst 32 (r.getD 7 .nilP).l), .d (.lst 9 (r.getD 8 .nilP).l), .d (.int .i64 (r.getD 9 .nilP).i), .d (.int .i64 (r.getD 10 .nilP).i), .d (.str (r.getD 11 .nilP).s), .d (.lst 32 (r.getD 12 .nilP).l), .d (.lst 9 (r.getD 13 .nilP).l)])] }) = some R) :
    SS (kR cols n1 n2 n3 stats (pre ++ r :: t) many (pre.length : Int)) = some R := p11_250 _ _ _ _ _ _ _ _ (by
  have hc : (r.getD 0 .nilP).i = phC r := rfl
  have hp : (r.getD 1 .nilP).l = phP r := rfl
  have hty : ((cols.getD (phC r).toNat []).getD 1 .nilP).i = cTy (cols.getD (phC r).toNat []) := rfl
  have e1 : decide (phC r < 0) = !decide (0 ≤ phC r) := by rw [Bool.eq_iff_iff]; simp
  have e2 : decide (phC r ≥ (cols.length : Int)) = !decide (phC r < (cols.length : Int)) := by rw [Bool.eq_iff_iff]; simp
  have e3 : (cTy (cols.getD (phC r).toNat []) != 4) = !decide (cTy (cols.getD (phC r).toNat []) = 4) := by rw [Bool.eq_iff_iff]; simp
  simp only [lp0, lp1, lpg, Bool.and_self, cond_true, hc, hp, hty, e1, e2, e3, s40, s39 _ _ _ _ _ _ _ _ _ _ _ _ _ _ (show (1 : Int) ≤ 4 by omega) (show (4 : Int) ≤ 4 by omega), bindR0, rsb, vAt_eq]
  have hst : statV (r.getD 2 .nilP).i (r.getD 3 .nilP).i (vAt r 4 5 6 7 8) (vAt r 9 10 11 12 13) n1 4 = stB r n1 := rfl
  rw [hst]
  unfold phRow phOk at hb
  simp only [Bool.and_eq_true] at hb
  obtain ⟨a1, a2, a3, a4, a5⟩ := hb
  simp only [a1, a2, a3, a4, a5, Bool.not_true, Bool.and_self, cond_true, cond_false]
  exact h)

theorem pBad (pre t m : List (List Dat)) (r : List Dat) (hb : phRow cols n1 r = false) (hm : smB r) : SS (kP cols n1 n2 n3 stats m (pre ++ r :: t) (pre.length : Int)) = some (.ret false [4] [.bool false] []) := p10_250 _ _ _ _ _ _ _ _ _ _ (by
  have hst : statV (r.getD 2 .nilP).i (r.getD 3 .nilP).i (vAt r 4 5 6 7 8) (vAt r 9 10 11 12 13) n1 4 = stB r n1 := rfl
  have hc : (r.getD 0 .nilP).i = phC r := rfl
  have hp : (r.getD 1 .nilP).l = phP r := rfl
  have hrow : phOk cols (phC r) (phP r) (stB r n1) = phRow cols n1 r := rfl
  simp only [lp0, lp1, lpg, Bool.and_self, cond_true, s36 _ _ _ _ _ _ _ _ _ _ _ _ _ _ _ _ _ _ _ _ hm.1 hm.2, bindR0, rsb, vAt_eq, hst, hc, hp, hrow, hb, Bool.not_false])

/-- The program's step on the map. -/
noncomputable def putC (m : List (List Dat)) (c : Int) : List (List Dat) := mapPut (.int .i64 c) [.int .i64 (mv m c + 1)] m

theorem pGood0 (t m : List (List Dat)) (r : List Dat) {R : Res} (hb : phRow cols n1 r = true) (hm : smB r) (h0 : 0 ≤ mv m (phC r)) (h8 : mv m (phC r) ≤ 8)
    (h : (if mv m (phC r) + 1 ≤ 8 then SS (kP cols n1 n2 n3 stats (putC m (phC r)) (r :: t) 1) else some (.ret false [4] [.bool false] [])) = some R) :
    SS (kP cols n1 n2 n3 stats m (r :: t) 0) = some R := p10_250 _ _ _ _ _ _ _ _ _ _ (by
  have hst : statV (r.getD 2 .nilP).i (r.getD 3 .nilP).i (vAt r 4 5 6 7 8) (vAt r 9 10 11 12 13) n1 4 = stB r n1 := rfl
  have hc : (r.getD 0 .nilP).i = phC r := rfl
  have hp : (r.getD 1 .nilP).l = phP r := rfl
  have hrow : phOk cols (phC r) (phP r) (stB r n1) = phRow cols n1 r := rfl
  have hmv : ((mapVal (.int .i64 (phC r)) [.int .i64 0] m).getD 0 .nilP).i = mv m (phC r) := rfl
  have hw : Go.IntKind.i64.wrap (mv m (phC r) + 1) = mv m (phC r) + 1 := wrap64 (by omega) (by omega)
  have hput : mapPut (.int .i64 (phC r)) [.int .i64 (mv m (phC r) + 1)] m = putC m (phC r) := rfl
  have hmv2 : ((mapVal (.int .i64 (phC r)) [.int .i64 0] (putC m (phC r))).getD 0 .nilP).i = mv m (phC r) + 1 := mv_same m (phC r) _
  have g0 : (r :: t).getD (0 : Int).toNat [] = r := rfl
  have z0 : decide ((0 : Int) < ((r :: t).length : Int)) = true := by simp <;> omega
  have z1 : decide ((0 : Int) ≤ 0) = true := rfl
  have z2 : decide ((0 : Int) > 0) = false := rfl
  have z3 : Go.IntKind.i64.wrap (0 + 1) = 1 := rfl
  simp only [z0, z1, z2, z3, g0, Bool.and_self, cond_true, cond_false, s36 _ _ _ _ _ _ _ _ _ _ _ _ _ _ _ _ _ _ _ _ hm.1 hm.2, bindR0, rsb, vAt_eq, hst, hc, hp, hrow, hb, Bool.not_true, hmv, hw, hput, hmv2]
  by_cases hq : mv m (phC r) + 1 ≤ 8
  · have : decide (mv m (phC r) + 1 > 8) = false := by rw [decide_eq_false_iff_not]; omega
    rw [if_pos hq] at h
    rw [this]
    exact h
  · have : decide (mv m (phC r) + 1 > 8) = true := by rw [decide_eq_true_eq]; omega
    rw [if_neg hq] at h
    rw [this]
    exact h)

theorem pGoodS (l m : List (List Dat)) (i : Nat) (q r : List Dat) {R : Res} (hi : i + 2 < 4611686018427387904) (hl : i + 1 < l.length) (hq0 : l.getD i [] = q) (hr0 : l.getD (i + 1) [] = r) (hb : phRow cols n1 r = true) (hm : smB r) (hq : pathV (phP q) = true) (h0 : 0 ≤ mv m (phC r)) (h8 : mv m (phC r) ≤ 8)
    (h : (if afterB q (phC r) (phP r) = true then (if mv m (phC r) + 1 ≤ 8 then SS (kP cols n1 n2 n3 stats (putC m (phC r)) l ((i + 2 : Nat) : Int)) else some (.ret false [4] [.bool false] [])) else some (.ret false [4] [.bool false] [])) = some R) :
    SS (kP cols n1 n2 n3 stats m l ((i + 1 : Nat) : Int)) = some R := p10_250 _ _ _ _ _ _ _ _ _ _ (by
  have hst : statV (r.getD 2 .nilP).i (r.getD 3 .nilP).i (vAt r 4 5 6 7 8) (vAt r 9 10 11 12 13) n1 4 = stB r n1 := rfl
  have hc : (r.getD 0 .nilP).i = phC r := rfl
  have hp : (r.getD 1 .nilP).l = phP r := rfl
  have hc' : (q.getD 0 .nilP).i = phC q := rfl
  have hp' : (q.getD 1 .nilP).l = phP q := rfl
  have hrow : phOk cols (phC r) (phP r) (stB r n1) = phRow cols n1 r := rfl
  have hmv : ((mapVal (.int .i64 (phC r)) [.int .i64 0] m).getD 0 .nilP).i = mv m (phC r) := rfl
  have hw : Go.IntKind.i64.wrap (mv m (phC r) + 1) = mv m (phC r) + 1 := wrap64 (by omega) (by omega)
  have hput : mapPut (.int .i64 (phC r)) [.int .i64 (mv m (phC r) + 1)] m = putC m (phC r) := rfl
  have hmv2 : ((mapVal (.int .i64 (phC r)) [.int .i64 0] (putC m (phC r))).getD 0 .nilP).i = mv m (phC r) + 1 := mv_same m (phC r) _
  have z0 : decide (((i + 1 : Nat) : Int) > 0) = true := by rw [decide_eq_true_eq]; omega
  have zw : Go.IntKind.i64.wrap (((i + 1 : Nat) : Int) - 1) = (i : Int) := by rw [wrap64 (by omega) (by omega)]; omega
  have z3 : Go.IntKind.i64.wrap (((i + 1 : Nat) : Int) + 1) = ((i + 2 : Nat) : Int) := by rw [wrap64 (by omega) (by omega)]; omega
  have hcmp := s37 (phP q) (phP r) (pathV_neg hq) (pathV_neg (phRow_path hb)) (by have := pathV_len hq; omega)
  simp only [z0, zw, z3, ix0, ix1 hl, ix1 (Nat.lt_of_succ_lt hl), Int.toNat_natCast, hq0, hr0, Bool.and_self, cond_true, cond_false, s36 _ _ _ _ _ _ _ _ _ _ _ _ _ _ _ _ _ _ _ _ hm.1 hm.2, bindR0, rsb, ↓rsge, vAt_eq, hst, hc, hp, hc', hp', hrow, hb, Bool.not_true, hmv, hw, hput, hmv2, hcmp]
  have hfin : (if mv m (phC r) + 1 ≤ 8 then SS (kP cols n1 n2 n3 stats (putC m (phC r)) l ((i + 2 : Nat) : Int)) else some (.ret false [4] [.bool false] [])) = (bif decide (mv m (phC r) + 1 > 8) then some (.ret false [4] [.bool false] []) else SS (kP cols n1 n2 n3 stats (putC m (phC r)) l ((i + 2 : Nat) : Int))) := by
    by_cases hq : mv m (phC r) + 1 ≤ 8
    · have : decide (mv m (phC r) + 1 > 8) = false := by rw [decide_eq_false_iff_not]; omega
      rw [if_pos hq, this]; rfl
    · have : decide (mv m (phC r) + 1 > 8) = true := by rw [decide_eq_true_eq]; omega
      rw [if_neg hq, this]; rfl
  by_cases h1 : phC q > phC r
  · have : afterB q (phC r) (phP r) = false := by
      simp only [afterB, Bool.or_eq_false_iff, Bool.and_eq_false_iff, decide_eq_false_iff_not]
      exact ⟨by omega, Or.inl (by omega)⟩
    rw [this, if_neg (by simp)] at h
    simp only [h1, decide_true, cond_true]
    exact h
  · simp only [h1, decide_false, cond_false]
    by_cases h2 : phC q = phC r
    · have z2 : (phC q == phC r) = true := by simpa using h2
      simp only [z2, cond_true]
      by_cases h3 : pcmp (phP q) (phP r) < 0
      · have z3 : decide (0 ≤ pcmp (phP q) (phP r)) = false := by rw [decide_eq_false_iff_not]; omega
        have : afterB q (phC r) (phP r) = true := by
          simp only [afterB, Bool.or_eq_true, Bool.and_eq_true, decide_eq_true_eq]
          exact Or.inr ⟨h2, h3⟩
        rw [this, if_pos rfl, hfin] at h
        simp only [z3, cond_false]
        exact h
      · have z3 : decide (0 ≤ pcmp (phP q) (phP r)) = true := by rw [decide_eq_true_eq]; omega
        have : afterB q (phC r) (phP r) = false := by
          simp only [afterB, Bool.or_eq_false_iff, Bool.and_eq_false_iff, decide_eq_false_iff_not]
          exact ⟨by omega, Or.inr h3⟩
        rw [this, if_neg (by simp)] at h
        simp only [z3, cond_true]
        exact h
    · have z2 : (phC q == phC r) = false := by simpa using h2
      have : afterB q (phC r) (phP r) = true := by
        simp only [afterB, Bool.or_eq_true, Bool.and_eq_true, decide_eq_true_eq]
        exact Or.inl (by omega)
      rw [this, if_pos rfl, hfin] at h
      simp only [z2, cond_false]
      exact h)

theorem pBadS (l m : List (List Dat)) (i : Nat) (q r : List Dat) (hi : i + 2 < 4611686018427387904) (hl : i + 1 < l.length) (hq0 : l.getD i [] = q) (hr0 : l.getD (i + 1) [] = r) (hb : phRow cols n1 r = true) (hm : smB r) (hq : pathV (phP q) = true) (haf : ¬ afterB q (phC r) (phP r) = true) :
    SS (kP cols n1 n2 n3 stats m l ((i + 1 : Nat) : Int)) = some (.ret false [4] [.bool false] []) := p10_250 _ _ _ _ _ _ _ _ _ _ (by
  have hst : statV (r.getD 2 .nilP).i (r.getD 3 .nilP).i (vAt r 4 5 6 7 8) (vAt r 9 10 11 12 13) n1 4 = stB r n1 := rfl
  have hc : (r.getD 0 .nilP).i = phC r := rfl
  have hp : (r.getD 1 .nilP).l = phP r := rfl
  have hc' : (q.getD 0 .nilP).i = phC q := rfl
  have hp' : (q.getD 1 .nilP).l = phP q := rfl
  have hrow : phOk cols (phC r) (phP r) (stB r n1) = phRow cols n1 r := rfl
  have z0 : decide (((i + 1 : Nat) : Int) > 0) = true := by rw [decide_eq_true_eq]; omega
  have zw : Go.IntKind.i64.wrap (((i + 1 : Nat) : Int) - 1) = (i : Int) := by rw [wrap64 (by omega) (by omega)]; omega
  have hcmp := s37 (phP q) (phP r) (pathV_neg hq) (pathV_neg (phRow_path hb)) (by have := pathV_len hq; omega)
  simp only [z0, zw, ix0, ix1 hl, ix1 (Nat.lt_of_succ_lt hl), Int.toNat_natCast, hq0, hr0, Bool.and_self, cond_true, cond_false, s36 _ _ _ _ _ _ _ _ _ _ _ _ _ _ _ _ _ _ _ _ hm.1 hm.2, bindR0, rsb, ↓rsge, vAt_eq, hst, hc, hp, hc', hp', hrow, hb, Bool.not_true, hcmp]
  simp only [afterB, Bool.or_eq_true, Bool.and_eq_true, decide_eq_true_eq] at haf
  by_cases h1 : phC q > phC r
  · simp only [h1, decide_true, cond_true]
  · have h2 : phC q = phC r := by
      have : ¬ phC q < phC r := fun h => haf (Or.inl h)
      omega
    have z2 : (phC q == phC r) = true := by simpa using h2
    have h3 : ¬ pcmp (phP q) (phP r) < 0 := fun h => haf (Or.inr ⟨h2, h⟩)
    have z3 : decide (0 ≤ pcmp (phP q) (phP r)) = true := by rw [decide_eq_true_eq]; omega
    simp only [h1, decide_false, cond_false, z2, cond_true, z3])

theorem inv_put {pre m : List (List Dat)} {r : List Dat} {x : Int} (hx : mv m (phC r) = x) (h0 : 0 ≤ x) (h8 : x + 1 ≤ 8) (hp : ∀ q ∈ pre, pathV (phP q) = true) (hr : pathV (phP r) = true) (hz : ∀ c, phC r < c → mv m c = 0) : Inv (pre ++ [r]) (putC m (phC r)) (x + 1) := by
  refine ⟨by omega, h8, ?_, Or.inr ⟨pre, r, rfl, ?_, ?_⟩⟩
  · intro q hq
    rcases List.mem_append.1 hq with hq | hq
    · exact hp q hq
    · rw [List.mem_singleton.1 hq]; exact hr
  · unfold putC
    rw [mv_same, hx]
  · intro c hc
    unfold putC
    rw [mv_ne _ _ _ _ (by omega)]
    exact hz c hc

theorem bothPaths : ∀ (t pre m : List (List Dat)) (many : Int), (pre ++ t).length + 2 < 4611686018427387904 → (∀ r ∈ t, smB r) → Inv pre m many →
    ∃ b, SS (kP cols n1 n2 n3 stats m (pre ++ t) (pre.length : Int)) = some (.ret false [4] [.bool b] []) ∧ SS (kR cols n1 n2 n3 stats (pre ++ t) many (pre.length : Int)) = some (.ret false [4] [.bool b] [])
  | [], pre, m, many, hs, hm, inv => ⟨true, p10_250 _ _ _ _ _ _ _ _ _ _ (by simp only [lp1e, cond_false]), p11_250 _ _ _ _ _ _ _ _ (by simp only [lp1e, cond_false])⟩
  | r :: t, pre, m, many, hs, hm, inv => by
    have hmr := hm r (List.mem_cons_self ..)
    have hmt : ∀ x ∈ t, smB x := fun x hx => hm x (List.mem_cons_of_mem _ hx)
    cases hb : phRow cols n1 r with
    | false => exact ⟨false, pBad cols n1 n2 n3 stats pre t m r hb hmr, rBad cols n1 n2 n3 stats pre t r many hb⟩
    | true =>
      obtain ⟨i0, i8, ip, i3⟩ := inv
      rcases i3 with ⟨rfl, i4⟩ | ⟨pre', q, rfl, i4, i5⟩
      · have hx : mv m (phC r) = 0 := i4 _
        have inv' : Inv [r] (putC m (phC r)) 1 := inv_put (pre := []) hx (by omega) (by omega) (fun _ h => by cases h) (phRow_path hb) (fun c _ => i4 c)
        obtain ⟨b, q1, q2⟩ := bothPaths t [r] (putC m (phC r)) 1 (by simpa using hs) hmt inv'
        refine ⟨b, ?_, ?_⟩
        · refine pGood0 cols n1 n2 n3 stats t m r hb hmr (by omega) (by omega) ?_
          rw [hx, if_pos (by omega)]
          exact q1
        · refine rGood cols n1 n2 n3 stats [] t r many hb ?_
          refine r16_0 _ _ _ _ _ _ _ _ _ _ _ _ _ _ _ _ _ _ _ _ _ ?_
          refine r64 0 cols n1 n2 n3 stats _ 0 (by omega) (by omega) (by omega) ?_
          rw [if_pos (by omega)]
          exact q2
      · have hqv : pathV (phP q) = true := ip q (by simp)
        have hlen : (pre' ++ [q]).length = pre'.length + 1 := by simp
        have hl1 : pre'.length + 1 < (pre' ++ [q] ++ r :: t).length := by simp <;> omega
        have hg1 : (pre' ++ [q] ++ r :: t).getD pre'.length [] = q := by simp [List.getD_eq_getElem?_getD]
        have hg2 : (pre' ++ [q] ++ r :: t).getD (pre'.length + 1) [] = r := by
          have : (pre' ++ [q] ++ r :: t).getD (pre' ++ [q]).length [] = r := by simp [List.getD_eq_getElem?_getD]
          rw [hlen] at this
          exact this
        have hbig : pre'.length + 2 < 4611686018427387904 := by simp at hs; omega
        by_cases haf : afterB q (phC r) (phP r) = true
        · -- the count so far
          obtain ⟨x, hx, hx0, hx8, hxn, hz⟩ : ∃ x, mv m (phC r) = x ∧ 0 ≤ x ∧ x ≤ 8 ∧ (if phC q = phC r then many else 0) = x ∧ ∀ c, phC r < c → mv m c = 0 := by
            simp only [afterB, Bool.or_eq_true, Bool.and_eq_true, decide_eq_true_eq] at haf
            by_cases hc : phC q = phC r
            · exact ⟨many, by rw [← hc]; exact i4, i0, i8, by rw [if_pos hc], fun c h => i5 c (by omega)⟩
            · have : phC q < phC r := by rcases haf with h | h
                                         · exact h
                                         · exact absurd h.1 hc
              exact ⟨0, i5 _ this, by omega, by omega, by rw [if_neg hc], fun c h => i5 c (by omega)⟩
          by_cases h8 : x + 1 ≤ 8
          · have inv' : Inv (pre' ++ [q] ++ [r]) (putC m (phC r)) (x + 1) := inv_put hx hx0 h8 ip (phRow_path hb) hz
            obtain ⟨b, q1, q2⟩ := bothPaths t (pre' ++ [q] ++ [r]) (putC m (phC r)) (x + 1) (by simpa using hs) hmt inv'
            have hlen2 : (pre' ++ [q] ++ [r]).length = pre'.length + 2 := by simp
            rw [List.append_assoc (pre' ++ [q]), List.singleton_append, hlen2] at q1 q2
            refine ⟨b, ?_, ?_⟩
            · rw [hlen]
              refine pGoodS cols n1 n2 n3 stats _ m pre'.length q r hbig hl1 hg1 hg2 hb hmr hqv (by omega) (by omega) ?_
              rw [if_pos haf, hx, if_pos h8]
              exact q1
            · refine rGood cols n1 n2 n3 stats _ t r many hb ?_
              rw [hlen]
              refine r16_s _ _ _ _ _ _ _ _ _ _ _ _ _ _ _ _ _ _ _ _ _ pre'.length (by omega) (Nat.lt_of_succ_lt hl1) (by rw [hg1]; exact hqv) (phRow_path hb) ?_
              rw [hg1, if_pos haf, hxn]
              refine r64 x cols n1 n2 n3 stats _ (pre'.length + 1) (by omega) hx0 hx8 ?_
              rw [if_pos h8]
              exact q2
          · refine ⟨false, ?_, ?_⟩
            · rw [hlen]
              refine pGoodS cols n1 n2 n3 stats _ m pre'.length q r hbig hl1 hg1 hg2 hb hmr hqv (by omega) (by omega) ?_
              rw [if_pos haf, hx, if_neg h8]
            · refine rGood cols n1 n2 n3 stats _ t r many hb ?_
              rw [hlen]
              refine r16_s _ _ _ _ _ _ _ _ _ _ _ _ _ _ _ _ _ _ _ _ _ pre'.length (by omega) (Nat.lt_of_succ_lt hl1) (by rw [hg1]; exact hqv) (phRow_path hb) ?_
              rw [hg1, if_pos haf, hxn]
              refine r64 x cols n1 n2 n3 stats _ (pre'.length + 1) (by omega) hx0 hx8 ?_
              rw [if_neg h8]
        · -- the order is wrong
          have hmvr : 0 ≤ mv m (phC r) ∧ mv m (phC r) ≤ 8 ∨ True := Or.inr trivial
          refine ⟨false, ?_, ?_⟩
          · rw [hlen]
            exact pBadS cols n1 n2 n3 stats _ m pre'.length q r hbig hl1 hg1 hg2 hb hmr hqv haf
          · refine rGood cols n1 n2 n3 stats _ t r many hb ?_
            rw [hlen]
            refine r16_s _ _ _ _ _ _ _ _ _ _ _ _ _ _ _ _ _ _ _ _ _ pre'.length (by omega) (Nat.lt_of_succ_lt hl1) (by rw [hg1]; exact hqv) (phRow_path hb) ?_
            rw [hg1, if_neg haf]
end

/-- A head that is small enough to be counted. -/
def smH (cols stats paths : List (List Dat)) : Prop :=
  cols.length < 4611686018427387904 ∧ (∀ r ∈ cols, (dK r).length < 4611686018427387904) ∧ stats.length < 4611686018427387904 ∧ (∀ r ∈ stats, smA r) ∧ paths.length + 2 < 4611686018427387904 ∧ ∀ r ∈ paths, smB r

theorem bothValid (cols : List (List Dat)) (n1 n2 n3 : Int) (stats paths : List (List Dat)) (h : smH cols stats paths) :
    ∃ b, SS (.call 10 [.agg [.d (.lst 83 cols), .d (.int .i64 n1), .d (.int .i64 n2), .d (.int .i64 n3), .d (.lst 43 stats), .d (.lst 86 paths)]] []) = some (.ret false [4] [.bool b] []) ∧
      SS (.call 11 [.agg [.d (.lst 83 cols), .d (.int .i64 n1), .d (.int .i64 n2), .d (.int .i64 n3), .d (.lst 43 stats), .d (.lst 86 paths)]] []) = some (.ret false [4] [.bool b] []) := by
  obtain ⟨h1, h2, h3, h4, h5, h6⟩ := h
  cases hc : colsV cols with
  | false =>
    refine ⟨false, c10 _ _ _ _ _ _ ?_, c11 _ _ _ _ _ _ ?_⟩
    · simp only [s34 cols h1 h2, bindR0, rsb, hc, Bool.not_false, cond_true]
    · simp only [s38 cols h1, bindR0, rsb, hc, Bool.not_false, cond_true]
  | true =>
    by_cases hg : (n1 < 1 ∨ n1 > 64 ∨ n2 < 1 ∨ n3 < n2 ∨ n3 > 1000000000 ∨ stats.length ≠ cols.length)
    · refine ⟨false, c10 _ _ _ _ _ _ ?_, c11 _ _ _ _ _ _ ?_⟩
      · simp only [s34 cols h1 h2, bindR0, rsb, hc, Bool.not_true, cond_false]
        have e6 : ((stats.length : Int) != (cols.length : Int)) = decide (stats.length ≠ cols.length) := by rw [Bool.eq_iff_iff]; simp <;> omega
        rw [e6]
        by_cases g1 : n1 < 1
        · simp [g1]
        · by_cases g2 : n1 > 64
          · simp [g2]
          · by_cases g3 : n2 < 1
            · simp [g3]
            · by_cases g4 : n3 < n2
              · simp [g4]
              · by_cases g5 : n3 > 1000000000
                · simp [g5]
                · have g6 : stats.length ≠ cols.length := by
                    rcases hg with h | h | h | h | h | h
                    · exact absurd h g1
                    · exact absurd h g2
                    · exact absurd h g3
                    · exact absurd h g4
                    · exact absurd h g5
                    · exact h
                  simp only [g1, g2, g3, g4, g5, g6, decide_false, decide_true, cond_true, cond_false, ne_eq, not_false_eq_true]
      · simp only [s38 cols h1, bindR0, rsb, hc, Bool.not_true, cond_false]
        have e6 : ((stats.length : Int) != (cols.length : Int)) = decide (stats.length ≠ cols.length) := by rw [Bool.eq_iff_iff]; simp <;> omega
        rw [e6]
        by_cases g1 : n1 < 1
        · simp [g1]
        · by_cases g2 : n1 > 64
          · simp [g2]
          · by_cases g3 : n2 < 1
            · simp [g3]
            · by_cases g4 : n2 > n3
              · simp [g4]
              · by_cases g5 : n3 > 1000000000
                · simp [g5]
                · have g6 : stats.length ≠ cols.length := by
                    rcases hg with h | h | h | h | h | h
                    · exact absurd h g1
                    · exact absurd h g2
                    · exact absurd h g3
                    · exact absurd h (by omega)
                    · exact absurd h g5
                    · exact h
                  simp only [g1, g2, g3, g4, g5, g6, decide_false, decide_true, cond_true, cond_false, ne_eq, not_false_eq_true]
    · have hcs : stats.length = cols.length := by omega
      have e6 : ((stats.length : Int) != (cols.length : Int)) = false := by simp <;> omega
      have inv0 : Inv [] [] 0 := ⟨by omega, by omega, (fun _ h => (by cases h)), Or.inl ⟨rfl, fun c => rfl⟩⟩
      obtain ⟨b, q1, q2⟩ := bothPaths cols n1 n2 n3 stats paths [] [] 0 h5 h6 inv0
      have hall : cols.all tyOk = true := by
        simp only [colsV, Bool.and_eq_true] at hc
        exact hc.2.2.1
      have p1 := l10 cols n1 n2 n3 stats paths (b := b) q1 stats [] h3 hcs.symm h4
      have p2 := l11 cols n1 n2 n3 paths (b := b) hall stats [] q2 h3 hcs.symm
      refine ⟨statsL n1 stats cols && b, c10 _ _ _ _ _ _ ?_, c11 _ _ _ _ _ _ ?_⟩
      · have g1 : decide (n1 < 1) = false := by rw [decide_eq_false_iff_not]; omega
        have g2 : decide (n1 > 64) = false := by rw [decide_eq_false_iff_not]; omega
        have g3 : decide (n2 < 1) = false := by rw [decide_eq_false_iff_not]; omega
        have g4 : decide (n3 < n2) = false := by rw [decide_eq_false_iff_not]; omega
        have g5 : decide (n3 > 1000000000) = false := by rw [decide_eq_false_iff_not]; omega
        simp only [s34 cols h1 h2, bindR0, rsb, hc, Bool.not_true, cond_false, g1, g2, g3, g4, g5, e6]
        exact p1
      · have g1 : decide (n1 < 1) = false := by rw [decide_eq_false_iff_not]; omega
        have g2 : decide (n1 > 64) = false := by rw [decide_eq_false_iff_not]; omega
        have g3 : decide (n2 < 1) = false := by rw [decide_eq_false_iff_not]; omega
        have g4 : decide (n2 > n3) = false := by rw [decide_eq_false_iff_not]; omega
        have g5 : decide (n3 > 1000000000) = false := by rw [decide_eq_false_iff_not]; omega
        simp only [s38 cols h1, bindR0, rsb, hc, Bool.not_true, cond_false, g1, g2, g3, g4, g5, e6]
        exact p2

theorem s12 : SS (.call 12 [] []) = some (.ret false [4] [.bool true] []) := sem_of (B := tb) (n := 400) (by kernel_rfl)

/-- ZoneChecks says true. -/
theorem s3 (cols : List (List Dat)) (n1 n2 n3 : Int) (stats paths : List (List Dat)) (h : smH cols stats paths) :
    SS (.call 3 [.agg [.d (.lst 83 cols), .d (.int .i64 n1), .d (.int .i64 n2), .d (.int .i64 n3), .d (.lst 43 stats), .d (.lst 86 paths)]] []) = some (.ret false [4] [.bool true] []) := c3 _ _ _ _ _ _ (by
  obtain ⟨b, q1, q2⟩ := bothValid cols n1 n2 n3 stats paths h
  simp only [q1, q2, s12, bindR0, rsb]
  have z : (b == b) = true := by simp
  simp only [z, cond_true]
  by_cases hp : (paths.length : Int) > 200
  · simp only [hp, decide_true, cond_true]
  · simp only [hp, decide_false, cond_false])
end Go.Ab
end

/- Part 32 of the proof that this seat's laws lean on: an abstract machine over the model's code, its soundness, and what it says of this program. -/
import Derived.Test.YticeaojhadjaaaaGreatDoorAxZD

section
set_option linter.unusedSimpArgs false
/-! The zone of the law's expression. -/
set_option autoImplicit false
set_option linter.unusedVariables false
namespace Go.Ab

theorem icmp0 (a b : Int) : (icmp a b == 0) = decide (a = b) := by
  unfold icmp
  by_cases h : a < b
  · have : a ≠ b := by omega
    simp [h, this]
  · by_cases h2 : b < a
    · have : a ≠ b := by omega
      simp [h, h2, this]
    · have : a = b := by omega
      simp [this]
theorem icmpL (a b : Int) : decide (icmp a b < 0) = decide (a < b) := by
  unfold icmp
  by_cases h : a < b
  · simp [h]
  · by_cases h2 : b < a <;> simp [h, h2]
theorem icmpLE (a b : Int) : decide (icmp a b ≤ 0) = decide (a ≤ b) := by
  unfold icmp
  by_cases h : a < b
  · have : a ≤ b := by omega
    simp [h, this]
  · by_cases h2 : b < a
    · have : ¬ a ≤ b := by omega
      simp [h, h2, this]
    · have : a ≤ b := by omega
      simp [h, h2, this]
theorem icmpG (a b : Int) : decide (icmp a b > 0) = decide (a > b) := by
  unfold icmp
  by_cases h : a < b
  · have : ¬ a > b := by omega
    simp [h]; omega
  · by_cases h2 : b < a <;> simp [h, h2]
theorem icmpGE (a b : Int) : decide (icmp a b ≥ 0) = decide (a ≥ b) := by
  unfold icmp
  by_cases h : a < b
  · simp [h]
  · by_cases h2 : b < a
    · simp [h, h2]; omega
    · simp [h, h2]; omega
theorem ordI (a b : Int) : (intR a).ord (intR b) = icmp a b := by
  have : icmp 0 0 = 0 := rfl
  simp [Rw.ord, Rw.v, intR, ordP, V.k, V.n, V.t, V.items, ordPs, dvRs, orI, bcmp, this]
  intro h; exact h.symm
theorem ordT (a b : Bool) : (truthR a).ord (truthR b) = icmp (cond a 1 0) (cond b 1 0) := by
  have : icmp 0 0 = 0 := rfl
  simp [Rw.ord, Rw.v, truthR, ordP, V.k, V.n, V.t, V.items, ordPs, dvRs, orI, bcmp, this]
  intro h; exact h.symm

noncomputable def sx (low high : Int) : Sp := ⟨false, true, true, intR low, intR high⟩
theorem sx_ok (low high : Int) : (sx low high).ok := ⟨int_ok _, int_ok _⟩
theorem just_zn (b : Bool) : (justS (truthR b)).zn = ⟨b, !b, false⟩ := by
  have e : justS (truthR b) = ⟨false, true, true, truthR b, truthR b⟩ := rfl
  rw [e]
  unfold Sp.zn inS
  simp only [ordT]
  cases b <;> rfl
noncomputable def hx (low high : Int) : Hea := ⟨colsA, 3, 1, 3, [statR low high], []⟩
noncomputable def nx (op : List UInt8) (n : Int) : Nd := ⟨op, [], nullR, [], [colR, numR n]⟩
theorem hx_a (low high : Int) : (hx low high).a = headA low high := rfl
theorem nx_a (op : List UInt8) (n : Int) : (nx op n).a = opA op n := rfl
theorem kid0 (low high n : Int) : SS (.call 48 [.agg (hx low high).a, .agg (ndR ([colR, numR n].getD 0 [])).a] []) = some (.ret false [97] [(Th.val (sx low high)).d] []) :=
  look_col (hx low high) (ndR colR) rfl (by simp [hx, colsA]) 0 rfl (by simp [hx])
theorem kid1 (low high n : Int) : SS (.call 48 [.agg (hx low high).a, .agg (ndR ([colR, numR n].getD 1 [])).a] []) = some (.ret false [97] [(Th.val (sx n n)).d] []) :=
  look_const (hx low high) (ndR (numR n)) rfl

/-- What is looked at: one value, or truths. -/
theorem look_one (op : List UInt8) (low n : Int) (h1 : (op == [99, 111, 108]) = false) (h2 : (op == [99, 111, 110, 115, 116]) = false) (hg : (op == [103, 101, 116]) = false) (w : Rw)
    (hd : SS (.call 107 [.agg (nx op n).a, .d (.lst 32 [(intR low).d, (intR n).d])] []) = some (.ret false [32] w.d [])) :
    SS (.call 48 [.agg (hx low low).a, .agg (nx op n).a] []) = some (.ret false [97] [(Th.val (justS w)).d] []) := by
  rw [look_op (hx low low) (nx op n) h1 h2 hg]
  rw [look_step (hx low low) (nx op n) [] [] 0 (by simp [nx]) (.val (sx low low)) (sx_ok _ _) (by simp) (by simp) (by simp [nx]) (kid0 low low n)]
  rw [look_step (hx low low) (nx op n) _ _ 1 (by simp [nx]) (.val (sx n n)) (sx_ok _ _) (by simp [Th.sp, oneB, sx]; cases ((intR low).ord (intR low) == 0) <;> simp) (by simp) (by simp [nx]) (kid1 low low n)]
  have e1 : oneB (Th.val (sx low low)).sp = true := by simp [oneB, Th.sp, sx, ordI, icmp]
  have e2 : oneB (Th.val (sx n n)).sp = true := by simp [oneB, Th.sp, sx, ordI, icmp]
  rw [e1, e2]
  exact look_end1 (hx low low) (nx op n) [(intR low).d, (intR n).d] _ rfl w hd
theorem look_two (op : List UInt8) (low high n : Int) (h1 : (op == [99, 111, 108]) = false) (h2 : (op == [99, 111, 110, 115, 116]) = false) (hg : (op == [103, 101, 116]) = false) (hne : low ≠ high) (z : Zn)
    (hd : SS (.call 108 [.agg ((nx op n).a2 [.val (sx low high), .val (sx n n)])] []) = some (.ret false [45, 4] [.bool z.t, .bool z.f, .bool z.n, .bool true] [])) :
    SS (.call 48 [.agg (hx low high).a, .agg (nx op n).a] []) = some (.ret false [97] [(Th.tru z).d] []) := by
  rw [look_op (hx low high) (nx op n) h1 h2 hg]
  rw [look_step (hx low high) (nx op n) [] [] 0 (by simp [nx]) (.val (sx low high)) (sx_ok _ _) (by simp) (by simp) (by simp [nx]) (kid0 low high n)]
  rw [look_step (hx low high) (nx op n) _ _ 1 (by simp [nx]) (.val (sx n n)) (sx_ok _ _) (by simp [Th.sp, oneB, sx]; cases ((intR low).ord (intR high) == 0) <;> simp) (by simp) (by simp [nx]) (kid1 low high n)]
  have e1 : oneB (Th.val (sx low high)).sp = false := by
    show (!true || (!false && (true && ((intR low).ord (intR high) == 0)))) = false
    rw [ordI, icmp0]
    simpa using hne
  have e2 : oneB (Th.val (sx n n)).sp = true := by simp [oneB, Th.sp, sx, ordI, icmp]
  rw [e1, e2]
  exact look_end2 (hx low high) (nx op n) _ _ (by simp [nx]) z hd

/-- What zone.Zone gives, by what is looked at. -/
theorem s19x (op : List UInt8) (low high n : Int) (x : Th) (hx' : x.ok) (hc : SS (.call 46 [.agg (headA low high), .agg (opA op n)] []) = some (.ret false [47] [.int .i64 0] []))
    (hl : SS (.call 48 [.agg (hx low high).a, .agg (nx op n).a] []) = some (.ret false [97] [x.d] [])) :
    SS (.call 19 [.agg (headA low high), .agg (opA op n)] []) = some (.ret false [45, 47] [.bool x.zn.t, .bool x.zn.f, .bool x.zn.n, .int .i64 0] []) := by
  have q := s47 x hx'
  rw [hx_a, nx_a] at hl
  unfold headA opA at *
  rw [e19, hc, bindR0]
  show bindR _ _ _ _ _ _ _ (SS _) = _
  rw [hl, bindR0]
  show bindR _ _ _ _ _ _ _ (SS (Key.call 47 [AV.d x.d] [])) = _
  rw [q, bindR0]
  rfl

theorem zeq (low high n : Int) (hne : low ≠ high) (hle : low ≤ high) : eqZ (sx low high) (sx n n) = ⟨zT 0 low high n, zF 0 low high n, false⟩ := by
  have hk : (intR low).k = 2 ∧ (intR high).k = 2 ∧ (intR n).k = 2 := ⟨rfl, rfl, rfl⟩
  unfold eqZ zT zF
  simp only [sx, ordI, icmp0, icmpL, hk.1, hk.2.1, hk.2.2, Bool.not_true, Bool.or_false, Bool.false_or, cond_false, cond_true, bne_self_eq_false, if_neg hne, decT, decF, Int.reduceGT, decide_false, decide_not]
  simp [hne]
theorem zoneeq (low high n : Int) (h1 : -1000000000000 ≤ low) (h2 : low ≤ high) (h3 : high ≤ 1000000000000) (h4 : -1000000000000 ≤ n) (h5 : n ≤ 1000000000000) :
    SS (.call 19 [.agg (headA low high), .agg (opA [101, 113] n)] []) = some (.ret false [45, 47] [.bool (zT 0 low high n), .bool (zF 0 low high n), .bool false, .int .i64 0] []) := by
  have hc := s46eq low high n h1 h2 h3 h4 h5
  by_cases hne : low = high
  · subst hne
    have hl := look_one [101, 113] low n rfl rfl rfl _ (s107eq (nx [101, 113] n) rfl (intR low) (intR n) (int_ok _) (int_ok _))
    have e : cmpD true (fun c => c == 0) (intR low) (intR n) = truthR (tOp 0 low n) := by
      show truthR _ = _
      simp only [ordI, icmp0]
      rfl
    rw [e] at hl
    have r := s19x [101, 113] low low n (.val (justS (truthR (tOp 0 low n)))) ⟨truth_ok _, truth_ok _⟩ hc hl
    rw [r]
    show some (Res.ret false [45, 47] [.bool (justS (truthR (tOp 0 low n))).zn.t, .bool (justS (truthR (tOp 0 low n))).zn.f, .bool (justS (truthR (tOp 0 low n))).zn.n, .int .i64 0] []) = _
    rw [just_zn]
    simp [zT, zF]
  · have hl := look_two [101, 113] low high n rfl rfl rfl hne _ (s108eq (nx [101, 113] n) rfl (.val (sx low high)) (.val (sx n n)) (sx_ok _ _) (sx_ok _ _))
    have r := s19x [101, 113] low high n (.tru (eqZ (sx low high) (sx n n))) trivial hc hl
    rw [r]
    show some (Res.ret false [45, 47] [.bool (eqZ (sx low high) (sx n n)).t, .bool (eqZ (sx low high) (sx n n)).f, .bool (eqZ (sx low high) (sx n n)).n, .int .i64 0] []) = _
    rw [zeq low high n hne h2]

theorem zlt (low high n : Int) (hne : low ≠ high) (hle : low ≤ high) : ltZ (sx low high) (sx n n) false = ⟨zT 1 low high n, zF 1 low high n, false⟩ := by
  have hk : (intR low).k = 2 ∧ (intR high).k = 2 ∧ (intR n).k = 2 := ⟨rfl, rfl, rfl⟩
  unfold ltZ zT zF
  simp only [sx, ordI, icmp0, icmpL, hk.1, hk.2.1, hk.2.2, Bool.not_true, Bool.or_false, Bool.false_or, cond_false, cond_true, bne_self_eq_false, if_neg hne, decT, decF, Int.reduceGT, decide_false, decide_not]
theorem zonelt (low high n : Int) (h1 : -1000000000000 ≤ low) (h2 : low ≤ high) (h3 : high ≤ 1000000000000) (h4 : -1000000000000 ≤ n) (h5 : n ≤ 1000000000000) :
    SS (.call 19 [.agg (headA low high), .agg (opA [108, 116] n)] []) = some (.ret false [45, 47] [.bool (zT 1 low high n), .bool (zF 1 low high n), .bool false, .int .i64 0] []) := by
  have hc := s46lt low high n h1 h2 h3 h4 h5
  by_cases hne : low = high
  · subst hne
    have hl := look_one [108, 116] low n rfl rfl rfl _ (s107lt (nx [108, 116] n) rfl (intR low) (intR n) (int_ok _) (int_ok _))
    have e : cmpD false (fun c => decide (c < 0)) (intR low) (intR n) = truthR (tOp 1 low n) := by
      show truthR _ = _
      simp only [ordI, icmpL]
      rfl
    rw [e] at hl
    have r := s19x [108, 116] low low n (.val (justS (truthR (tOp 1 low n)))) ⟨truth_ok _, truth_ok _⟩ hc hl
    rw [r]
    show some (Res.ret false [45, 47] [.bool (justS (truthR (tOp 1 low n))).zn.t, .bool (justS (truthR (tOp 1 low n))).zn.f, .bool (justS (truthR (tOp 1 low n))).zn.n, .int .i64 0] []) = _
    rw [just_zn]
    simp [zT, zF]
  · have hl := look_two [108, 116] low high n rfl rfl rfl hne _ (s108lt (nx [108, 116] n) rfl (.val (sx low high)) (.val (sx n n)) (sx_ok _ _) (sx_ok _ _))
    have r := s19x [108, 116] low high n (.tru (ltZ (sx low high) (sx n n) false)) trivial hc hl
    rw [r]
    show some (Res.ret false [45, 47] [.bool (ltZ (sx low high) (sx n n) false).t, .bool (ltZ (sx low high) (sx n n) false).f, .bool (ltZ (sx low high) (sx n n) false).n, .int .i64 0] []) = _
    rw [zlt low high n hne h2]

theorem zle (low high n : Int) (hne : low ≠ high) (hle : low ≤ high) : ltZ (sx low high) (sx n n) true = ⟨zT 2 low high n, zF 2 low high n, false⟩ := by
  have hk : (intR low).k = 2 ∧ (intR high).k = 2 ∧ (intR n).k = 2 := ⟨rfl, rfl, rfl⟩
  unfold ltZ zT zF
  simp only [sx, ordI, icmp0, icmpL, hk.1, hk.2.1, hk.2.2, Bool.not_true, Bool.or_false, Bool.false_or, cond_false, cond_true, bne_self_eq_false, if_neg hne, decT, decF, Int.reduceGT, decide_false, decide_not]
theorem zonele (low high n : Int) (h1 : -1000000000000 ≤ low) (h2 : low ≤ high) (h3 : high ≤ 1000000000000) (h4 : -1000000000000 ≤ n) (h5 : n ≤ 1000000000000) :
    SS (.call 19 [.agg (headA low high), .agg (opA [108, 101] n)] []) = some (.ret false [45, 47] [.bool (zT 2 low high n), .bool (zF 2 low high n), .bool false, .int .i64 0] []) := by
  have hc := s46le low high n h1 h2 h3 h4 h5
  by_cases hne : low = high
  · subst hne
    have hl := look_one [108, 101] low n rfl rfl rfl _ (s107le (nx [108, 101] n) rfl (intR low) (intR n) (int_ok _) (int_ok _))
    have e : cmpD false (fun c => decide (c ≤ 0)) (intR low) (intR n) = truthR (tOp 2 low n) := by
      show truthR _ = _
      simp only [ordI, icmpLE]
      rfl
    rw [e] at hl
    have r := s19x [108, 101] low low n (.val (justS (truthR (tOp 2 low n)))) ⟨truth_ok _, truth_ok _⟩ hc hl
    rw [r]
    show some (Res.ret false [45, 47] [.bool (justS (truthR (tOp 2 low n))).zn.t, .bool (justS (truthR (tOp 2 low n))).zn.f, .bool (justS (truthR (tOp 2 low n))).zn.n, .int .i64 0] []) = _
    rw [just_zn]
    simp [zT, zF]
  · have hl := look_two [108, 101] low high n rfl rfl rfl hne _ (s108le (nx [108, 101] n) rfl (.val (sx low high)) (.val (sx n n)) (sx_ok _ _) (sx_ok _ _))
    have r := s19x [108, 101] low high n (.tru (ltZ (sx low high) (sx n n) true)) trivial hc hl
    rw [r]
    show some (Res.ret false [45, 47] [.bool (ltZ (sx low high) (sx n n) true).t, .bool (ltZ (sx low high) (sx n n) true).f, .bool (ltZ (sx low high) (sx n n) true).n, .int .i64 0] []) = _
    rw [zle low high n hne h2]

theorem zgt (low high n : Int) (hne : low ≠ high) (hle : low ≤ high) : ltZ (sx n n) (sx low high) false = ⟨zT 3 low high n, zF 3 low high n, false⟩ := by
  have hk : (intR low).k = 2 ∧ (intR high).k = 2 ∧ (intR n).k = 2 := ⟨rfl, rfl, rfl⟩
  unfold ltZ zT zF
  simp only [sx, ordI, icmp0, icmpL, hk.1, hk.2.1, hk.2.2, Bool.not_true, Bool.or_false, Bool.false_or, cond_false, cond_true, bne_self_eq_false, if_neg hne, decT, decF, Int.reduceGT, decide_false, decide_not]
theorem zonegt (low high n : Int) (h1 : -1000000000000 ≤ low) (h2 : low ≤ high) (h3 : high ≤ 1000000000000) (h4 : -1000000000000 ≤ n) (h5 : n ≤ 1000000000000) :
    SS (.call 19 [.agg (headA low high), .agg (opA [103, 116] n)] []) = some (.ret false [45, 47] [.bool (zT 3 low high n), .bool (zF 3 low high n), .bool false, .int .i64 0] []) := by
  have hc := s46gt low high n h1 h2 h3 h4 h5
  by_cases hne : low = high
  · subst hne
    have hl := look_one [103, 116] low n rfl rfl rfl _ (s107gt (nx [103, 116] n) rfl (intR low) (intR n) (int_ok _) (int_ok _))
    have e : cmpD false (fun c => decide (c > 0)) (intR low) (intR n) = truthR (tOp 3 low n) := by
      show truthR _ = _
      simp only [ordI, icmpG]
      rfl
    rw [e] at hl
    have r := s19x [103, 116] low low n (.val (justS (truthR (tOp 3 low n)))) ⟨truth_ok _, truth_ok _⟩ hc hl
    rw [r]
    show some (Res.ret false [45, 47] [.bool (justS (truthR (tOp 3 low n))).zn.t, .bool (justS (truthR (tOp 3 low n))).zn.f, .bool (justS (truthR (tOp 3 low n))).zn.n, .int .i64 0] []) = _
    rw [just_zn]
    simp [zT, zF]
  · have hl := look_two [103, 116] low high n rfl rfl rfl hne _ (s108gt (nx [103, 116] n) rfl (.val (sx low high)) (.val (sx n n)) (sx_ok _ _) (sx_ok _ _))
    have r := s19x [103, 116] low high n (.tru (ltZ (sx n n) (sx low high) false)) trivial hc hl
    rw [r]
    show some (Res.ret false [45, 47] [.bool (ltZ (sx n n) (sx low high) false).t, .bool (ltZ (sx n n) (sx low high) false).f, .bool (ltZ (sx n n) (sx low high) false).n, .int .i64 0] []) = _
    rw [zgt low high n hne h2]

theorem zge (low high n : Int) (hne : low ≠ high) (hle : low ≤ high) : ltZ (sx n n) (sx low high) true = ⟨zT 4 low high n, zF 4 low high n, false⟩ := by
  have hk : (intR low).k = 2 ∧ (intR high).k = 2 ∧ (intR n).k = 2 := ⟨rfl, rfl, rfl⟩
  unfold ltZ zT zF
  simp only [sx, ordI, icmp0, icmpL, hk.1, hk.2.1, hk.2.2, Bool.not_true, Bool.or_false, Bool.false_or, cond_false, cond_true, bne_self_eq_false, if_neg hne, decT, decF, Int.reduceGT, decide_false, decide_not]
theorem zonege (low high n : Int) (h1 : -1000000000000 ≤ low) (h2 : low ≤ high) (h3 : high ≤ 1000000000000) (h4 : -1000000000000 ≤ n) (h5 : n ≤ 1000000000000) :
    SS (.call 19 [.agg (headA low high), .agg (opA [103, 101] n)] []) = some (.ret false [45, 47] [.bool (zT 4 low high n), .bool (zF 4 low high n), .bool false, .int .i64 0] []) := by
  have hc := s46ge low high n h1 h2 h3 h4 h5
  by_cases hne : low = high
  · subst hne
    have hl := look_one [103, 101] low n rfl rfl rfl _ (s107ge (nx [103, 101] n) rfl (intR low) (intR n) (int_ok _) (int_ok _))
    have e : cmpD false (fun c => decide (c ≥ 0)) (intR low) (intR n) = truthR (tOp 4 low n) := by
      show truthR _ = _
      simp only [ordI, icmpGE]
      rfl
    rw [e] at hl
    have r := s19x [103, 101] low low n (.val (justS (truthR (tOp 4 low n)))) ⟨truth_ok _, truth_ok _⟩ hc hl
    rw [r]
    show some (Res.ret false [45, 47] [.bool (justS (truthR (tOp 4 low n))).zn.t, .bool (justS (truthR (tOp 4 low n))).zn.f, .bool (justS (truthR (tOp 4 low n))).zn.n, .int .i64 0] []) = _
    rw [just_zn]
    simp [zT, zF]
  · have hl := look_two [103, 101] low high n rfl rfl rfl hne _ (s108ge (nx [103, 101] n) rfl (.val (sx low high)) (.val (sx n n)) (sx_ok _ _) (sx_ok _ _))
    have r := s19x [103, 101] low high n (.tru (ltZ (sx n n) (sx low high) true)) trivial hc hl
    rw [r]
    show some (Res.ret false [45, 47] [.bool (ltZ (sx n n) (sx low high) true).t, .bool (ltZ (sx n n) (sx low high) true).f, .bool (ltZ (sx n n) (sx low high) true).n, .int .i64 0] []) = _
    rw [zge low high n hne h2]
end Go.Ab
end

section
set_option linter.unusedSimpArgs false
/-! The law ZoneExact gives true. -/
set_option autoImplicit false
set_option linter.unusedVariables false
namespace Go.Ab

noncomputable def kL (op : List UInt8) (low high n i : Int) (a b : Bool) : Key := .pt 4 [] 4090 { tmps := [(9, .d (.int .i64 high)), (11, .ptr 1011 0), (12, .ptr 1012 0), (13, .ptr 1013 0), (14, .d (.int .i64 i))], boxes := [(1011, opA op n), (1012, headA low high), (1013, [.d (.bool a), .d (.bool b), .d (.bool false)])] }

theorem loop4 (op : List UInt8) (low high n : Int) (p : Int → Bool) (h18 : ∀ i, SS (.call 18 [.d (.lst 83 colsA), .d (.lst 32 [(intR i).d]), .agg (opA op n)] []) = some (.ret false [32] (truthR (p i)).d []))
    (hlow : -1000000000000 ≤ low) (hh : high ≤ 1000000000000) : ∀ (m : Nat) (i : Int) (a b : Bool), low ≤ i → high + 1 = i + m →
    SS (kL op low high n i a b) = SS (kL op low high n (high + 1) (a || anyI p i m) (b || anyI (fun i => !(p i)) i m))
  | 0, i, a, b, hi, h => by
    have : i = high + 1 := by omega
    subst this
    simp [anyI]
  | m + 1, i, a, b, hi, h => by
    have ih := fun a b => loop4 op low high n p h18 hlow hh m (i + 1) a b (by omega) (by omega)
    have g : decide (i ≤ high) = true := by rw [decide_eq_true_eq]; omega
    have gw : IntKind.i64.wrap (i + 1) = i + 1 := wrap64 (by omega) (by omega)
    have q := h18 i
    have e1 : ∀ a b : Bool, (a || anyI p i (m + 1)) = ((a || p i) || anyI p (i + 1) m) := fun a b => by rw [anyI, Bool.or_assoc]
    have e2 : ∀ b : Bool, (b || anyI (fun i => !(p i)) i (m + 1)) = ((b || !(p i)) || anyI (fun i => !(p i)) (i + 1) m) := fun b => by rw [anyI, Bool.or_assoc]
    rw [e1 a b, e2, ← ih]
    unfold kL opA headA at *
    rw [p4_4090, g, cond_true, s17, bindR0]
    show bindR _ _ _ _ _ _ _ (SS (Key.call 18 [AV.d (Dat.lst 83 colsA), AV.d (Dat.lst 32 [(intR i).d]), _] [])) = _
    rw [q, bindR0, gw]
    cases a <;> cases b <;> cases p i <;> rfl

theorem end4 (op : List UInt8) (low high n : Int) (a b : Bool)
    (hz : SS (.call 19 [.agg (headA low high), .agg (opA op n)] []) = some (.ret false [45, 47] [.bool a, .bool b, .bool false, .int .i64 0] [])) :
    SS (kL op low high n (high + 1) a b) = some (.ret false [4] [.bool true] []) := by
  have g : decide (high + 1 ≤ high) = false := by rw [decide_eq_false_iff_not]; omega
  unfold kL opA headA at *
  rw [p4_4090, g, cond_false, hz, bindR0, s12]
  cases a <;> cases b <;> rfl

/-- What the law has done ahead of its loop. -/
theorem law4 (op : List UInt8) (k : Nat) (low n : Int) (w : Nat) (hw : w ≤ 29)
    (h18 : ∀ i, SS (.call 18 [.d (.lst 83 colsA), .d (.lst 32 [(intR i).d]), .agg (opA op n)] []) = some (.ret false [32] (truthR (tOp k i n)).d []))
    (hlow : -1000000000000 ≤ low) (hh : low + w ≤ 1000000000000)
    (hz : SS (.call 19 [.agg (headA low (low + w)), .agg (opA op n)] []) = some (.ret false [45, 47] [.bool (zT k low (low + w) n), .bool (zF k low (low + w) n), .bool false, .int .i64 0] [])) :
    SS (kL op low (low + w) n low false false) = some (.ret false [4] [.bool true] []) := by
  rw [loop4 op low (low + w) n (fun i => tOp k i n) h18 hlow hh (w + 1) low false false (Int.le_refl _) (by omega), Bool.false_or, Bool.false_or, exact_t, exact_f]
  exact end4 op low (low + w) n _ _ hz

theorem ofeq (n i : Int) : SS (.call 18 [.d (.lst 83 colsA), .d (.lst 32 [(intR i).d]), .agg (opA [101, 113] n)] []) = some (.ret false [32] (truthR (tOp 0 i n)).d []) := by
  have e : cmpRw [101, 113] 2 2 (icmp i n) = truthR (tOp 0 i n) := by
    show truthR _ = truthR _
    rw [icmp0]
    rfl
  rw [← e]
  exact s18A [101, 113] i n _ rfl rfl (s45eq i n)

theorem oflt (n i : Int) : SS (.call 18 [.d (.lst 83 colsA), .d (.lst 32 [(intR i).d]), .agg (opA [108, 116] n)] []) = some (.ret false [32] (truthR (tOp 1 i n)).d []) := by
  have e : cmpRw [108, 116] 2 2 (icmp i n) = truthR (tOp 1 i n) := by
    show truthR _ = truthR _
    rw [icmpL]
    rfl
  rw [← e]
  exact s18A [108, 116] i n _ rfl rfl (s45lt i n)

theorem ofle (n i : Int) : SS (.call 18 [.d (.lst 83 colsA), .d (.lst 32 [(intR i).d]), .agg (opA [108, 101] n)] []) = some (.ret false [32] (truthR (tOp 2 i n)).d []) := by
  have e : cmpRw [108, 101] 2 2 (icmp i n) = truthR (tOp 2 i n) := by
    show truthR _ = truthR _
    rw [icmpLE]
    rfl
  rw [← e]
  exact s18A [108, 101] i n _ rfl rfl (s45le i n)

theorem ofgt (n i : Int) : SS (.call 18 [.d (.lst 83 colsA), .d (.lst 32 [(intR i).d]), .agg (opA [103, 116] n)] []) = some (.ret false [32] (truthR (tOp 3 i n)).d []) := by
  have e : cmpRw [103, 116] 2 2 (icmp i n) = truthR (tOp 3 i n) := by
    show truthR _ = truthR _
    rw [icmpG]
    rfl
  rw [← e]
  exact s18A [103, 116] i n _ rfl rfl (s45gt i n)

theorem ofge (n i : Int) : SS (.call 18 [.d (.lst 83 colsA), .d (.lst 32 [(intR i).d]), .agg (opA [103, 101] n)] []) = some (.ret false [32] (truthR (tOp 4 i n)).d []) := by
  have e : cmpRw [103, 101] 2 2 (icmp i n) = truthR (tOp 4 i n) := by
    show truthR _ = truthR _
    rw [icmpGE]
    rfl
  rw [← e]
  exact s18A [103, 101] i n _ rfl rfl (s45ge i n)

theorem cond_pos {α : Type} {b : Bool} {x y : α} (h : b = true) : cond b x y = x := by rw [h]; rfl
theorem zone_exact (low n1 n2 n : Int) (a1 : 0 ≤ n1) (b1 : n1 ≤ 255) (a2 : 0 ≤ n2) (b2 : n2 ≤ 255) (hl1 : -9223372036854775808 ≤ low) (hl2 : low < 9223372036854775808) :
    SS (.call 4 [.d (.int .i64 low), .d (.int .u8 n1), .d (.int .u8 n2), .d (.int .i64 n)] []) = some (.ret false [4] [.bool true] []) := by
  have w1 : IntKind.i64.wrap n1 = n1 := wrap64 (by omega) (by omega)
  have w2 : IntKind.i64.wrap n2 = n2 := wrap64 (by omega) (by omega)
  obtain ⟨w, hw, hw2⟩ : ∃ w : Nat, n1.tmod 30 = (w : Int) ∧ w ≤ 29 := by
    refine ⟨(n1.tmod 30).toNat, ?_, ?_⟩
    · have := Int.tmod_nonneg 30 a1; omega
    · have := Int.tmod_lt_of_pos n1 (show (0 : Int) < 30 by omega); omega
  rw [e4, w1, w2, hw, s12]
  by_cases c1 : low < -1000000000000
  · simp only [c1, decide_true, cond_true, bindR0]; rfl
  · by_cases c2 : IntKind.i64.wrap (low + w) > 1000000000000
    · simp only [c1, c2, decide_true, decide_false, cond_true, cond_false, bindR0]; rfl
    · by_cases c3 : IntKind.i64.wrap (low + w) < low
      · simp only [c1, c2, c3, decide_true, decide_false, cond_true, cond_false, bindR0]; rfl
      · by_cases c4 : n < -1000000000000
        · simp only [c1, c2, c3, c4, decide_true, decide_false, cond_true, cond_false, bindR0]; rfl
        · by_cases c5 : n > 1000000000000
          · simp only [c1, c2, c3, c4, c5, decide_true, decide_false, cond_true, cond_false, bindR0]; rfl
          · have hwr : IntKind.i64.wrap (low + w) = low + w := by
              by_cases hb : low + w < 9223372036854775808
              · exact wrap64 (by omega) hb
              · exfalso
                have : IntKind.i64.wrap (low + w) = low + w - 18446744073709551616 := by
                  simp only [Go.IntKind.wrap, Go.IntKind.signed, Go.IntKind.bits]
                  simp
                  omega
                omega
            rw [hwr] at c2 c3 ⊢
            simp only [c1, c2, c3, c4, c5, decide_false, cond_false]
            have hn : (n2.tmod 5 = 0 ∨ n2.tmod 5 = 1 ∨ n2.tmod 5 = 2 ∨ n2.tmod 5 = 3 ∨ n2.tmod 5 = 4) := by
              have := Int.tmod_nonneg 5 a2
              have := Int.tmod_lt_of_pos n2 (show (0 : Int) < 5 by omega)
              omega
            rcases hn with h | h | h | h | h
            · rw [h]
              refine (cond_pos rfl).trans ?_
              rw [e14, bindR0, s15, bindR0]
              show bindR _ _ _ _ _ _ _ (SS (Key.call 13 [AV.d (Dat.str [101, 113]), AV.d (Dat.lst 36 [colR, numR n])] [])) = _
              rw [s13, bindR0, s16, bindR0, s17 low, bindR0, s17 (low + w), bindR0]
              exact law4 [101, 113] 0 low n w hw2 (ofeq n) (by omega) (by omega) (zoneeq low (low + w) n (by omega) (by omega) (by omega) (by omega) (by omega))
            · rw [h]
              refine (cond_pos rfl).trans ?_
              rw [e14, bindR0, s15, bindR0]
              show bindR _ _ _ _ _ _ _ (SS (Key.call 13 [AV.d (Dat.str [108, 116]), AV.d (Dat.lst 36 [colR, numR n])] [])) = _
              rw [s13, bindR0, s16, bindR0, s17 low, bindR0, s17 (low + w), bindR0]
              exact law4 [108, 116] 1 low n w hw2 (oflt n) (by omega) (by omega) (zonelt low (low + w) n (by omega) (by omega) (by omega) (by omega) (by omega))
            · rw [h]
              refine (cond_pos rfl).trans ?_
              rw [e14, bindR0, s15, bindR0]
              show bindR _ _ _ _ _ _ _ (SS (Key.call 13 [AV.d (Dat.str [108, 101]), AV.d (Dat.lst 36 [colR, numR n])] [])) = _
              rw [s13, bindR0, s16, bindR0, s17 low, bindR0, s17 (low + w), bindR0]
              exact law4 [108, 101] 2 low n w hw2 (ofle n) (by omega) (by omega) (zonele low (low + w) n (by omega) (by omega) (by omega) (by omega) (by omega))
            · rw [h]
              refine (cond_pos rfl).trans ?_
              rw [e14, bindR0, s15, bindR0]
              show bindR _ _ _ _ _ _ _ (SS (Key.call 13 [AV.d (Dat.str [103, 116]), AV.d (Dat.lst 36 [colR, numR n])] [])) = _
              rw [s13, bindR0, s16, bindR0, s17 low, bindR0, s17 (low + w), bindR0]
              exact law4 [103, 116] 3 low n w hw2 (ofgt n) (by omega) (by omega) (zonegt low (low + w) n (by omega) (by omega) (by omega) (by omega) (by omega))
            · rw [h]
              refine (cond_pos rfl).trans ?_
              rw [e14, bindR0, s15, bindR0]
              show bindR _ _ _ _ _ _ _ (SS (Key.call 13 [AV.d (Dat.str [103, 101]), AV.d (Dat.lst 36 [colR, numR n])] [])) = _
              rw [s13, bindR0, s16, bindR0, s17 low, bindR0, s17 (low + w), bindR0]
              exact law4 [103, 101] 4 low n w hw2 (ofge n) (by omega) (by omega) (zonege low (low + w) n (by omega) (by omega) (by omega) (by omega) (by omega))
end Go.Ab
end

/- Part 29 of the proof that this seat's laws lean on: an abstract machine over the model's code, its soundness, and what it says of this program. -/
import Derived.Test.YticeaojhadjaaaaGreatDoorAxO
import Derived.Test.YticeaojhadjaaaaGreatDoorAxP
import Derived.Test.YticeaojhadjaaaaGreatDoorAxY
import Derived.Test.YticeaojhadjaaaaGreatDoorAxZA
import Derived.Test.YticeaojhadjaaaaGreatDoorAxZB

section
set_option linter.unusedSimpArgs false
/-! Lemmas for evaluation by simp; values told; the law's helpers. -/
set_option autoImplicit false
set_option linter.unusedVariables false
namespace Go.Ab

theorem ci0 : ((0 : Nat) : Int) = 0 := rfl
theorem ci1 : ((1 : Nat) : Int) = 1 := rfl
theorem ci2 : ((2 : Nat) : Int) = 2 := rfl
theorem ci3 : ((3 : Nat) : Int) = 3 := rfl
theorem tn0 : (0 : Int).toNat = 0 := rfl
theorem tn1 : (1 : Int).toNat = 1 := rfl
theorem tn2 : (2 : Int).toNat = 2 := rfl
theorem wr1 : IntKind.i64.wrap (0 + 1) = 1 := by decide
theorem wr2 : IntKind.i64.wrap (1 + 1) = 2 := by decide
theorem wr3 : IntKind.i64.wrap (2 + 1) = 3 := by decide
theorem nbq (n : Nat) : Nat.beq n n = true := Nat.beq_refl n
theorem cond_cg {α : Type} {a b : Bool} {x y : α} (h : a = b) : cond a x y = cond b x y := by rw [h]
theorem bindR_cg {R : Type} {fail : R} {ow : Bool} {ts : List TypeId} {olds : List (List AV)} {kp : Dat → R} {k : List Dat → List (List (Dat × Bool)) → R} {a b : Option Res} (h : a = b) : bindR R fail ow ts olds kp k a = bindR R fail ow ts olds kp k b := by rw [h]
theorem cond2 {α : Type} {b : Bool} {x x' y y' : α} (h1 : x = x') (h2 : y = y') : cond b x y = cond b x' y' := by rw [h1, h2]
theorem decT {p : Prop} {h : Decidable p} (hp : p) : @decide p h = true := by simpa using hp
theorem decF {p : Prop} {h : Decidable p} (hp : ¬ p) : @decide p h = false := by simpa using hp
theorem dat_b (b : Bool) : (Dat.bool b).b = b := rfl

/-- A value's cells. -/
structure Rw where
  k : Int
  n : Int
  t : List UInt8
  l : List (List Dat)
  ks : List (List Dat)
noncomputable def Rw.d (r : Rw) : List Dat := [.int .i64 r.k, .int .i64 r.n, .str r.t, .lst 32 r.l, .lst 9 r.ks]
noncomputable def Rw.a (r : Rw) : List AV := [.d (.int .i64 r.k), .d (.int .i64 r.n), .d (.str r.t), .d (.lst 32 r.l), .d (.lst 9 r.ks)]
noncomputable def Rw.v (r : Rw) : V := .mk r.k r.n r.t (dvRs r.l) (dKs r.ks)
def nullR : Rw := ⟨0, 0, [], [], []⟩
def truthR (b : Bool) : Rw := ⟨1, cond b 1 0, [], [], []⟩
def intR (n : Int) : Rw := ⟨2, n, [], [], []⟩
def textR (s : List UInt8) : Rw := ⟨3, 0, s, [], []⟩

theorem s85 (b : Bool) : SS (.call 85 [.d (.bool b)] []) = some (.ret false [32] (truthR b).d []) := by rw [e85]; cases b <;> rfl
theorem s101 (b : Bool) : SS (.call 101 [.d (.bool b)] []) = some (.ret false [32] (truthR b).d []) := by rw [e101]; cases b <;> rfl

/-- What a comparison is, by the kinds and the order. -/
def cmpRw (op : List UInt8) (k k' c : Int) : Rw :=
  cond (k == 0) nullR <| cond (k' == 0) nullR <| cond (op == [101, 113]) (truthR (c == 0)) <| cond (op == [110, 101]) (truthR (c != 0)) <|
  cond (k != k') nullR <| cond (k == 4) nullR <| cond (k == 5) nullR <| cond (op == [108, 116]) (truthR (decide (c < 0))) <| cond (op == [108, 101]) (truthR (decide (c ≤ 0))) <|
  cond (op == [103, 116]) (truthR (decide (c > 0))) (truthR (decide (c ≥ 0)))
theorem resW {b : Bool} {x y : Rw} : some (Res.ret false [32] (cond b x y).d []) = cond b (some (Res.ret false [32] x.d [])) (some (Res.ret false [32] y.d [])) := by cases b <;> rfl

theorem s88 (op : List UInt8) (k n : Int) (t : List UInt8) (l3 l4 : List (List Dat)) (k' n' : Int) (t' : List UInt8) (l3' l4' : List (List Dat)) (c : Int)
    (h : SS (.call 30 [.agg [.d (.int .i64 k), .d (.int .i64 n), .d (.str t), .d (.lst 32 l3), .d (.lst 9 l4)], .agg [.d (.int .i64 k'), .d (.int .i64 n'), .d (.str t'), .d (.lst 32 l3'), .d (.lst 9 l4')]] []) = some (.ret false [3] [.int .i64 c] [])) :
    SS (.call 88 [.d (.str op), .agg [.d (.int .i64 k), .d (.int .i64 n), .d (.str t), .d (.lst 32 l3), .d (.lst 9 l4)], .agg [.d (.int .i64 k'), .d (.int .i64 n'), .d (.str t'), .d (.lst 32 l3'), .d (.lst 9 l4')]] []) = some (.ret false [32] (cmpRw op k k' c).d []) := by
  rw [e88, h, e81]
  unfold cmpRw
  simp only [bindR0, s85, resW, rsi]
  repeat' (refine cond2 ?_ ?_)
  all_goals rfl

theorem s13 (s : List UInt8) (l : List (List Dat)) : SS (Key.call 13 [AV.d (Dat.str s), AV.d (Dat.lst 36 l)] []) =
  some (Res.ret false [36] [Dat.str s, Dat.str [], Dat.int IntKind.i64 0, Dat.int IntKind.i64 0, Dat.str [], Dat.lst 32 [], Dat.lst 9 [], Dat.lst 119 [], Dat.lst 36 l] []) := e13 s l
theorem s17 (n : Int) : SS (Key.call 17 [AV.d (Dat.int IntKind.i64 n)] []) = some (Res.ret false [32] (intR n).d []) := e17 n
theorem s15 (n : Int) : SS (Key.call 15 [AV.d (Dat.int IntKind.i64 n)] []) =
  some (Res.ret false [36] [Dat.str [99, 111, 110, 115, 116], Dat.str [], Dat.int IntKind.i64 2, Dat.int IntKind.i64 n, Dat.str [], Dat.lst 32 [], Dat.lst 9 [], Dat.lst 119 [], Dat.lst 36 []] []) := by
  rw [e15, e17, bindR0]
  show bindR Out none false [36] [] _ _ (SS (Key.call 42 [AV.agg [AV.d (Dat.int IntKind.i64 2), AV.d (Dat.int IntKind.i64 n), AV.d (Dat.str []), AV.d (Dat.lst 32 []), AV.d (Dat.lst 9 [])]] [])) = _
  rw [e42, bindR0]
  rfl
theorem s16 (n : Int) : SS (Key.call 16 [AV.d (Dat.int IntKind.i64 n)] []) =
  some (Res.ret false [26] [Dat.lst 83 [[Dat.str [97], Dat.int IntKind.i64 2]], Dat.int IntKind.i64 3, Dat.int IntKind.i64 1, Dat.int IntKind.i64 3,
    Dat.lst 43 [[Dat.int IntKind.i64 3, Dat.int IntKind.i64 n, Dat.int IntKind.i64 2, Dat.int IntKind.i64 2, Dat.str [], Dat.lst 32 [], Dat.lst 9 [], Dat.int IntKind.i64 2, Dat.int IntKind.i64 5, Dat.str [], Dat.lst 32 [], Dat.lst 9 []]], Dat.lst 86 []] []) := by
  rw [e16, e17 2, bindR0, e17 5, bindR0]
  rfl
end Go.Ab
end

section
set_option linter.unusedSimpArgs false
/-! What E.Of gives for the law's expression. -/
set_option autoImplicit false
set_option linter.unusedVariables false
namespace Go.Ab
attribute [local congr] cond_cg bindR_cg

/-- The law's columns, its column's and its number's row, its expression. -/
noncomputable def colsA : List (List Dat) := [[.str [97], .int .i64 2]]
noncomputable def colR : List Dat := [.str [99, 111, 108], .str [97], .int .i64 0, .int .i64 0, .str [], .lst 32 [], .lst 9 [], .lst 119 [], .lst 36 []]
noncomputable def numR (n : Int) : List Dat := [.str [99, 111, 110, 115, 116], .str [], .int .i64 2, .int .i64 n, .str [], .lst 32 [], .lst 9 [], .lst 119 [], .lst 36 []]
noncomputable def opA (op : List UInt8) (n : Int) : List AV := [.d (.str op), .d (.str []), .d (.int .i64 0), .d (.int .i64 0), .d (.str []), .d (.lst 32 []), .d (.lst 9 []), .d (.lst 119 []), .d (.lst 36 [colR, numR n])]

theorem s30I (a b : Int) : SS (.call 30 [.agg [.d (.int .i64 2), .d (.int .i64 a), .d (.str []), .d (.lst 32 []), .d (.lst 9 [])], .agg [.d (.int .i64 2), .d (.int .i64 b), .d (.str []), .d (.lst 32 []), .d (.lst 9 [])]] []) = some (.ret false [3] [.int .i64 (icmp a b)] []) := by
  rw [s30 2 a [] [] [] 2 b [] [] [] (by simp [cnt, cnts, dvRs]) (by simp [shV, dvRs, shVs]) (by simp [shV, dvRs, shVs])]
  simp [ordR, V.k, V.n]
theorem place_a : place colsA [97] = 0 := rfl

theorem s45eq (i n : Int) : SS (.call 45 [.agg (opA [101, 113] n), .d (.lst 32 [(intR i).d, (intR n).d])] []) = some (.ret false [32] (cmpRw [101, 113] 2 2 (icmp i n)).d []) := by
  unfold opA
  rw [e45eq]
  simp only [intR, Rw.d, ci0, ci1, ci2, ci3, Int.reduceLT, Int.reduceLE, decide_true, decide_false, cond_true, cond_false, Bool.and_self, tn0, tn1, tn2, List.getD_cons_zero, List.getD_cons_succ, dat_i, dat_s, dat_l, dat_b, bindR0, nbq, List.length_nil, List.length_cons, Nat.reduceAdd, Nat.reduceMul, Nat.reduceLeDiff, wr1, wr2, wr3, List.nil_append, List.cons_append]
  rw [s88 [101, 113] 2 i [] [] [] 2 n [] [] [] _ (s30I i n), bindR0]
  rfl

theorem s45lt (i n : Int) : SS (.call 45 [.agg (opA [108, 116] n), .d (.lst 32 [(intR i).d, (intR n).d])] []) = some (.ret false [32] (cmpRw [108, 116] 2 2 (icmp i n)).d []) := by
  unfold opA
  rw [e45lt]
  simp only [intR, Rw.d, ci0, ci1, ci2, ci3, Int.reduceLT, Int.reduceLE, decide_true, decide_false, cond_true, cond_false, Bool.and_self, tn0, tn1, tn2, List.getD_cons_zero, List.getD_cons_succ, dat_i, dat_s, dat_l, dat_b, bindR0, nbq, List.length_nil, List.length_cons, Nat.reduceAdd, Nat.reduceMul, Nat.reduceLeDiff, wr1, wr2, wr3, List.nil_append, List.cons_append]
  rw [s88 [108, 116] 2 i [] [] [] 2 n [] [] [] _ (s30I i n), bindR0]
  rfl

theorem s45le (i n : Int) : SS (.call 45 [.agg (opA [108, 101] n), .d (.lst 32 [(intR i).d, (intR n).d])] []) = some (.ret false [32] (cmpRw [108, 101] 2 2 (icmp i n)).d []) := by
  unfold opA
  rw [e45le]
  simp only [intR, Rw.d, ci0, ci1, ci2, ci3, Int.reduceLT, Int.reduceLE, decide_true, decide_false, cond_true, cond_false, Bool.and_self, tn0, tn1, tn2, List.getD_cons_zero, List.getD_cons_succ, dat_i, dat_s, dat_l, dat_b, bindR0, nbq, List.length_nil, List.length_cons, Nat.reduceAdd, Nat.reduceMul, Nat.reduceLeDiff, wr1, wr2, wr3, List.nil_append, List.cons_append]
  rw [s88 [108, 101] 2 i [] [] [] 2 n [] [] [] _ (s30I i n), bindR0]
  rfl

theorem s45gt (i n : Int) : SS (.call 45 [.agg (opA [103, 116] n), .d (.lst 32 [(intR i).d, (intR n).d])] []) = some (.ret false [32] (cmpRw [103, 116] 2 2 (icmp i n)).d []) := by
  unfold opA
  rw [e45gt]
  simp only [intR, Rw.d, ci0, ci1, ci2, ci3, Int.reduceLT, Int.reduceLE, decide_true, decide_false, cond_true, cond_false, Bool.and_self, tn0, tn1, tn2, List.getD_cons_zero, List.getD_cons_succ, dat_i, dat_s, dat_l, dat_b, bindR0, nbq, List.length_nil, List.length_cons, Nat.reduceAdd, Nat.reduceMul, Nat.reduceLeDiff, wr1, wr2, wr3, List.nil_append, List.cons_append]
  rw [s88 [103, 116] 2 i [] [] [] 2 n [] [] [] _ (s30I i n), bindR0]
  rfl

theorem s45ge (i n : Int) : SS (.call 45 [.agg (opA [103, 101] n), .d (.lst 32 [(intR i).d, (intR n).d])] []) = some (.ret false [32] (cmpRw [103, 101] 2 2 (icmp i n)).d []) := by
  unfold opA
  rw [e45ge]
  simp only [intR, Rw.d, ci0, ci1, ci2, ci3, Int.reduceLT, Int.reduceLE, decide_true, decide_false, cond_true, cond_false, Bool.and_self, tn0, tn1, tn2, List.getD_cons_zero, List.getD_cons_succ, dat_i, dat_s, dat_l, dat_b, bindR0, nbq, List.length_nil, List.length_cons, Nat.reduceAdd, Nat.reduceMul, Nat.reduceLeDiff, wr1, wr2, wr3, List.nil_append, List.cons_append]
  rw [s88 [103, 101] 2 i [] [] [] 2 n [] [] [] _ (s30I i n), bindR0]
  rfl

theorem s18c (i : Int) : SS (.call 18 [.d (.lst 83 colsA), .d (.lst 32 [(intR i).d]), .agg [.d (.str [99, 111, 108]), .d (.str [97]), .d (.int .i64 0), .d (.int .i64 0), .d (.str []), .d (.lst 32 []), .d (.lst 9 []), .d (.lst 119 []), .d (.lst 36 [])]] []) = some (.ret false [32] (intR i).d []) := by
  rw [e18, s44 colsA [97] (by simp [colsA]), place_a]
  rfl
theorem s18n (i n : Int) : SS (.call 18 [.d (.lst 83 colsA), .d (.lst 32 [(intR i).d]), .agg [.d (.str [99, 111, 110, 115, 116]), .d (.str []), .d (.int .i64 2), .d (.int .i64 n), .d (.str []), .d (.lst 32 []), .d (.lst 9 []), .d (.lst 119 []), .d (.lst 36 [])]] []) = some (.ret false [32] (intR n).d []) := by
  rw [e18]
  rfl
theorem s18A (op : List UInt8) (i n : Int) (w : Rw) (h1 : (op == [99, 111, 108]) = false) (h2 : (op == [99, 111, 110, 115, 116]) = false)
    (h : SS (.call 45 [.agg (opA op n), .d (.lst 32 [(intR i).d, (intR n).d])] []) = some (.ret false [32] w.d [])) :
    SS (.call 18 [.d (.lst 83 colsA), .d (.lst 32 [(intR i).d]), .agg (opA op n)] []) = some (.ret false [32] w.d []) := by
  have hc := s18c i
  have hn := s18n i n
  unfold opA at h ⊢
  simp only [intR, Rw.d, colR, numR] at h hc hn ⊢
  rw [e18, h1, h2, cond_false, cond_false, p18_122]
  simp only [colR, ci0, ci1, ci2, ci3, Int.reduceLT, Int.reduceLE, decide_true, decide_false, cond_true, cond_false, Bool.and_self, tn0, tn1, tn2, List.getD_cons_zero, List.getD_cons_succ, dat_i, dat_s, dat_l, dat_b, bindR0, nbq, List.length_nil, List.length_cons, Nat.reduceAdd, Nat.reduceMul, Nat.reduceLeDiff, wr1, wr2, wr3, List.nil_append, List.cons_append, hc, decT]
  rw [p18_122]
  simp only [numR, ci0, ci1, ci2, ci3, Int.reduceLT, Int.reduceLE, decide_true, decide_false, cond_true, cond_false, Bool.and_self, tn0, tn1, tn2, List.getD_cons_zero, List.getD_cons_succ, dat_i, dat_s, dat_l, dat_b, bindR0, nbq, List.length_nil, List.length_cons, Nat.reduceAdd, Nat.reduceMul, Nat.reduceLeDiff, wr1, wr2, wr3, List.nil_append, List.cons_append, hn]
  rw [p18_122]
  simp only [ci0, ci1, ci2, ci3, Int.reduceLT, Int.reduceLE, decide_true, decide_false, cond_true, cond_false, Bool.and_self, tn0, tn1, tn2, List.getD_cons_zero, List.getD_cons_succ, dat_i, dat_s, dat_l, dat_b, bindR0, nbq, List.length_nil, List.length_cons, Nat.reduceAdd, Nat.reduceMul, Nat.reduceLeDiff, wr1, wr2, wr3, List.nil_append, List.cons_append]
  rw [h, bindR0]
  rfl
end Go.Ab
end

section
set_option linter.unusedSimpArgs false
/-! The law's head and expression can be looked at. -/
set_option autoImplicit false
set_option linter.unusedVariables false
namespace Go.Ab
attribute [local congr] cond_cg bindR_cg

noncomputable def statR (low high : Int) : List Dat := [.int .i64 3, .int .i64 0, .int .i64 2, .int .i64 low, .str [], .lst 32 [], .lst 9 [], .int .i64 2, .int .i64 high, .str [], .lst 32 [], .lst 9 []]
noncomputable def headA (low high : Int) : List AV := [.d (.lst 83 colsA), .d (.int .i64 3), .d (.int .i64 1), .d (.int .i64 3), .d (.lst 43 [statR low high]), .d (.lst 86 [])]

theorem okV_int (n : Int) : okV (.mk 2 n [] [] []) = decide (-1000000000000 ≤ n ∧ n ≤ 1000000000000) := by
  simp [okV, okL, okLs, ownOk, ownF, cnt, cnts]
theorem okV_null : okV (.mk 0 0 [] [] []) = true := by
  simp [okV, okL, okLs, ownOk, ownF, cnt, cnts]
theorem wordW_a : wordW [97] = true := by decide

theorem s10A (low high : Int) (h1 : -1000000000000 ≤ low) (h2 : low ≤ high) (h3 : high ≤ 1000000000000) : SS (.call 10 [.agg (headA low high)] []) = some (.ret false [4] [.bool true] []) := by
  have q : SS (.pt 10 [] 250 { tmps := [(1, .ptr 1001 0), (5, .own 1000085 []), (71, .d (.lst 86 [])), (72, .d (.int .i64 (([] : List (List Dat)).length : Int))), (73, .d (.int .i64 0))], boxes := [(1001, [.d (.lst 83 colsA), .d (.int .i64 3), .d (.int .i64 1), .d (.int .i64 3), .d (.lst 43 [statR low high]), .d (.lst 86 [])])] }) = some (.ret false [4] [.bool true] []) := p10_250 _ _ _ _ _ _ _ _ _ _ (by simp only [List.length_nil, ci0]; rfl)
  have hc : colsV colsA = true := by simp [colsV, colsA, tyOk, cTy, wordsL, dKs, dK, wordW_a, Dat.i, Dat.s]
  have hst : statsL 3 [statR low high] colsA = true := by
    have ho : ordP (.mk 2 low [] [] []) (.mk 2 high [] [] []) ≤ 0 := by
      have : icmp 0 0 = 0 := rfl
      simp [ordP, V.k, V.n, V.t, V.items, ordPs, orI, bcmp, this]
      unfold icmp
      split <;> rename_i h
      · simp
      · split <;> omega
    simp [statsL, stA, statV, statR, vAt, colsA, cTy, fitsV, dvRs, dKs, okV_int, V.k, Dat.i, Dat.s, Dat.l, ho]
    omega
  have p1 := l10 colsA 3 1 3 [statR low high] [] (b := true) q [statR low high] [] (by simp) (by simp [colsA]) (by simp [smA, statR, vAt, smV, smVs, dvRs, dKs, Dat.l])
  unfold headA
  refine c10 _ _ _ _ _ _ ?_
  simp only [s34 colsA (by simp [colsA]) (by simp [colsA, dK, Dat.s]), bindR0, rsb, hc, Bool.not_true, cond_false]
  have hst' : (statsL 3 [statR low high] (List.drop 0 colsA) && true) = true := by rw [List.drop_zero, hst]; rfl
  simp only [List.length_nil, List.nil_append, ci0] at p1
  rw [hst'] at p1
  have hl : (((([statR low high] : List (List Dat)).length : Nat) : Int) != ((colsA.length : Nat) : Int)) = false := rfl
  simp only [hl, Int.reduceLT, gt_iff_lt, decide_false, cond_false]
  exact p1

theorem okE_A (op : List UInt8) (n : Int) (h1 : -1000000000000 ≤ n) (h2 : n ≤ 1000000000000) (c1 : op ≠ [99, 111, 108]) (c2 : op ≠ [99, 111, 110, 115, 116]) (x : Dat)
    (hr : opRow op = [.int .i64 2, .int .i64 2, .bool false, .bool false, x, .bool true]) :
    okE (.mk op [] (.mk 0 0 [] (dvRs []) (dKs [])) [] (dxRs [colR, numR n])) = true := by
  have hx : dxRs [colR, numR n] = [.mk [99, 111, 108] [97] (.mk 0 0 [] [] []) [] [], .mk [99, 111, 110, 115, 116] [] (.mk 2 n [] [] []) [] []] := by
    rw [dxRs_map]
    simp [dX, colR, numR, dvRs, dKs, Dat.i, Dat.s, Dat.l, dxRs]
  have e1 : formX op [] (.mk 0 0 [] [] []) [] 2 = true := by
    unfold formX
    simp [c1, c2, hr, V.k, okV_null, Dat.i, Dat.b]
  have e2 : formX [99, 111, 108] [97] (.mk 0 0 [] [] []) [] 0 = true := by
    unfold formX
    simp [V.k, okV_null, wordW_a]
  have e3 : formX [99, 111, 110, 115, 116] [] (.mk 2 n [] [] []) [] 0 = true := by
    unfold formX
    simp [okV_int, h1, h2]
  rw [hx]
  show okE (.mk op [] (.mk 0 0 [] [] []) [] _) = true
  simp [okE, okX, okXs, e1, e2, e3, cntX, cntXs]

theorem s66A (op : List UInt8) (n : Int) (c1 : (op == [99, 111, 108]) = false) : SS (.call 66 [.d (.lst 83 colsA), .agg (opA op n)] []) = some (.ret false [4] [.bool true] []) := by
  have hn : namesOf [colR, numR n] op [] = [[.str [97]]] := by
    unfold namesOf rawOf
    rw [c1]
    rfl
  unfold opA
  rw [s66 colsA op [] 0 0 [] [] [] [] [colR, numR n] (by simp [colsA]) (by simp [colR, numR, szRs, szCs, szD]) (by rw [hn]; simp), hn]
  rfl

theorem s46eq (low high n : Int) (h1 : -1000000000000 ≤ low) (h2 : low ≤ high) (h3 : high ≤ 1000000000000) (h4 : -1000000000000 ≤ n) (h5 : n ≤ 1000000000000) :
    SS (.call 46 [.agg (headA low high), .agg (opA [101, 113] n)] []) = some (.ret false [47] [.int .i64 0] []) := by
  have a := s10A low high h1 h2 h3
  have b := s66A [101, 113] n (by decide)
  have c := s65 [101, 113] [] 0 0 [] [] [] [] [colR, numR n] (by rw [dxRs_map]; simp [smX, smXs, smV, smVs, dvRs, dKs, dX, colR, numR, dxRs, Dat.i, Dat.s, Dat.l])
  rw [okE_A [101, 113] n h4 h5 (by decide) (by decide) _ (by rfl)] at c
  unfold headA at a ⊢
  unfold opA at b ⊢
  rw [e46, a, bindR0]
  show bindR _ _ _ _ _ _ _ (SS _) = _
  rw [c, bindR0]
  show bindR _ _ _ _ _ _ _ (SS _) = _
  rw [b, bindR0]
  rfl

theorem s46lt (low high n : Int) (h1 : -1000000000000 ≤ low) (h2 : low ≤ high) (h3 : high ≤ 1000000000000) (h4 : -1000000000000 ≤ n) (h5 : n ≤ 1000000000000) :
    SS (.call 46 [.agg (headA low high), .agg (opA [108, 116] n)] []) = some (.ret false [47] [.int .i64 0] []) := by
  have a := s10A low high h1 h2 h3
  have b := s66A [108, 116] n (by decide)
  have c := s65 [108, 116] [] 0 0 [] [] [] [] [colR, numR n] (by rw [dxRs_map]; simp [smX, smXs, smV, smVs, dvRs, dKs, dX, colR, numR, dxRs, Dat.i, Dat.s, Dat.l])
  rw [okE_A [108, 116] n h4 h5 (by decide) (by decide) _ (by rfl)] at c
  unfold headA at a ⊢
  unfold opA at b ⊢
  rw [e46, a, bindR0]
  show bindR _ _ _ _ _ _ _ (SS _) = _
  rw [c, bindR0]
  show bindR _ _ _ _ _ _ _ (SS _) = _
  rw [b, bindR0]
  rfl

theorem s46le (low high n : Int) (h1 : -1000000000000 ≤ low) (h2 : low ≤ high) (h3 : high ≤ 1000000000000) (h4 : -1000000000000 ≤ n) (h5 : n ≤ 1000000000000) :
    SS (.call 46 [.agg (headA low high), .agg (opA [108, 101] n)] []) = some (.ret false [47] [.int .i64 0] []) := by
  have a := s10A low high h1 h2 h3
  have b := s66A [108, 101] n (by decide)
  have c := s65 [108, 101] [] 0 0 [] [] [] [] [colR, numR n] (by rw [dxRs_map]; simp [smX, smXs, smV, smVs, dvRs, dKs, dX, colR, numR, dxRs, Dat.i, Dat.s, Dat.l])
  rw [okE_A [108, 101] n h4 h5 (by decide) (by decide) _ (by rfl)] at c
  unfold headA at a ⊢
  unfold opA at b ⊢
  rw [e46, a, bindR0]
  show bindR _ _ _ _ _ _ _ (SS _) = _
  rw [c, bindR0]
  show bindR _ _ _ _ _ _ _ (SS _) = _
  rw [b, bindR0]
  rfl

theorem s46gt (low high n : Int) (h1 : -1000000000000 ≤ low) (h2 : low ≤ high) (h3 : high ≤ 1000000000000) (h4 : -1000000000000 ≤ n) (h5 : n ≤ 1000000000000) :
    SS (.call 46 [.agg (headA low high), .agg (opA [103, 116] n)] []) = some (.ret false [47] [.int .i64 0] []) := by
  have a := s10A low high h1 h2 h3
  have b := s66A [103, 116] n (by decide)
  have c := s65 [103, 116] [] 0 0 [] [] [] [] [colR, numR n] (by rw [dxRs_map]; simp [smX, smXs, smV, smVs, dvRs, dKs, dX, colR, numR, dxRs, Dat.i, Dat.s, Dat.l])
  rw [okE_A [103, 116] n h4 h5 (by decide) (by decide) _ (by rfl)] at c
  unfold headA at a ⊢
  unfold opA at b ⊢
  rw [e46, a, bindR0]
  show bindR _ _ _ _ _ _ _ (SS _) = _
  rw [c, bindR0]
  show bindR _ _ _ _ _ _ _ (SS _) = _
  rw [b, bindR0]
  rfl

theorem s46ge (low high n : Int) (h1 : -1000000000000 ≤ low) (h2 : low ≤ high) (h3 : high ≤ 1000000000000) (h4 : -1000000000000 ≤ n) (h5 : n ≤ 1000000000000) :
    SS (.call 46 [.agg (headA low high), .agg (opA [103, 101] n)] []) = some (.ret false [47] [.int .i64 0] []) := by
  have a := s10A low high h1 h2 h3
  have b := s66A [103, 101] n (by decide)
  have c := s65 [103, 101] [] 0 0 [] [] [] [] [colR, numR n] (by rw [dxRs_map]; simp [smX, smXs, smV, smVs, dvRs, dKs, dX, colR, numR, dxRs, Dat.i, Dat.s, Dat.l])
  rw [okE_A [103, 101] n h4 h5 (by decide) (by decide) _ (by rfl)] at c
  unfold headA at a ⊢
  unfold opA at b ⊢
  rw [e46, a, bindR0]
  show bindR _ _ _ _ _ _ _ (SS _) = _
  rw [c, bindR0]
  show bindR _ _ _ _ _ _ _ (SS _) = _
  rw [b, bindR0]
  rfl
end Go.Ab
end

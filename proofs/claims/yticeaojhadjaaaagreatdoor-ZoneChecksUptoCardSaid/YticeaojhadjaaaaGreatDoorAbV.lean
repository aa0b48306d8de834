/- Part 22 of the proof that this seat's laws lean on: an abstract machine over the model's code, its soundness, and what it says of this program. -/
import Derived.Test.YticeaojhadjaaaaGreatDoorAbU

section
set_option linter.unusedSimpArgs false
/-! What is told by other roads is so. -/
set_option autoImplicit false
set_option linter.unusedVariables false
set_option maxRecDepth 100000
namespace Go.Ab
open Go.Proofs Go.Sort Go.RowKit

theorem tab0Ok : TabOk tb0 := ⟨ok_hT, ok_mix, fun f fn h _ => ok_name f fn h, fun _ _ _ _ h => by cases h⟩

theorem finish_data {E : Ent} {g : Gh} {st : St} {a : Act} {w w5 : World} {v5 : Value} {t : TypeId} {d : Dat} (H : Rel tyTab E g st a w) (hE : E.w0 = w) (hnx : E.nx = 0)
    (wo : w5.os = w.os ∧ w5.tape = w.tape ∧ w5.output = w.output) (old : ∀ b, b < w.heap.size → w5.heap[b]? = w.heap[b]?) (sz : w.heap.size ≤ w5.heap.size)
    (hc : (tyTab t).cells = [t]) (hk : WT (tyTab t).kind d) (hna : (tyTab t).kind.isAgg = false) (pub : Nat → Prop) (hp1 : ∀ b, pub b → b < w5.heap.size ∧ (b < w.heap.size → g.pub b)) (hp2 : ∀ b, g.pub b → pub b) (hd : DRep tyTab (rdr w5 pub) d v5) :
    Post tyTab E [] (.ret false [t] [d] []) (.returned v5) w5 := by
  have hget : ∀ u, (endSt .undef []).get u = .undef := fun u => by
    rw [endSt_get]; split <;> rfl
  have hbox : ∀ i, (endSt .undef []).box i = none := fun i => by
    rw [endSt_box]; simp
  have hcell : ∀ i o, cellAt (endSt .undef []) i o = .undef := fun i o => by
    unfold cellAt
    rw [hbox]; simp
  let g' : Gh := { pub := pub, bl := fun _ => 0, ot := fun _ => undef, oc := fun _ _ => undef }
  have hhb : ∀ hd, Go.Ab.hb g' (endSt .undef []) hd = none := fun hd => by
    cases hd with
    | box id => simp [Go.Ab.hb, hbox]
    | tmp t =>
      have e : Go.Ab.hb g' (endSt .undef []) (.tmp t) = if isOwn ((endSt .undef []).get t) = true then ownB (g'.ot t) else none := rfl
      rw [e, hget]; rfl
    | cell id off =>
      have e : Go.Ab.hb g' (endSt .undef []) (.cell id off) = if isOwn (cellAt (endSt .undef []) id off) = true then ownB (g'.oc id off) else none := rfl
      rw [e, hcell]; rfl
  refine ⟨g', .undef, ?_, rfl, fun i hi => by simp at hi, .inr ⟨rfl, rfl, .inl ⟨t, rfl, ?_⟩⟩⟩
  · show Rel tyTab _ g' (endSt .undef []) ⟨#[v5], []⟩ w5
    refine { tm := fun u => ?_, bx := fun id cs hc => ?_, ex := fun a b c hc => ?_, hp := fun a b hc => ?_, pb := fun b hb => ⟨(hp1 b hb).1, fun hlt => ?_⟩, p0 := fun b hb => hp2 b (H.p0 b hb), keep := fun b hb hW => ?_, wo := ?_, sz := ?_, al := fun t u hr => ?_, pr := fun t id hid => ?_, prb := fun id off id' hid => ?_, xt := fun i hi => ?_, df := rfl, ns := rfl }
    · rw [hget]; trivial
    · rw [hbox] at hc; cases hc
    · rw [hhb] at hc; cases hc
    · rw [hhb] at hc; cases hc
    · have hlt' : b < E.w0.heap.size := hlt
      rw [hE] at hlt'
      exact (H.pb b ((hp1 b hb).2 hlt')).2 hlt
    · have hb' : b < E.w0.heap.size := hb
      show w5.heap[b]? = E.w0.heap[b]?
      rw [hE] at hb' ⊢
      exact old b hb'
    · show w5.os = E.w0.os ∧ w5.tape = E.w0.tape ∧ w5.output = E.w0.output
      rw [hE]; exact wo
    · show E.w0.heap.size ≤ _
      rw [hE]; exact sz
    · rw [hget] at hr; cases hr
    · rw [hget] at hid; cases hid
    · rw [hcell] at hid; cases hid
    · have hi' : i < E.nx := hi
      omega
  · have h1 := hd.one
    refine ⟨by rw [hc]; rfl, by rw [Value.cells_one h1]; rfl, fun j hj => ?_, .inr ⟨hna, h1⟩⟩
    obtain rfl : j = 0 := by simpa using hj
    rw [Value.cells_one h1, hc]
    exact ⟨hd, hk⟩

theorem arr9 {vs : Array Value} (h : vs.size = 9) : ∃ x0 x1 x2 x3 x4 x5 x6 x7 x8, vs = #[x0, x1, x2, x3, x4, x5, x6, x7, x8] := by
  have hl : vs.toList.length = 9 := by simpa using h
  match hm : vs.toList, hl with
  | [x0, x1, x2, x3, x4, x5, x6, x7, x8], _ =>
    refine ⟨x0, x1, x2, x3, x4, x5, x6, x7, x8, ?_⟩
    have : vs = vs.toList.toArray := by simp
    rw [this, hm]

theorem arr1 {vs : Array Value} (h : vs.size = 1) : ∃ x0, vs = #[x0] := by
  have hl : vs.toList.length = 1 := by simpa using h
  match hm : vs.toList, hl with
  | [x0], _ =>
    refine ⟨x0, ?_⟩
    have : vs = vs.toList.toArray := by simp
    rw [this, hm]

/-- expr.Names, whatever the expression. -/
theorem names_good (op nm : List UInt8) (n2 n3 : Int) (s4 : List UInt8) (l5 l6 l7 kids : List (List Dat)) (hsz : szRs kids ≤ 1000000) (hraw : (rawOf kids op nm).length ≤ 1000001) :
    Good Tryz.prog tyTab 127 [.agg [.d (.str op), .d (.str nm), .d (.int .i64 n2), .d (.int .i64 n3), .d (.str s4), .d (.lst 32 l5), .d (.lst 9 l6), .d (.lst 119 l7), .d (.lst 36 kids)]] []
      (.ret false [29] [.lst 9 (rowsOfS (namesS (rawOf kids op nm)))] []) := by
  have hfn : Tryz.prog.funcs[127]? = some Tryz.f127 := Tryz.func127
  refine ⟨Tryz.f127, hfn, ok_name 127 _ hfn, by kernel_rfl, by rw [show Tryz.f127.ntmps = 11 by kernel_rfl]; simp, fun E g w vals hE hnx hn hvs H => ?_⟩
  rw [show Tryz.f127.ntmps = 11 by kernel_rfl] at H hn
  have hE' : E.w0 = w := hE
  have hpub : ∀ b, g.pub b → b < w.heap.size := fun b hb => (H.pb b hb).1
  have h0 := H.tm 0
  have hg0 : St.get ⟨numbered 0 [.agg [.d (.str op), .d (.str nm), .d (.int .i64 n2), .d (.int .i64 n3), .d (.str s4), .d (.lst 32 l5), .d (.lst 9 l6), .d (.lst 119 l7), .d (.lst 36 kids)]], boxesFrom 0 []⟩ 0 =
    .agg ([Dat.str op, .str nm, .int .i64 n2, .int .i64 n3, .str s4, .lst 32 l5, .lst 9 l6, .lst 119 l7, .lst 36 kids].map .d) := rfl
  rw [hg0] at h0
  obtain ⟨v0, hv0⟩ := arr1 (show vals.size = 1 from hvs)
  subst hv0
  obtain ⟨vs, hvs0, hcs⟩ := h0
  have hv0 : v0 = .agg vs := hvs0
  subst hv0
  obtain ⟨x0, x1, x2, x3, x4, x5, x6, x7, x8, rfl⟩ := arr9 (show vs.size = 9 from hcs.1.symm)
  have hsem := h175 _ op nm n2 n3 s4 l5 l6 l7 kids [] (Nat.le_refl _) hsz (by simp; omega)
  rw [List.nil_append] at hsem
  obtain ⟨fn, q1, q2, q3, q4, q5⟩ := sem_good tab0Ok hsem
  have hfn175 : fn = Tryz.f175 := Option.some.inj (q1.symm.trans Tryz.func175)
  subst hfn175
  have hr := rel175 (n := Tryz.f175.ntmps) hcs hpub (by rw [show Tryz.f175.ntmps = 20 by kernel_rfl]; omega)
  have hc175 := q5 (E2 w g _ Tryz.f175.ntmps) (g2 w g) (wN w _) (vals2 w _) rfl rfl rfl rfl hr
  refine walk127 x0 x1 x2 x3 x4 x5 x6 x7 x8 w _ (After w g (rowsOfS (rawOf kids op nm))) (Q4 w (rawOf kids op nm)) (hc175.mono fun e w3 hp => after175 hpub hp) (fun v w3 h => c177 (by omega) h) (fun v w4 h => ?_)
  refine (c178 (by omega) h (fun b => g.pub b ∨ w.heap.size + 2 ≤ b) (fun _ b hb => .inr hb)).mono fun e w5 ⟨v', h1, hk, hd⟩ => ⟨v', h1, ?_⟩
  have hsz5 := hk.sz
  -- only blocks that are there
  have hd' : DRep tyTab (rdr w5 fun b => g.pub b ∨ (w.heap.size + 2 ≤ b ∧ b < w5.heap.size)) (.lst 9 (rowsOfS (namesS (rawOf kids op nm)))) v' := hd.mono fun b i v ⟨hp, hv⟩ => by
    refine ⟨?_, hv⟩
    rcases hp with hp | hp
    · exact .inl hp
    · exact .inr ⟨hp, (cell_spot hv).2⟩
  exact finish_data H hE' hnx hk.wo hk.old (by omega) (by kernel_rfl) (show WT (tyTab 29).kind _ from by rw [show (tyTab 29).kind = .slice 9 by kernel_rfl]; rfl) (by kernel_rfl) _ (fun b hb => by
    rcases hb with hb | hb
    · exact ⟨by have := hpub b hb; omega, fun _ => hb⟩
    · exact ⟨hb.2, fun h => by omega⟩) (fun b hb => .inl hb) hd'
end Go.Ab
end

section
set_option linter.unusedSimpArgs false
/-! The tables are right: what is told by other roads is so. -/
set_option autoImplicit false
set_option linter.unusedVariables false
set_option maxRecDepth 100000
namespace Go.Ab
open Go.Proofs Go.Sort Go.RowKit

theorem names_one {l : List (List UInt8)} (h : l.length ≤ 1) : sortB l = namesS l := by
  match l, h with
  | [], _ =>
    have h0 : (namesS []).length = 0 := Nat.le_zero.1 (by have := compact_le (sorted []); rw [sorted_len] at this; exact this)
    rw [List.length_eq_zero_iff.1 h0]; rfl
  | [s], _ =>
    show [s] = Lib.compact (sorted [s])
    have : sorted [s] = [s] := List.mergeSort_singleton _
    rw [this]
    exact (Lib.compact_all [s] (Lib.keeps_lt_one _)).symm

/-- Comparing strings is as it is told. -/
theorem bcmp_compare : ∀ (s t : List UInt8), Lib.compareBytes s t = bcmp s t
  | [], [] => rfl
  | [], _ :: _ => rfl
  | _ :: _, [] => rfl
  | a :: s, b :: t => by
    have ih := bcmp_compare s t
    show (if a < b then (-1 : Int) else if b < a then 1 else Lib.compareBytes s t) = cond (Nat.blt a.toNat b.toNat) (-1) (cond (Nat.blt b.toNat a.toNat) 1 (bcmp s t))
    rw [ih]
    have e : ∀ x y : UInt8, x < y ↔ Nat.blt x.toNat y.toNat = true := fun x y => by rw [Nat.blt_eq]; exact UInt8.lt_iff_toNat_lt
    by_cases h1 : a < b
    · rw [if_pos h1, (e a b).1 h1]; rfl
    · rw [if_neg h1, Bool.eq_false_iff.2 fun h => h1 ((e a b).2 h), cond_false]
      by_cases h2 : b < a
      · rw [if_pos h2, (e b a).1 h2]; rfl
      · rw [if_neg h2, Bool.eq_false_iff.2 fun h => h2 ((e b a).2 h), cond_false]

theorem fin_same {E : Ent} {g : Gh} {st : St} {a : Act} {w : World} {t : TypeId} {d : Dat} {v : Value} (H : Rel tyTab E g st a w) (hE : E.w0 = w) (hnx : E.nx = 0) (hc : (tyTab t).cells = [t]) (hk : WT (tyTab t).kind d) (hna : (tyTab t).kind.isAgg = false) (hd : DRep tyTab (rdr w g.pub) d v) :
    Post tyTab E [] (.ret false [t] [d] []) (.returned v) w :=
  finish_data H hE hnx ⟨rfl, rfl, rfl⟩ (fun _ _ => rfl) (Nat.le_refl _) hc hk hna g.pub (fun b hb => ⟨(H.pb b hb).1, fun _ => hb⟩) (fun _ h => h) hd

theorem compare_good (s t : List UInt8) : Good Tryz.prog tyTab 78 [.d (.str s), .d (.str t)] [] (.ret false [3] [.int .i64 (bcmp s t)] []) := by
  have hfn : Tryz.prog.funcs[78]? = some Tryz.f78 := Tryz.func78
  refine ⟨Tryz.f78, hfn, ok_name 78 _ hfn, by kernel_rfl, of_decide_eq_true (by kernel_rfl), fun E g w vals hE hnx hn hvs H => ?_⟩
  have hE' : E.w0 = w := hE
  obtain ⟨v0, v1, rfl⟩ : ∃ v0 v1, vals = #[v0, v1] := by
    have hl : vals.toList.length = 2 := by simpa using hvs
    match hm : vals.toList, hl with
    | [v0, v1], _ =>
      refine ⟨v0, v1, ?_⟩
      have : vals = vals.toList.toArray := by simp
      rw [this, hm]
  have h0 : DRep tyTab (rdr w g.pub) (.str s) ((subA #[v0, v1] Tryz.f78.ntmps).tmps.getD 0 undef) := H.tm 0
  have h1 : DRep tyTab (rdr w g.pub) (.str t) ((subA #[v0, v1] Tryz.f78.ntmps).tmps.getD 1 undef) := H.tm 1
  have e0 : (subA #[v0, v1] Tryz.f78.ntmps).tmps.getD 0 undef = v0 := by
    show (#[v0, v1] ++ Array.replicate _ undef).getD 0 undef = _
    simp [Array.getD_eq_getD_getElem?, Array.getElem?_append]
  have e1 : (subA #[v0, v1] Tryz.f78.ntmps).tmps.getD 1 undef = v1 := by
    show (#[v0, v1] ++ Array.replicate _ undef).getD 1 undef = _
    simp [Array.getD_eq_getD_getElem?, Array.getElem?_append]
  rw [e0] at h0
  rw [e1] at h1
  cases h0
  cases h1
  refine (Any.strings_Compare Tryz.lays106 ⟨s.toArray⟩ ⟨t.toArray⟩ w).mono fun e w' ⟨q1, q2⟩ => ?_
  subst q1; subst q2
  rw [show ((⟨s.toArray⟩ : ByteArray).data.toList) = s by simp, show ((⟨t.toArray⟩ : ByteArray).data.toList) = t by simp, bcmp_compare]
  exact fin_same H hE' hnx (by kernel_rfl) (by rw [show (tyTab 3).kind = .int .i64 by kernel_rfl]; rfl) (by kernel_rfl) (.int _ _)

theorem x_ok (f : FuncId) (args : List AV) (xs : List (List AV)) (r : Res) (h : xTab f args xs = some r) : Good tb.P tb.T f args xs r := by
  unfold xTab at h
  cases h78 : Nat.beq f 78 with
  | true =>
    rw [h78, cond_true] at h
    have := Nat.eq_of_beq_eq_true h78
    subst this
    split at h
    · split at h
      · cases h
        exact compare_good _ _
      · cases h
    · cases h
  | false =>
    rw [h78, cond_false] at h
    cases h127 : Nat.beq f 127 with
    | false => rw [h127, cond_false] at h; cases h
    | true =>
      rw [h127, cond_true] at h
      have := Nat.eq_of_beq_eq_true h127
      subst this
      split at h
      · split at h
        · obtain ⟨hc, h⟩ := cond_ends h (by simp)
          rw [Bool.and_eq_true] at hc
          cases h
          have hl := Nat.le_of_ble_eq_true hc.2
          unfold namesOf
          rw [names_one hl]
          exact names_good _ _ _ _ _ _ _ _ _ (Nat.le_of_ble_eq_true hc.1) (Nat.le_trans hl (by omega))
        · cases h
      · cases h

theorem tabOk : TabOk tb := tab_ok x_ok
end Go.Ab
end

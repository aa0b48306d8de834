/- Part 22 of the proof that this seat's laws lean on: an abstract machine over the model's code, its soundness, and what it says of this program. -/
import Derived.Test.YticeaojhadjaaaaGreatDoorAxU

section
set_option linter.unusedSimpArgs false
/-! What is told by other roads is so. -/
set_option autoImplicit false
set_option linter.unusedVariables false
set_option maxRecDepth 100000
namespace Go.Ab
open Go.Proofs Go.Sort Go.RowKit

theorem tab0Ok : TabOk tb0 := ⟨ok_hT, ok_mix, fun f fn h _ => ok_name f fn h, fun _ _ _ _ h => by cases h⟩

theorem finish_data {E : Ent} {g : Gh} {st : St} {a : Act} {w w5 : World} {v5 : Value} {t : TypeId} {d : Dat} (H : Rel tyTab E g st a w) (hE : E.w0 = w) (hnx : E.nx = 0)
    (wo : w5.os = w.os ∧ w5.tape = w.tape ∧ w5.output = w.output) (old : ∀ b, b < w.heap.size → w5.heap[b]? = w.heap[b]?) (sz : w.heap.size ≤ w5.heap.size)
    (hc : (tyTab t).cells = [t]) (hk : WT (tyTab t).kind d) (hna : (tyTab t).kind.isAgg = false) (pub : Nat → Prop) (hp1 : ∀ b, pub b → b < w5.heap.size ∧ (b < w.heap.size → g.pub b)) (hp2 : ∀ b, g.pub b → pub b) (hd : DRep tyTab (rdr w5 pub) d v5) :
    Post tyTab E [] (.ret false [t] [d] []) (.returned v5) w5 := by
  have hget : ∀ u, (endSt .undef []).get u = .undef := fun u => by
    rw [endSt_get]; split <;> rfl
  have hbox : ∀ i, (endSt .undef []).box i = none := fun i => by
    rw [endSt_box]; simp
  have hcell : ∀ i o, cellAt (endSt .undef []) i o = .undef := fun i o => by
    unfold cellAt
    rw [hbox]; simp
  let g' : Gh := { pub := pub, bl := fun _ => 0, ot := fun _ => undef, oc := fun _ _ => undef }
  have hhb : ∀ hd, Go.Ab.hb g' (endSt .undef []) hd = none := fun hd => by
    cases hd with
    | box id => simp [Go.Ab.hb, hbox]
    | tmp t =>
      have e : Go.Ab.hb g' (endSt .undef []) (.tmp t) = if isOwn ((endSt .undef []).get t) = true then ownB (g'.ot t) else none := rfl
      rw [e, hget]; rfl
    | cell id off =>
      have e : Go.Ab.hb g' (endSt .undef []) (.cell id off) = if isOwn (cellAt (endSt .undef []) id off) = true then ownB (g'.oc id off) else none := rfl
      rw [e, hcell]; rfl
  refine ⟨g', .undef, ?_, rfl, fun i hi => by simp at hi, .inr ⟨rfl, rfl, .inl ⟨t, rfl, ?_⟩⟩⟩
  · show Rel tyTab _ g' (endSt .undef []) ⟨#[v5], []⟩ w5
    refine { tm := fun u => ?_, bx := fun id cs hc => ?_, ex := fun a b c hc => ?_, hp := fun a b hc => ?_, pb := fun b hb => ⟨(hp1 b hb).1, fun hlt => ?_⟩, p0 := fun b hb => hp2 b (H.p0 b hb), keep := fun b hb hW => ?_, wo := ?_, sz := ?_, al := fun t u hr => ?_, pr := fun t id hid => ?_, prb := fun id off id' hid => ?_, xt := fun i hi => ?_, df := rfl, ns := rfl }
    · rw [hget]; trivial
    · rw [hbox] at hc; cases hc
    · rw [hhb] at hc; cases hc
    · rw [hhb] at hc; cases hc
    · have hlt' : b < E.w0.heap.size := hlt
      rw [hE] at hlt'
      exact (H.pb b ((hp1 b hb).2 hlt')).2 hlt
    · have hb' : b < E.w0.heap.size := hb
      show w5.heap[b]? = E.w0.heap[b]?
      rw [hE] at hb' ⊢
      exact old b hb'
    · show w5.os = E.w0.os ∧ w5.tape = E.w0.tape ∧ w5.output = E.w0.output
      rw [hE]; exact wo
    · show E.w0.heap.size ≤ _
      rw [hE]; exact sz
    · rw [hget] at hr; cases hr
    · rw [hget] at hid; cases hid
    · rw [hcell] at hid; cases hid
    · have hi' : i < E.nx := hi
      omega
  · have h1 := hd.one
    refine ⟨by rw [hc]; rfl, by rw [Value.cells_one h1]; rfl, fun j hj => ?_, .inr ⟨hna, h1⟩⟩
    obtain rfl : j = 0 := by simpa using hj
    rw [Value.cells_one h1, hc]
    exact ⟨hd, hk⟩

theorem arr9 {vs : Array Value} (h : vs.size = 9) : ∃ x0 x1 x2 x3 x4 x5 x6 x7 x8, vs = #[x0, x1, x2, x3, x4, x5, x6, x7, x8] := by
  have hl : vs.toList.length = 9 := by simpa using h
  match hm : vs.toList, hl with
  | [x0, x1, x2, x3, x4, x5, x6, x7, x8], _ =>
    refine ⟨x0, x1, x2, x3, x4, x5, x6, x7, x8, ?_⟩
    have : vs = vs.toList.toArray := by simp
    rw [this, hm]

theorem arr1 {vs : Array Value} (h : vs.size = 1) : ∃ x0, vs = #[x0] := by
  have hl : vs.toList.length = 1 := by simpa using h
  match hm : vs.toList, hl with
  | [x0], _ =>
    refine ⟨x0, ?_⟩
    have : vs = vs.toList.toArray := by simp
    rw [this, hm]

/-- expr.Names, whatever the expression. -/
theorem names_good (op nm : List UInt8) (n2 n3 : Int) (s4 : List UInt8) (l5 l6 l7 kids : List (List Dat)) (hsz : szRs kids ≤ 1000000) (hraw : (rawOf kids op nm).length ≤ 1000001) :
    Good Tryz.prog tyTab 127 [.agg [.d (.str op), .d (.str nm), .d (.int .i64 n2), .d (.int .i64 n3), .d (.str s4), .d (.lst 32 l5), .d (.lst 9 l6), .d (.lst 119 l7), .d (.lst 36 kids)]] []
      (.ret false [29] [.lst 9 (rowsOfS (namesS (rawOf kids op nm)))] []) := by
  have hfn : Tryz.prog.funcs[127]? = some Tryz.f127 := Tryz.func127
  refine ⟨Tryz.f127, hfn, ok_name 127 _ hfn, by kernel_rfl, by rw [show Tryz.f127.ntmps = 11 by kernel_rfl]; simp, fun E g w vals hE hnx hn hvs H => ?_⟩
  rw [show Tryz.f127.ntmps = 11 by kernel_rfl] at H hn
  have hE' : E.w0 = w := hE
  have hpub : ∀ b, g.pub b → b < w.heap.size := fun b hb => (H.pb b hb).1
  have h0 := H.tm 0
  have hg0 : St.get ⟨numbered 0 [.agg [.d (.str op), .d (.str nm), .d (.int .i64 n2), .d (.int .i64 n3), .d (.str s4), .d (.lst 32 l5), .d (.lst 9 l6), .d (.lst 119 l7), .d (.lst 36 kids)]], boxesFrom 0 []⟩ 0 =
    .agg ([Dat.str op, .str nm, .int .i64 n2, .int .i64 n3, .str s4, .lst 32 l5, .lst 9 l6, .lst 119 l7, .lst 36 kids].map .d) := rfl
  rw [hg0] at h0
  obtain ⟨v0, hv0⟩ := arr1 (show vals.size = 1 from hvs)
  subst hv0
  obtain ⟨vs, hvs0, hcs⟩ := h0
  have hv0 : v0 = .agg vs := hvs0
  subst hv0
  obtain ⟨x0, x1, x2, x3, x4, x5, x6, x7, x8, rfl⟩ := arr9 (show vs.size = 9 from hcs.1.symm)
  have hsem := h175 _ op nm n2 n3 s4 l5 l6 l7 kids [] (Nat.le_refl _) hsz (by simp; omega)
  rw [List.nil_append] at hsem
  obtain ⟨fn, q1, q2, q3, q4, q5⟩ := sem_good tab0Ok hsem
  have hfn175 : fn = Tryz.f175 := Option.some.inj (q1.symm.trans Tryz.func175)
  subst hfn175
  have hr := rel175 (n := Tryz.f175.ntmps) hcs hpub (by rw [show Tryz.f175.ntmps = 20 by kernel_rfl]; omega)
  have hc175 := q5 (E2 w g _ Tryz.f175.ntmps) (g2 w g) (wN w _) (vals2 w _) rfl rfl rfl rfl hr
  refine walk127 x0 x1 x2 x3 x4 x5 x6 x7 x8 w _ (After w g (rowsOfS (rawOf kids op nm))) (Q4 w (rawOf kids op nm)) (hc175.mono fun e w3 hp => after175 hpub hp) (fun v w3 h => c177 (by omega) h) (fun v w4 h => ?_)
  refine (c178 (by omega) h (fun b => g.pub b ∨ w.heap.size + 2 ≤ b) (fun _ b hb => .inr hb)).mono fun e w5 ⟨v', h1, hk, hd⟩ => ⟨v', h1, ?_⟩
  have hsz5 := hk.sz
  -- only blocks that are there
  have hd' : DRep tyTab (rdr w5 fun b => g.pub b ∨ (w.heap.size + 2 ≤ b ∧ b < w5.heap.size)) (.lst 9 (rowsOfS (namesS (rawOf kids op nm)))) v' := hd.mono fun b i v ⟨hp, hv⟩ => by
    refine ⟨?_, hv⟩
    rcases hp with hp | hp
    · exact .inl hp
    · exact .inr ⟨hp, (cell_spot hv).2⟩
  exact finish_data H hE' hnx hk.wo hk.old (by omega) (by kernel_rfl) (show WT (tyTab 29).kind _ from by rw [show (tyTab 29).kind = .slice 9 by kernel_rfl]; rfl) (by kernel_rfl) _ (fun b hb => by
    rcases hb with hb | hb
    · exact ⟨by have := hpub b hb; omega, fun _ => hb⟩
    · exact ⟨hb.2, fun h => by omega⟩) (fun b hb => .inl hb) hd'
end Go.Ab
end

section
set_option linter.unusedSimpArgs false
/-! Sorting and leaving out what is told twice gives the same as inserting one by one. -/
set_option autoImplicit false
set_option linter.unusedVariables false
set_option maxRecDepth 100000
namespace Go.Ab
open Go.Proofs Go.Sort Go.RowKit

theorem blt_of {a b : Nat} (h : a < b) : Nat.blt a b = true := by rw [Nat.blt_eq]; exact h

theorem bcmp_zero : ∀ s t : List UInt8, bcmp s t = 0 ↔ s = t
  | [], [] => by simp [bcmp]
  | [], b :: t => by simp [bcmp]
  | a :: s, [] => by simp [bcmp]
  | a :: s, b :: t => by
    have ih := bcmp_zero s t
    show cond (Nat.blt a.toNat b.toNat) (-1) (cond (Nat.blt b.toNat a.toNat) 1 (bcmp s t)) = 0 ↔ _
    cases h1 : Nat.blt a.toNat b.toNat with
    | true =>
      rw [Nat.blt_eq] at h1
      simp only [cond_true, List.cons.injEq]
      constructor
      · intro h; cases h
      · rintro ⟨rfl, _⟩; omega
    | false =>
      rw [cond_false]
      have h1' : ¬ a.toNat < b.toNat := fun h => by rw [blt_of h] at h1; cases h1
      cases h2 : Nat.blt b.toNat a.toNat with
      | true =>
        rw [Nat.blt_eq] at h2
        simp only [cond_true, List.cons.injEq]
        constructor
        · intro h; cases h
        · rintro ⟨rfl, _⟩; omega
      | false =>
        have h2' : ¬ b.toNat < a.toNat := fun h => by rw [blt_of h] at h2; cases h2
        have : a = b := UInt8.toNat_inj.1 (by omega)
        subst this
        rw [cond_false, ih]
        simp

theorem bcmp_neg : ∀ s t : List UInt8, bcmp s t < 0 ↔ s < t
  | [], [] => by simp [bcmp]
  | [], b :: t => by simp [bcmp]
  | a :: s, [] => by simp [bcmp]
  | a :: s, b :: t => by
    have ih := bcmp_neg s t
    show cond (Nat.blt a.toNat b.toNat) (-1) (cond (Nat.blt b.toNat a.toNat) 1 (bcmp s t)) < 0 ↔ _
    rw [List.cons_lt_cons_iff, UInt8.lt_iff_toNat_lt]
    cases h1 : Nat.blt a.toNat b.toNat with
    | true =>
      rw [Nat.blt_eq] at h1
      simp [h1]
    | false =>
      rw [cond_false]
      have h1' : ¬ a.toNat < b.toNat := fun h => by rw [blt_of h] at h1; cases h1
      cases h2 : Nat.blt b.toNat a.toNat with
      | true =>
        rw [Nat.blt_eq] at h2
        have : a ≠ b := by rintro rfl; omega
        simp [h1', this]
      | false =>
        have h2' : ¬ b.toNat < a.toNat := fun h => by rw [blt_of h] at h2; cases h2
        have : a = b := UInt8.toNat_inj.1 (by omega)
        subst this
        rw [cond_false, ih]
        simp

theorem lt_of_le_ne {x y : List UInt8} (h : x ≤ y) (hne : x ≠ y) : x < y := by
  by_cases h' : y ≤ x
  · exact absurd (List.le_antisymm h h') hne
  · exact List.not_le.1 h'

/-- Rising lists of the same elements are the same. -/
theorem rise_unique : ∀ {a b : List (List UInt8)}, a.Pairwise (· < ·) → b.Pairwise (· < ·) → (∀ x, x ∈ a ↔ x ∈ b) → a = b
  | [], [], _, _, _ => rfl
  | [], y :: b, _, _, h => by have := (h y).2 List.mem_cons_self; cases this
  | x :: a, [], _, _, h => by have := (h x).1 List.mem_cons_self; cases this
  | x :: a, y :: b, ha, hb, h => by
    rw [List.pairwise_cons] at ha hb
    have hxy : x = y := by
      rcases List.mem_cons.1 ((h x).1 List.mem_cons_self) with e | hx
      · exact e
      · rcases List.mem_cons.1 ((h y).2 List.mem_cons_self) with e | hy
        · exact e.symm
        · exact absurd (List.lt_trans (hb.1 x hx) (ha.1 y hy)) (List.lt_irrefl _)
    subst hxy
    have := rise_unique ha.2 hb.2 fun z => by
      constructor
      · intro hz
        rcases List.mem_cons.1 ((h z).1 (List.mem_cons_of_mem _ hz)) with e | hz'
        · subst e; exact absurd (ha.1 _ hz) (List.lt_irrefl _)
        · exact hz'
      · intro hz
        rcases List.mem_cons.1 ((h z).2 (List.mem_cons_of_mem _ hz)) with e | hz'
        · subst e; exact absurd (hb.1 _ hz) (List.lt_irrefl _)
        · exact hz'
    rw [this]

theorem insB_mem (s : List UInt8) : ∀ (l : List (List UInt8)) (x : List UInt8), x ∈ insB s l ↔ x = s ∨ x ∈ l
  | [], x => by show x ∈ [s] ↔ _; simp
  | t :: l, x => by
    have ih := insB_mem s l x
    show x ∈ cond (decide (bcmp s t = 0)) (t :: l) (cond (decide (bcmp s t < 0)) (s :: t :: l) (t :: insB s l)) ↔ _
    by_cases h0 : bcmp s t = 0
    · have := (bcmp_zero s t).1 h0
      subst this
      simp [h0]
    · by_cases h1 : bcmp s t < 0
      · simp [h0, h1]
      · simp only [h0, h1, decide_false, cond_false, List.mem_cons, ih]
        constructor
        · rintro (h | h | h)
          · exact .inr (.inl h)
          · exact .inl h
          · exact .inr (.inr h)
        · rintro (h | h | h)
          · exact .inr (.inl h)
          · exact .inl h
          · exact .inr (.inr h)
theorem insB_rise (s : List UInt8) : ∀ (l : List (List UInt8)), l.Pairwise (· < ·) → (insB s l).Pairwise (· < ·)
  | [], _ => by show List.Pairwise _ [s]; simp
  | t :: l, h => by
    have h' := h
    rw [List.pairwise_cons] at h
    have ih := insB_rise s l h.2
    show List.Pairwise _ (cond (decide (bcmp s t = 0)) (t :: l) (cond (decide (bcmp s t < 0)) (s :: t :: l) (t :: insB s l)))
    by_cases h0 : bcmp s t = 0
    · simp only [h0, decide_true, cond_true]; exact h'
    · by_cases h1 : bcmp s t < 0
      · simp only [h0, h1, decide_false, decide_true, cond_true, cond_false]
        have hst := (bcmp_neg s t).1 h1
        rw [List.pairwise_cons]
        refine ⟨fun y hy => ?_, h'⟩
        rcases List.mem_cons.1 hy with rfl | hy
        · exact hst
        · exact List.lt_trans hst (h.1 y hy)
      · simp only [h0, h1, decide_false, cond_false]
        rw [List.pairwise_cons]
        refine ⟨fun y hy => ?_, ih⟩
        rcases (insB_mem s l y).1 hy with rfl | hy
        · have hn : ¬ y < t := fun hh => h1 ((bcmp_neg y t).2 hh)
          exact lt_of_le_ne (List.not_lt.1 hn) fun e => h0 ((bcmp_zero y t).2 e.symm)
        · exact h.1 y hy
theorem sortB_mem : ∀ (l : List (List UInt8)) (x : List UInt8), x ∈ sortB l ↔ x ∈ l
  | [], x => by show x ∈ [] ↔ _; simp
  | s :: l, x => by
    show x ∈ insB s (sortB l) ↔ _
    rw [insB_mem, sortB_mem l, List.mem_cons]
theorem sortB_rise : ∀ (l : List (List UInt8)), (sortB l).Pairwise (· < ·)
  | [] => by show List.Pairwise _ []; simp
  | s :: l => insB_rise s _ (sortB_rise l)

theorem cu_spec (d : Array (List UInt8)) (hs : ∀ i j, i ≤ j → j < d.size → d[i]! ≤ d[j]!) : ∀ m, m ≤ d.size → (Lib.compactUpTo d m).Pairwise (· < ·) ∧ ∀ x, x ∈ Lib.compactUpTo d m ↔ ∃ j, j < m ∧ d[j]! = x
  | 0, _ => ⟨by simp [Lib.compactUpTo], fun x => by simp [Lib.compactUpTo]⟩
  | m + 1, hm => by
    obtain ⟨ih1, ih2⟩ := cu_spec d hs m (by omega)
    rw [Lib.compactUpTo_succ]
    by_cases hk : Lib.keeps d m = true
    · rw [if_pos hk]
      refine ⟨?_, fun x => ?_⟩
      · rw [List.pairwise_append]
        refine ⟨ih1, by simp, fun a ha b hb => ?_⟩
        rw [List.mem_singleton] at hb
        subst hb
        obtain ⟨j, hj, rfl⟩ := (ih2 a).1 ha
        simp only [Lib.keeps, decide_eq_true_eq] at hk
        have hne : d[m]! ≠ d[m - 1]! := by
          rcases hk with h | h
          · omega
          · exact h
        have h1 := hs j (m - 1) (by omega) (by omega)
        have h2 := hs (m - 1) m (by omega) (by omega)
        exact List.lt_of_le_of_lt h1 (lt_of_le_ne h2 (Ne.symm hne))
      · rw [List.mem_append, ih2, List.mem_singleton]
        constructor
        · rintro (⟨j, hj, e⟩ | e)
          · exact ⟨j, by omega, e⟩
          · exact ⟨m, by omega, e.symm⟩
        · rintro ⟨j, hj, e⟩
          by_cases h : j = m
          · subst h; exact .inr e.symm
          · exact .inl ⟨j, by omega, e⟩
    · rw [if_neg hk, List.append_nil]
      refine ⟨ih1, fun x => ?_⟩
      rw [ih2]
      simp only [Lib.keeps, decide_eq_true_eq, not_or, ne_eq, Decidable.not_not] at hk
      constructor
      · rintro ⟨j, hj, e⟩; exact ⟨j, by omega, e⟩
      · rintro ⟨j, hj, e⟩
        by_cases h : j = m
        · subst h; exact ⟨j - 1, by omega, by rw [← hk.2]; exact e⟩
        · exact ⟨j, by omega, e⟩

theorem names_all (l : List (List UInt8)) : sortB l = namesS l := by
  have hsorted : (sorted l).Pairwise fun x y => x ≤ y := by
    have := List.pairwise_mergeSort (le := fun x y : List UInt8 => decide (x ≤ y)) (fun a b c h h' => by simp only [decide_eq_true_eq] at *; exact List.le_trans h h') (fun a b => by simp only [Bool.or_eq_true, decide_eq_true_eq]; exact List.le_total a b) l
    exact this.imp fun h => by simpa using h
  have hidx : ∀ i j, i ≤ j → j < (sorted l).toArray.size → (sorted l).toArray[i]! ≤ (sorted l).toArray[j]! := fun i j hij hj => by
    have hj' : j < (sorted l).length := by simpa using hj
    rw [getElem!_pos _ i (by simp; omega), getElem!_pos _ j hj, List.getElem_toArray, List.getElem_toArray]
    by_cases h : i = j
    · subst h; exact List.not_lt.1 (List.lt_irrefl _)
    · exact List.pairwise_iff_getElem.1 hsorted i j (by omega) hj' (by omega)
  obtain ⟨h1, h2⟩ := cu_spec (sorted l).toArray hidx (sorted l).length (by simp)
  refine rise_unique (sortB_rise l) h1 fun x => ?_
  rw [sortB_mem]
  show _ ↔ x ∈ Lib.compactUpTo _ _
  rw [h2]
  have hmem : x ∈ l ↔ x ∈ sorted l := (List.mergeSort_perm l _).mem_iff.symm
  rw [hmem, List.mem_iff_getElem]
  constructor
  · rintro ⟨j, hj, e⟩
    exact ⟨j, hj, by rw [getElem!_pos _ j (by simpa using hj), List.getElem_toArray]; exact e⟩
  · rintro ⟨j, hj, e⟩
    exact ⟨j, hj, by rw [getElem!_pos _ j (by simpa using hj), List.getElem_toArray] at e; exact e⟩
end Go.Ab
end

section
set_option linter.unusedSimpArgs false
/-! The tables are right: what is told by other roads is so. -/
set_option autoImplicit false
set_option linter.unusedVariables false
set_option maxRecDepth 100000
namespace Go.Ab
open Go.Proofs Go.Sort Go.RowKit

mutual
theorem nmD_len : ∀ d : Dat, (nmD d).length ≤ szD d
  | .lst _ rows => by simp only [nmD, szD]; exact nmRs_len rows
  | .int _ _ => by simp [nmD]
  | .bool _ => by simp [nmD]
  | .str _ => by simp [nmD]
  | .fn _ _ => by simp [nmD]
  | .nilF => by simp [nmD]
  | .ifc _ _ => by simp [nmD]
  | .nilI => by simp [nmD]
  | .nilP => by simp [nmD]
  | .ref _ _ => by simp [nmD]
theorem nmRs_len : ∀ rows : List (List Dat), (nmRs rows).length ≤ szRs rows
  | [] => by simp [nmRs]
  | r :: rs => by
    have h1 := nmRs_len rs
    have h2 := nmCs_len r 8
    have h3 : (cond ((r.getD 0 .nilP).s == [99, 111, 108]) [(r.getD 1 .nilP).s] ([] : List (List UInt8))).length ≤ 1 := by
      cases ((r.getD 0 .nilP).s == [99, 111, 108]) <;> simp
    simp only [nmRs, szRs, List.length_append]
    omega
theorem nmCs_len : ∀ (l : List Dat) (i : Nat), ((nmCs l).getD i []).length ≤ szCs l
  | [], i => by simp [nmCs]
  | x :: xs, 0 => by
    have := nmD_len x
    simp only [nmCs, szCs, List.getD_cons_zero]
    omega
  | x :: xs, i + 1 => by
    have := nmCs_len xs i
    simp only [nmCs, szCs, List.getD_cons_succ]
    omega
end
theorem raw_len (kids : List (List Dat)) (op nm : List UInt8) : (rawOf kids op nm).length ≤ 1 + szRs kids := by
  have h1 := nmRs_len kids
  have h3 : (cond (op == [99, 111, 108]) [nm] ([] : List (List UInt8))).length ≤ 1 := by
    cases (op == [99, 111, 108]) <;> simp
  unfold rawOf
  rw [List.length_append]
  omega

/-- Comparing strings is as it is told. -/
theorem bcmp_compare : ∀ (s t : List UInt8), Lib.compareBytes s t = bcmp s t
  | [], [] => rfl
  | [], _ :: _ => rfl
  | _ :: _, [] => rfl
  | a :: s, b :: t => by
    have ih := bcmp_compare s t
    show (if a < b then (-1 : Int) else if b < a then 1 else Lib.compareBytes s t) = cond (Nat.blt a.toNat b.toNat) (-1) (cond (Nat.blt b.toNat a.toNat) 1 (bcmp s t))
    rw [ih]
    have e : ∀ x y : UInt8, x < y ↔ Nat.blt x.toNat y.toNat = true := fun x y => by rw [Nat.blt_eq]; exact UInt8.lt_iff_toNat_lt
    by_cases h1 : a < b
    · rw [if_pos h1, (e a b).1 h1]; rfl
    · rw [if_neg h1, Bool.eq_false_iff.2 fun h => h1 ((e a b).2 h), cond_false]
      by_cases h2 : b < a
      · rw [if_pos h2, (e b a).1 h2]; rfl
      · rw [if_neg h2, Bool.eq_false_iff.2 fun h => h2 ((e b a).2 h), cond_false]

theorem fin_same {E : Ent} {g : Gh} {st : St} {a : Act} {w : World} {t : TypeId} {d : Dat} {v : Value} (H : Rel tyTab E g st a w) (hE : E.w0 = w) (hnx : E.nx = 0) (hc : (tyTab t).cells = [t]) (hk : WT (tyTab t).kind d) (hna : (tyTab t).kind.isAgg = false) (hd : DRep tyTab (rdr w g.pub) d v) :
    Post tyTab E [] (.ret false [t] [d] []) (.returned v) w :=
  finish_data H hE hnx ⟨rfl, rfl, rfl⟩ (fun _ _ => rfl) (Nat.le_refl _) hc hk hna g.pub (fun b hb => ⟨(H.pb b hb).1, fun _ => hb⟩) (fun _ h => h) hd

theorem compare_good (s t : List UInt8) : Good Tryz.prog tyTab 78 [.d (.str s), .d (.str t)] [] (.ret false [3] [.int .i64 (bcmp s t)] []) := by
  have hfn : Tryz.prog.funcs[78]? = some Tryz.f78 := Tryz.func78
  refine ⟨Tryz.f78, hfn, ok_name 78 _ hfn, by kernel_rfl, of_decide_eq_true (by kernel_rfl), fun E g w vals hE hnx hn hvs H => ?_⟩
  have hE' : E.w0 = w := hE
  obtain ⟨v0, v1, rfl⟩ : ∃ v0 v1, vals = #[v0, v1] := by
    have hl : vals.toList.length = 2 := by simpa using hvs
    match hm : vals.toList, hl with
    | [v0, v1], _ =>
      refine ⟨v0, v1, ?_⟩
      have : vals = vals.toList.toArray := by simp
      rw [this, hm]
  have h0 : DRep tyTab (rdr w g.pub) (.str s) ((subA #[v0, v1] Tryz.f78.ntmps).tmps.getD 0 undef) := H.tm 0
  have h1 : DRep tyTab (rdr w g.pub) (.str t) ((subA #[v0, v1] Tryz.f78.ntmps).tmps.getD 1 undef) := H.tm 1
  have e0 : (subA #[v0, v1] Tryz.f78.ntmps).tmps.getD 0 undef = v0 := by
    show (#[v0, v1] ++ Array.replicate _ undef).getD 0 undef = _
    simp [Array.getD_eq_getD_getElem?, Array.getElem?_append]
  have e1 : (subA #[v0, v1] Tryz.f78.ntmps).tmps.getD 1 undef = v1 := by
    show (#[v0, v1] ++ Array.replicate _ undef).getD 1 undef = _
    simp [Array.getD_eq_getD_getElem?, Array.getElem?_append]
  rw [e0] at h0
  rw [e1] at h1
  cases h0
  cases h1
  refine (Any.strings_Compare Tryz.lays106 ⟨s.toArray⟩ ⟨t.toArray⟩ w).mono fun e w' ⟨q1, q2⟩ => ?_
  subst q1; subst q2
  rw [show ((⟨s.toArray⟩ : ByteArray).data.toList) = s by simp, show ((⟨t.toArray⟩ : ByteArray).data.toList) = t by simp, bcmp_compare]
  exact fin_same H hE' hnx (by kernel_rfl) (by rw [show (tyTab 3).kind = .int .i64 by kernel_rfl]; rfl) (by kernel_rfl) (.int _ _)

theorem x_ok (f : FuncId) (args : List AV) (xs : List (List AV)) (r : Res) (h : xTab f args xs = some r) : Good tb.P tb.T f args xs r := by
  unfold xTab at h
  cases h78 : Nat.beq f 78 with
  | true =>
    rw [h78, cond_true] at h
    have := Nat.eq_of_beq_eq_true h78
    subst this
    split at h
    · split at h
      · cases h
        exact compare_good _ _
      · cases h
    · cases h
  | false =>
    rw [h78, cond_false] at h
    cases h127 : Nat.beq f 127 with
    | false => rw [h127, cond_false] at h; cases h
    | true =>
      rw [h127, cond_true] at h
      have := Nat.eq_of_beq_eq_true h127
      subst this
      split at h
      · split at h
        · obtain ⟨hc, h⟩ := cond_ends h (by simp)
          cases h
          have hl := Nat.le_of_ble_eq_true hc
          unfold namesOf
          rw [names_all]
          exact names_good _ _ _ _ _ _ _ _ _ hl (Nat.le_trans (raw_len _ _ _) (by omega))
        · cases h
      · cases h

theorem tabOk : TabOk tb := tab_ok x_ok
end Go.Ab
end

/- Part 7 of the proof that this seat's laws lean on: an abstract machine over the model's code, its soundness, and what it says of this program. -/
import Derived.Test.YticeaojhadjaaaaGreatDoorAxF
import Derived.Laws.AppendOwn

section
/-! Lengths, the least and the greatest, what is appended. -/
set_option autoImplicit false
set_option linter.unusedVariables false
set_option linter.unusedSimpArgs false
namespace Go.Ab
variable {P : Program} {C : Cfg} {E : Ent} {g : Gh} {st : St} {a : Act} {w : World} {o : Oper} {R : Type} {fail : R} {kp : Dat → R} {k : Eff → R} {res : R}

theorem tk_notInt {T : Tys} (hT : ∀ t, T t = tyOf P t) {t : TypeId} (hk : (T t).kind.known = true) (hi : (T t).kind.isInt = false) : ∃ d, P.underlying t = some d ∧ ∀ k, d ≠ .int k := by
  obtain ⟨i, h1, h2, _⟩ := tk_some hT (kind_known hk)
  cases hd : P.underlying t with
  | none => rw [hd] at h2; exact absurd h2 (kind_known hk)
  | some d =>
    refine ⟨d, rfl, fun k h => ?_⟩
    rw [hd, h] at h2
    rw [h2] at hi
    cases hi

theorem run_append_room' {as : Array TypeId} {t tx ty e : TypeId} (h0 : as[0]? = some t) (h1 : as[1]? = some tx) (ht : P.underlying t = some (.slice e)) {d : TypeDesc} (hx : P.underlying tx = some d) (hd : ∀ k, d ≠ .int k) {size : Nat} (hs : ∀ w, (sizeOf e).run P w = .ok size w)
    {base : Option Addr} {sLen sCap : Nat} {x : Value} {n : Nat} {news : Array Value} (hn : Builtin.lenOf x = Sem.pure n) (hnew : (Builtin.firstCells size n x).run P w = .ok news w) (hroom : sLen + n ≤ sCap) :
    (Builtin.append_ as ty #[.slice base sLen sCap, x]).run P w = ((match base with | some a => storeCells (a.add (sLen * size)) news.toList | none => pure ()).run P w).andThen fun _ w' => .ok (.slice base (sLen + n) sCap) w' := by
  have hm : (match d with | .int _ => true | _ => false) = false := by cases d <;> first | rfl | exact absurd rfl (hd _)
  cases base with
  | none => simp [Builtin.append_, h0, h1, run_underlying ht, run_underlying hx, hs, hn, hnew, hroom, hm]
  | some A => simp [Builtin.append_, h0, h1, run_underlying ht, run_underlying hx, hs, hn, hnew, hroom, hm]

theorem run_append_grow' {T : Tys} (hT : ∀ t, T t = tyOf P t) {as : Array TypeId} {t tx ty e : TypeId} (h0 : as[0]? = some t) (h1 : as[1]? = some tx) (ht : P.underlying t = some (.slice e)) {d : TypeDesc} (hx : P.underlying tx = some d) (hd : ∀ k, d ≠ .int k) (hk : (T e).kind ≠ .other) (hz : (T e).zok = true) (hb : (T e).bytes ≠ 0)
    {base : Option Addr} {sLen sCap : Nat} {x : Value} {n : Nat} {olds news : Array Value} (hn : Builtin.lenOf x = Sem.pure n) (hold : (Builtin.firstCells (T e).size sLen (.slice base sLen sCap)).run P w.drew = .ok olds w.drew) (hnew : (Builtin.firstCells (T e).size n x).run P w.drew = .ok news w.drew) (hroom : sCap < sLen + n)
    (hfit : (sLen + n) * (T e).bytes ≤ 140737488355328) :
    ∃ rest : Array Value, rest.size = (grownCap w (sLen + n) sCap e - (sLen + n)) * (T e).size ∧ (Builtin.append_ as ty #[.slice base sLen sCap, x]).run P w = .ok (.slice (some ⟨w.heap.size, 0, none⟩) (sLen + n) (grownCap w (sLen + n) sCap e)) (w.drew.alloc (.cells (olds ++ news ++ rest) e)) := by
  obtain ⟨i, i1, i2, i3, i4, i5⟩ := tk_some hT hk
  obtain ⟨z, z1, z2, z3, z4, z5⟩ := zok_run hT hz
  have hm : (match d with | .int _ => true | _ => false) = false := by cases d <;> first | rfl | exact absurd rfl (hd _)
  have hfits := growslice_fits hroom hfit
  have hr : ¬ (sLen + n ≤ sCap) := by omega
  have h48 : ¬ (281474976710656 < Builtin.nextslicecap (sLen + n) sCap * i.bytes) := by rw [← i4]; omega
  have hb' : ¬ i.bytes = 0 := by rw [← i4]; exact hb
  refine ⟨Builtin.zeroCells z.cells (grownCap w (sLen + n) sCap e - (sLen + n)), by rw [size_zeroCells, z2, z3], ?_⟩
  rw [i3] at hold hnew
  simp [Builtin.append_, h0, h1, run_underlying ht, run_underlying hx, sizeOf, typeInfo, i1, z1, hn, hr, hm, hb', h48, Question.forced, hold, hnew, newRow, grownCap]

end Go.Ab
end

section
/-! Rows that are appended. -/
set_option autoImplicit false
set_option linter.unusedVariables false
set_option linter.unusedSimpArgs false
namespace Go.Ab
variable {P : Program} {C : Cfg} {E : Ent} {g : Gh} {st : St} {a : Act} {w : World} {o : Oper} {R : Type} {fail : R} {kp : Dat → R} {k : Eff → R} {res : R}

/-- Rows, flat: the cells of a list of elements. -/
structure Rows (T : Tys) (R' : Rdr) (e : TypeId) (ys : List (List Dat)) (news : Array Value) (vs : Nat → Nat → Value) : Prop where
  size : news.size = ys.length * (T e).size
  rep : ∀ i, i < ys.length → RowRep T R' e (ys.getD i []) (vs i)
  at_ : ∀ i j, i < ys.length → j < (T e).size → news[i * (T e).size + j]? = some (vs i j)

theorem idx_lt {i n j s : Nat} (hi : i < n) (hj : j < s) : i * s + j < n * s := by
  have := Nat.mul_le_mul_right s (Nat.succ_le_of_lt hi)
  rw [Nat.succ_mul] at this
  omega

theorem run_rows {w' : World} {b o' n s : Nat} (hs : 0 < s) {vs : Nat → Nat → Value} (h : ∀ i j, i < n → j < s → w'.cell? ⟨b, o' + (i * s + j), none⟩ = some (vs i j)) :
    (loadCells ⟨b, o', none⟩ (n * s)).run P w' = .ok ((List.range (n * s)).map fun q => vs (q / s) (q % s)).toArray w' := by
  refine run_loadCells w' _ _ _ fun q hq => ?_
  rw [add_addr]
  have h1 : q / s < n := (Nat.div_lt_iff_lt_mul hs).2 hq
  have h2 := h (q / s) (q % s) h1 (Nat.mod_lt _ hs)
  rw [Nat.mul_comm (q / s) s, Nat.div_add_mod] at h2
  exact h2

theorem rows_flat {n s : Nat} (vs : Nat → Nat → Value) : ∀ i j, i < n → j < s → (((List.range (n * s)).map fun q => vs (q / s) (q % s)).toArray)[i * s + j]? = some (vs i j) := by
  intro i j hi hj
  have h1 := idx_lt hi hj
  have h2 : (i * s + j) / s = i := by
    rw [Nat.mul_comm, Nat.mul_add_div (by omega), Nat.div_eq_of_lt hj, Nat.add_zero]
  have h3 : (i * s + j) % s = j := by
    rw [Nat.mul_comm, Nat.mul_add_mod, Nat.mod_eq_of_lt hj]
  simp [h1, h2, h3]

theorem cell_heap {w w' : World} (h : w'.heap = w.heap) (A : Addr) : w'.cell? A = w.cell? A := by simp [World.cell?, h]

/-- A list that is read gives its cells. -/
theorem drep_rows {T : Tys} (R' : Rdr) (hR : ∀ b i v, R' b i v → w.cell? ⟨b, i, none⟩ = some v) {e : TypeId} (hs : 0 < (T e).size) {r : List (List Dat)} {v : Value} (h : DRep T R' (.lst e r) v) :
    ∃ A cap news vs, v = .slice A r.length cap ∧ r.length ≤ cap ∧ Rows T R' e r news vs ∧ (∀ w', w'.heap = w.heap → ∀ c, (Builtin.firstCells (T e).size r.length (.slice A r.length c)).run P w' = .ok news w') := by
  cases h with
  | lst e rows A cap vs hcap hsz ha hl hr ht =>
    by_cases h0 : 0 < r.length
    · obtain ⟨b, o', rfl, h2⟩ := ha h0
      refine ⟨_, cap, _, vs, rfl, hcap, ⟨by simp, fun i hi => ⟨by rw [hl i hi, hsz h0], fun j hj => ⟨hr i j hi (by rw [← hl i hi]; exact hj), ht i j hi (by rw [← hl i hi]; exact hj)⟩⟩, rows_flat vs⟩, fun w' hw c => ?_⟩
      simp only [Builtin.firstCells]
      exact run_rows hs fun i j hi hj => by rw [cell_heap hw]; exact hR _ _ _ (h2 i j hi hj)
    · have h0' : r.length = 0 := by omega
      refine ⟨A, cap, #[], vs, rfl, hcap, ⟨by simp [h0'], fun i hi => by omega, fun i j hi => by omega⟩, fun w' hw c => ?_⟩
      rw [h0']
      cases A <;> simp [Builtin.firstCells, loadCells, loadCellsFrom]

theorem own_rows {T : Tys} (R' : Rdr) {e : TypeId} (hs : 0 < (T e).size) {r : List (List Dat)} {v : Value} (h : OwnRel T R' w e r v) (hnt : isTag e = false) :
    ∃ A cap news vs, v = .slice A r.length cap ∧ r.length ≤ cap ∧ Rows T R' e r news vs ∧ (∀ w', w'.heap = w.heap → ∀ c, (Builtin.firstCells (T e).size r.length (.slice A r.length c)).run P w' = .ok news w') := by
  rcases h with ⟨rfl, _, A, rfl⟩ | ⟨_, b, cap, cur, ty, fr, vs, rfl, h2, h3, h4, h5, h6, h7, h8⟩ | ⟨h0, _⟩
  rotate_right
  · rw [hnt] at h0; cases h0
  · refine ⟨A, 0, #[], fun _ _ => undef, rfl, Nat.le_refl _, ⟨by simp, fun i hi => by simp at hi, fun i j hi => by simp at hi⟩, fun w' hw c => ?_⟩
    cases A <;> simp [Builtin.firstCells, loadCells, loadCellsFrom]
  · refine ⟨_, cap, _, vs, rfl, h4, ⟨by simp, fun i hi => (h8 i hi).1, rows_flat vs⟩, fun w' hw c => ?_⟩
    simp only [Builtin.firstCells]
    refine run_rows hs fun i j hi hj => ?_
    rw [cell_heap hw]
    have := (h8 i hi).2 j hj
    simp only [World.cell?, h2, Nat.zero_add]
    simpa using this

/-- What is appended, as the model reads it. -/
theorem src_rel (H : Rel C.ty E g st a w) {e : TypeId} (hs : 0 < (C.ty e).size) {x : Operand} {ys : List (List Dat)} (h : srcRows C.ty e st.get x = some ys) :
    ∃ news vs, Builtin.lenOf (a.eval x) = Sem.pure ys.length ∧ Rows C.ty (rdr w g.pub) e ys news vs ∧ (∀ w', w'.heap = w.heap → (Builtin.firstCells (C.ty e).size ys.length (a.eval x)).run P w' = .ok news w') := by
  have nil : ∀ e' v, ((∃ A cap, v = .slice A ([] : List (List Dat)).length cap) ∧ True) → ∃ news vs, Builtin.lenOf v = Sem.pure ([] : List (List Dat)).length ∧ Rows C.ty (rdr w g.pub) e [] news vs ∧ (∀ w', w'.heap = w.heap → (Builtin.firstCells (C.ty e').size ([] : List (List Dat)).length v).run P w' = .ok news w') := fun e' v ⟨⟨A, cap, hv⟩, _⟩ => by
    subst hv
    refine ⟨#[], fun _ _ => undef, rfl, ⟨by simp, fun i hi => by simp at hi, fun i j hi => by simp at hi⟩, fun w' hw => ?_⟩
    cases A <;> simp [Builtin.firstCells, loadCells, loadCellsFrom]
  have gen : ∀ p, rowsOf st.get x = some p → cond (Nat.beq p.1 e || p.2.isEmpty) (some p.2) none = some ys → ∃ news vs, Builtin.lenOf (a.eval x) = Sem.pure ys.length ∧ Rows C.ty (rdr w g.pub) e ys news vs ∧ (∀ w', w'.heap = w.heap → (Builtin.firstCells (C.ty e).size ys.length (a.eval x)).run P w' = .ok news w') := fun p hp hc => by
    obtain ⟨e', r⟩ := p
    cases hb : Nat.beq e' e || r.isEmpty with
    | false => simp only [hb] at hc; cases hc
    | true =>
      simp only [hb, cond_true, Option.some.injEq] at hc
      subst hc
      obtain ⟨⟨A, cap, hv⟩, h2⟩ := rowsOf_rel H hp
      by_cases hr : r = []
      · subst hr
        exact nil e _ ⟨⟨A, cap, hv⟩, trivial⟩
      · have he : e' = e := by
          simp only [Bool.or_eq_true] at hb
          rcases hb with hb | hb
          · exact Nat.eq_of_beq_eq_true hb
          · exact absurd (by simpa using hb) hr
        subst he
        rcases h2 with h2 | ⟨h2, h2n⟩
        · obtain ⟨A', cap', news, vs, q1, q2, q3, q4⟩ := drep_rows (P := P) (w := w) (rdr w g.pub) (fun b i v hv => hv.2) hs h2
          exact ⟨news, vs, by rw [q1]; rfl, q3, fun w' hw => by rw [q1]; exact q4 w' hw _⟩
        · obtain ⟨A', cap', news, vs, q1, q2, q3, q4⟩ := own_rows (P := P) (rdr w g.pub) hs h2 h2n
          exact ⟨news, vs, by rw [q1]; rfl, q3, fun w' hw => by rw [q1]; exact q4 w' hw _⟩
  unfold srcRows at h
  split at h
  · rename_i s hx
    split at h
    · rename_i hk
      obtain ⟨hc, h⟩ : (Nat.beq (C.ty e).size 1 && decide ((C.ty e).cells = [e])) = true ∧ some (s.map fun (b : UInt8) => [Dat.int .u8 (b.toNat : Int)]) = some ys := by
        cases hc : (Nat.beq (C.ty e).size 1 && decide ((C.ty e).cells = [e])) with
        | false => rw [hc] at h; cases h
        | true => rw [hc] at h; exact ⟨rfl, h⟩
      simp only [Bool.and_eq_true, decide_eq_true_eq] at hc
      have hs1 := Nat.eq_of_beq_eq_true hc.1
      cases h
      have hev := eval_str H hx
      refine ⟨s.toArray.map (fun b => Value.int .u8 (b.toNat : Int)), fun i _ => .int .u8 ((s.getD i 0).toNat : Int), by rw [hev]; simp [Builtin.lenOf, ByteArray.size]; rfl, ⟨by simp [hs1], fun i hi => ?_, fun i j hi hj => ?_⟩, fun w' hw => ?_⟩
      · have hi' : i < s.length := by simpa using hi
        have hrow : (s.map fun (b : UInt8) => [Dat.int .u8 (b.toNat : Int)]).getD i [] = [Dat.int .u8 ((s.getD i 0).toNat : Int)] := by
          simp [List.getD_eq_getElem?_getD, hi']
        rw [hrow]
        refine ⟨by simp [hc.2], fun j hj => ?_⟩
        have : j = 0 := by simpa using hj
        subst this
        refine ⟨DRep.int _ _, ?_⟩
        rw [hc.2]
        simp only [List.getD_cons_zero]
        rw [hk]
        rfl
      · have hi' : i < s.length := by simpa using hi
        have : j = 0 := by omega
        subst this
        simp [hs1, hi', List.getD_eq_getElem?_getD]
      · rw [hev, hs1]
        simp only [Builtin.firstCells]
        have hsz : (s.map fun (b : UInt8) => [Dat.int .u8 (b.toNat : Int)]).length = (⟨s.toArray⟩ : ByteArray).size := by simp [ByteArray.size]
        rw [hsz]
        have : (⟨s.toArray⟩ : ByteArray).extract 0 (⟨s.toArray⟩ : ByteArray).size = ⟨s.toArray⟩ := by simp
        rw [this]
        rfl
    · cases h
  · split at h
    · rename_i p hp
      exact gen p hp h
    · cases h

end Go.Ab
end

section
/-! Appends. -/
set_option autoImplicit false
set_option linter.unusedVariables false
set_option linter.unusedSimpArgs false
namespace Go.Ab
variable {P : Program} {C : Cfg} {E : Ent} {g : Gh} {st : St} {a : Act} {w : World} {o : Oper} {R : Type} {fail : R} {kp : Dat → R} {k : Eff → R} {res : R}

/-- A block that holds two lists' rows. -/
theorem OwnRel.append {T : Tys} {R' : Rdr} {e : TypeId} (hnt : isTag e = false) (hz : (T e).size = (T e).cells.length) {r ys : List (List Dat)} {n1 n2 : Array Value} {v1 v2 : Nat → Nat → Value} (h1 : Rows T R' e r n1 v1) (h2 : Rows T R' e ys n2 v2) {b cap : Nat} {cur : Array Value} {ty : TypeId} {fr : Nat × Nat}
    (hb : w.heap[b]? = some (.cells cur ty fr)) (hf : ∀ i, i < cur.size → ¬ (fr.1 ≤ i ∧ i < fr.2)) (hc : r.length + ys.length ≤ cap) (hc0 : 0 < cap) (hcs : cur.size = cap * (T e).size)
    (hcur : ∀ q, q < (r.length + ys.length) * (T e).size → cur[q]? = (n1 ++ n2)[q]?) : OwnRel T R' w e (r ++ ys) (.slice (some ⟨b, 0, none⟩) (r.length + ys.length) cap) := by
  refine .inr (.inl ⟨hnt, b, cap, cur, ty, fr, fun i => if i < r.length then v1 i else v2 (i - r.length), by simp, hb, hf, by simpa using hc, hc0, hz, hcs, fun i hi => ?_⟩)
  have hi' : i < r.length + ys.length := by simpa using hi
  by_cases hir : i < r.length
  · have hg : (r ++ ys).getD i [] = r.getD i [] := by simp [List.getD_eq_getElem?_getD, List.getElem?_append, hir]
    rw [hg]
    dsimp only
    rw [if_pos hir]
    refine ⟨h1.rep i hir, fun j hj => ?_⟩
    have hq := idx_lt hir hj
    rw [hcur _ (idx_lt hi' hj), Array.getElem?_append, if_pos (by rw [h1.size]; exact hq)]
    exact h1.at_ i j hir hj
  · have hg : (r ++ ys).getD i [] = ys.getD (i - r.length) [] := by simp [List.getD_eq_getElem?_getD, List.getElem?_append, hir]
    rw [hg]
    dsimp only
    rw [if_neg hir]
    have hiy : i - r.length < ys.length := by omega
    refine ⟨h2.rep _ hiy, fun j hj => ?_⟩
    have hle : r.length * (T e).size ≤ i * (T e).size := Nat.mul_le_mul_right _ (by omega)
    rw [hcur _ (idx_lt hi' hj), Array.getElem?_append, if_neg (by rw [h1.size]; omega), h1.size]
    have := h2.at_ (i - r.length) j hiy hj
    rw [Nat.sub_mul] at this
    rw [← this]
    congr 1
    omega

theorem Rows.ones {T : Tys} {R' : Rdr} {e : TypeId} {r : List (List Dat)} {n1 : Array Value} {v1 : Nat → Nat → Value} (hs : 0 < (T e).size) (hz : (T e).size = (T e).cells.length) (h : Rows T R' e r n1 v1) : ∀ v ∈ n1.toList, one1 v = true := by
  intro v hv
  obtain ⟨q, hq, rfl⟩ := List.mem_iff_getElem.1 hv
  have hq' : q < r.length * (T e).size := by rw [← h.size]; simpa using hq
  have h1 : q / (T e).size < r.length := (Nat.div_lt_iff_lt_mul hs).2 hq'
  have h2 := h.at_ _ _ h1 (Nat.mod_lt q hs)
  rw [Nat.mul_comm, Nat.div_add_mod] at h2
  have h3 : n1[q]? = some n1.toList[q] := by
    rw [Array.getElem?_eq_getElem (by simpa using hq)]; rfl
  rw [h3] at h2
  injection h2 with h2
  rw [h2]
  have h4 := (h.rep _ h1)
  exact (h4.2 _ (by rw [h4.1, ← hz]; exact Nat.mod_lt q hs)).1.one

theorem heap_grow {w : World} {cs : Array Value} {ty : TypeId} (b : Nat) (hb : b < w.heap.size) : ((w.drew.alloc (.cells cs ty)).heap)[b]? = w.heap[b]? :=
  heap_alloc_old w.drew _ b hb
theorem heap_grow_new {w : World} {cs : Array Value} {ty : TypeId} : ((w.drew.alloc (.cells cs ty)).heap)[w.heap.size]? = some (.cells cs ty) :=
  heap_alloc_new w.drew _

/-- The last step where a new row of one's own is yielded. -/
theorem Rel.putFresh {T : Tys} (H : Rel T E g st a w) {dst : Option Nat} {e : TypeId} {r : List (List Dat)} {x : Value} (hd : dstOk E.n dst (.own e r) = true) (ho : OwnRel T (rdr w g.pub) w e r x) (hf : ∀ b, ownB x = some b → Free E g st w b) :
    ∃ g', Rel T E g' (st.putO dst (.own e r)) (a.put dst x) w := by
  cases dst with
  | none => exact ⟨g, H⟩
  | some d =>
    have hs := put_same a d x (by rw [H.ns]; exact (dstOk_some hd).1)
    exact ⟨_, H.putOwn (.put a d x) (by rw [hs]; exact ho) fun b hb1 => by
      rw [hs] at hb1
      exact ⟨(hf b hb1).no, (hf b hb1).np, (hf b hb1).lt, (hf b hb1).ok⟩⟩

/-- A new block: nobody holds it. -/
theorem Rel.alloc {T : Tys} (H : Rel T E g st a w) (cs : Array Value) (ty : TypeId) : Rel T E g st a (w.drew.alloc (.cells cs ty)) ∧ Free E g st (w.drew.alloc (.cells cs ty)) w.heap.size ∧ (∀ b i v, rdr w g.pub b i v → rdr (w.drew.alloc (.cells cs ty)) g.pub b i v) := by
  have hsz : (w.drew.alloc (.cells cs ty)).heap.size = w.heap.size + 1 := by show (w.heap.push _).size = _; simp
  refine ⟨H.move (fun _ h => h) (fun _ _ => rfl) (fun _ _ => rfl) (fun _ _ _ => rfl) (fun b hb => heap_grow b ?_) (by omega) ⟨rfl, rfl, rfl⟩ (fun b hb _ => heap_grow b (Nat.lt_of_lt_of_le hb H.sz)) (fun b hb => .inl hb), ⟨fun h hh => ?_, fun h => ?_, by omega, .inl H.sz⟩, rdr_mono fun b hb => ⟨hb, heap_grow b (H.pb b hb).1⟩⟩
  · rcases hb with hb | ⟨h, hb⟩
    · exact (H.pb b hb).1
    · exact (H.hp h b hb).2.1
  · exact absurd (H.hp h _ hh).2.1 (Nat.lt_irrefl _)
  · exact absurd (H.pb _ h).1 (Nat.lt_irrefl _)

/-- An append that needs a new block. -/
theorem next_grow (hT : ∀ t, C.ty t = tyOf P t) {st1 : St} (H : Rel C.ty E g st1 a w) {as : Array TypeId} {t tx e : TypeId} (hnt : isTag e = false) (h0 : as[0]? = some t) (h1 : as[1]? = some tx) (ht : P.underlying t = some (.slice e)) {d : TypeDesc} (hx : P.underlying tx = some d) (hd : ∀ k, d ≠ .int k) (hk : (C.ty e).kind ≠ .other) (hz : (C.ty e).zok = true) (hb : (C.ty e).bytes ≠ 0) (hs : 0 < (C.ty e).size)
    {r ys : List (List Dat)} {n1 n2 : Array Value} {v1 v2 : Nat → Nat → Value} (q1 : Rows C.ty (rdr w g.pub) e r n1 v1) (q2 : Rows C.ty (rdr w g.pub) e ys n2 v2) {base : Option Addr} {sCap : Nat} {x : Value}
    (hn : Builtin.lenOf x = Sem.pure ys.length) (hold : (Builtin.firstCells (C.ty e).size r.length (.slice base r.length sCap)).run P w.drew = .ok n1 w.drew) (hnew : (Builtin.firstCells (C.ty e).size ys.length x).run P w.drew = .ok n2 w.drew) (hroom : sCap < r.length + ys.length)
    (hfit : (r.length + ys.length) * (C.ty e).bytes ≤ 140737488355328) {ty : TypeId} {dst : Option Nat} (hdst : dstOk E.n dst (.own e (r ++ ys)) = true) :
    ∃ v' w' g', (Builtin.append_ as ty #[.slice base r.length sCap, x]).run P w = .ok v' w' ∧ Rel C.ty E g' (st1.putO dst (.own e (r ++ ys))) (a.put dst v') w' := by
  obtain ⟨rest, p1, p2⟩ := run_append_grow' (P := P) (ty := ty) hT h0 h1 ht hx hd hk hz hb hn hold hnew hroom hfit
  have hz' : (C.ty e).size = (C.ty e).cells.length := by obtain ⟨z, _, _, h3, _⟩ := zok_run hT hz; exact h3
  have hge := grownCap_ge w (r.length + ys.length) sCap e
  obtain ⟨K1, K2, K3⟩ := H.alloc (n1 ++ n2 ++ rest) e
  have hown : OwnRel C.ty (rdr (w.drew.alloc (.cells (n1 ++ n2 ++ rest) e)) g.pub) (w.drew.alloc (.cells (n1 ++ n2 ++ rest) e)) e (r ++ ys) (.slice (some ⟨w.heap.size, 0, none⟩) (r.length + ys.length) (grownCap w (r.length + ys.length) sCap e)) := by
    refine OwnRel.append hnt hz' (n1 := n1) (n2 := n2) (v1 := v1) (v2 := v2) ⟨q1.size, fun i hi => (q1.rep i hi).mono K3, q1.at_⟩ ⟨q2.size, fun i hi => (q2.rep i hi).mono K3, q2.at_⟩ heap_grow_new (fun i _ => by simp) hge (by omega) ?_ fun q hq => ?_
    · simp only [Array.size_append, q1.size, q2.size, p1, ← Nat.add_mul]
      congr 1
      omega
    · rw [Array.getElem?_append, if_pos]
      simp only [Array.size_append, q1.size, q2.size, ← Nat.add_mul]
      exact hq
  obtain ⟨g', K4⟩ := K1.putFresh hdst hown (fun b hb1 => by
    have : b = w.heap.size := by
      simp only [ownB] at hb1
      split at hb1
      · cases hb1
      · simpa using hb1.symm
    rw [this]
    exact K2)
  exact ⟨_, _, g', p2, K4⟩

end Go.Ab
end

section
/-! The builtin functions. -/
set_option autoImplicit false
set_option linter.unusedVariables false
set_option linter.unusedSimpArgs false
namespace Go.Ab
variable {P : Program} {C : Cfg} {E : Ent} {g : Gh} {st : St} {a : Act} {w : World} {o : Oper} {R : Type} {fail : R} {kp : Dat → R} {k : Eff → R} {res : R}

/-- An append within a row's capacity. -/
theorem next_room (hT : ∀ t, C.ty t = tyOf P t) {st1 : St} (H : Rel C.ty E g st1 a w) {as : Array TypeId} {t tx e : TypeId} (hnt : isTag e = false) (h0 : as[0]? = some t) (h1 : as[1]? = some tx) (ht : P.underlying t = some (.slice e)) {d : TypeDesc} (hx : P.underlying tx = some d) (hd : ∀ k, d ≠ .int k) (hk : (C.ty e).kind ≠ .other) (hz : (C.ty e).zok = true) (hs : 0 < (C.ty e).size)
    {r ys : List (List Dat)} {n2 : Array Value} {v2 : Nat → Nat → Value} {v : Value} (hown : OwnRel C.ty (rdr w g.pub) w e r v) (hfree : ∀ b, ownB v = some b → Free E g st1 w b) (q2 : Rows C.ty (rdr w g.pub) e ys n2 v2) {A : Option Addr} {sCap : Nat} (hv : v = .slice A r.length sCap) {x : Value}
    (hn : Builtin.lenOf x = Sem.pure ys.length) (hnew : (Builtin.firstCells (C.ty e).size ys.length x).run P w = .ok n2 w) (hroom : r.length + ys.length ≤ sCap)
    {ty : TypeId} {dst : Option Nat} (hdst : dstOk E.n dst (.own e (r ++ ys)) = true) :
    ∃ v' w' g', (Builtin.append_ as ty #[v, x]).run P w = .ok v' w' ∧ Rel C.ty E g' (st1.putO dst (.own e (r ++ ys))) (a.put dst v') w' := by
  have hz' : (C.ty e).size = (C.ty e).cells.length := by obtain ⟨z, _, _, h3, _⟩ := zok_run hT hz; exact h3
  have hrun := run_append_room' (P := P) (ty := ty) h0 h1 ht hx hd (fun w => run_sizeP hT hk w) (base := A) (sLen := r.length) (sCap := sCap) hn hnew hroom
  rcases hown with ⟨rfl, _, A', rfl⟩ | ⟨_, b, cap, cur, ty1, fr, vs, rfl, k2, k3, k4, k5, k6, k7, k8⟩ | ⟨h0', _⟩
  rotate_right
  · rw [hnt] at h0'; cases h0'
  · cases hv
    have hy : ys = [] := List.eq_nil_of_length_eq_zero (by simpa using hroom)
    subst hy
    have hn2 : n2 = #[] := by
      have := q2.size
      simpa using this
    subst hn2
    obtain ⟨g', K⟩ := H.putFresh hdst (x := .slice A 0 0) (.inl ⟨rfl, hnt, A, rfl⟩) (fun b hb => by cases A <;> simp [ownB] at hb)
    refine ⟨_, w, g', ?_, K⟩
    rw [show (Value.slice A ([] : List (List Dat)).length 0) = .slice A 0 0 from rfl] at hrun
    rw [hrun]
    cases A <;> simp [storeCells]
  · cases hv
    have hf := hfree b (by simp [ownB]; omega)
    obtain ⟨w', z1, z2, z3⟩ := run_store_row P b (r.length * (C.ty e).size) ty1 fr n2.toList 0 cur w k2 k3 (by
      have h5 : r.length * (C.ty e).size + ys.length * (C.ty e).size ≤ cur.size := by rw [k7, ← Nat.add_mul]; exact Nat.mul_le_mul_right _ hroom
      have h6 : n2.toList.length = ys.length * (C.ty e).size := by rw [← q2.size]; simp
      omega) (q2.ones hs hz')
    simp only [Nat.add_zero] at z1 z2
    have K1 : Rel C.ty E g st1 a w' := H.move (fun _ h => h) (fun _ _ => rfl) (fun _ _ => rfl) (fun _ _ _ => rfl) (fun b' hb => z3.other b' fun e1 => ?_) (by rw [z3.size]; exact Nat.le_refl _) z3.rest (fun b' hb1 hb2 => z3.other b' fun e1 => ?_) (fun b hb => .inl hb)
    · have hR : ∀ b i v, rdr w g.pub b i v → rdr w' g.pub b i v := rdr_mono fun b' hb => ⟨hb, z3.other b' fun e1 => hf.np (e1 ▸ hb)⟩
      have hlen : (cur.toList.take (r.length * (C.ty e).size) ++ n2.toList ++ cur.toList.drop (r.length * (C.ty e).size + n2.toList.length)).toArray.size = cur.size := by
        have h5 : r.length * (C.ty e).size + ys.length * (C.ty e).size ≤ cur.size := by rw [k7, ← Nat.add_mul]; exact Nat.mul_le_mul_right _ hroom
        have h6 : n2.toList.length = ys.length * (C.ty e).size := by rw [← q2.size]; simp
        have h7 : cur.toList.length = cur.size := by simp
        simp only [List.size_toArray, List.length_append, List.length_take, List.length_drop, h6, h7]
        omega
      have hn1 : Rows C.ty (rdr w g.pub) e r (cur.extract 0 (r.length * (C.ty e).size)) vs := by
        have h5 : r.length * (C.ty e).size ≤ cur.size := by rw [k7]; exact Nat.mul_le_mul_right _ k4
        refine ⟨by simp; omega, fun i hi => (k8 i hi).1, fun i j hi hj => ?_⟩
        have := (k8 i hi).2 j hj
        have h6 := idx_lt hi hj
        rw [Array.getElem?_extract]
        simp only [Nat.zero_add]
        rw [if_pos (by omega)]
        exact this
      have hown' : OwnRel C.ty (rdr w' g.pub) w' e (r ++ ys) (.slice (some ⟨b, 0, none⟩) (r.length + ys.length) sCap) := by
        refine OwnRel.append hnt hz' (n1 := cur.extract 0 (r.length * (C.ty e).size)) (n2 := n2) (v1 := vs) (v2 := v2) ⟨hn1.size, fun i hi => (hn1.rep i hi).mono hR, hn1.at_⟩ ⟨q2.size, fun i hi => (q2.rep i hi).mono hR, q2.at_⟩ z2 (fun i hi => k3 i (by rw [hlen] at hi; exact hi)) hroom k5 (by rw [hlen, k7]) fun q hq => ?_
        rw [Array.getElem?_append, hn1.size, List.getElem?_toArray, List.getElem?_append, List.getElem?_append]
        have h5 : r.length * (C.ty e).size ≤ cur.size := by rw [k7]; exact Nat.mul_le_mul_right _ k4
        have h6 : (cur.toList.take (r.length * (C.ty e).size)).length = r.length * (C.ty e).size := by simp; omega
        rw [List.length_append, h6]
        rw [Nat.add_mul, ← q2.size] at hq
        rw [if_pos (by simpa using hq)]
        by_cases h7 : q < r.length * (C.ty e).size
        · rw [if_pos h7, if_pos h7, Array.getElem?_extract]
          simp only [Nat.zero_add]
          rw [if_pos (by omega), List.getElem?_take, if_pos h7]
          simp
        · rw [if_neg h7, if_neg h7]
          simp
      have hfree' : Free E g st1 w' b := ⟨hf.no, hf.np, by rw [z3.size]; exact hf.lt, hf.ok⟩
      obtain ⟨g', K⟩ := K1.putFresh hdst hown' (fun b' hb1 => by
        have : b' = b := by
          simp only [ownB] at hb1
          split at hb1
          · cases hb1
          · simpa using hb1.symm
        rw [this]
        exact hfree')
      refine ⟨_, w', g', ?_, K⟩
      rw [hrun]
      simp only [add_addr, Nat.zero_add, z1, Result.andThen_ok]
    · subst e1
      rcases hb with hb | ⟨h, hb⟩
      · exact hf.np hb
      · exact hf.no h hb
    · subst e1
      rcases hf.ok with h3 | h3
      · omega
      · exact hb2 h3

/-- An append onto a row of one's own (which is a temporary's no more). -/
theorem next_onto (hT : ∀ t, C.ty t = tyOf P t) {st1 : St} (H : Rel C.ty E g st1 a w) {as : Array TypeId} {t tx e : TypeId} (hnt : isTag e = false) (h0 : as[0]? = some t) (h1 : as[1]? = some tx) (ht : P.underlying t = some (.slice e)) {d : TypeDesc} (hx : P.underlying tx = some d) (hd : ∀ k, d ≠ .int k) (hk : (C.ty e).kind ≠ .other) (hz : (C.ty e).zok = true) (hb : (C.ty e).bytes ≠ 0) (hs : 0 < (C.ty e).size)
    {r ys : List (List Dat)} {n2 : Array Value} {v2 : Nat → Nat → Value} {v : Value} (hown : OwnRel C.ty (rdr w g.pub) w e r v) (hfree : ∀ b, ownB v = some b → Free E g st1 w b) (q2 : Rows C.ty (rdr w g.pub) e ys n2 v2) {x : Value}
    (hn : Builtin.lenOf x = Sem.pure ys.length) (hnew : ∀ w', w'.heap = w.heap → (Builtin.firstCells (C.ty e).size ys.length x).run P w' = .ok n2 w') (hfit : (r.length + ys.length) * (C.ty e).bytes ≤ 140737488355328)
    {ty : TypeId} {dst : Option Nat} (hdst : dstOk E.n dst (.own e (r ++ ys)) = true) :
    ∃ v' w' g', (Builtin.append_ as ty #[v, x]).run P w = .ok v' w' ∧ Rel C.ty E g' (st1.putO dst (.own e (r ++ ys))) (a.put dst v') w' := by
  obtain ⟨A, cap, n1, v1, p1, p2, p3, p4⟩ := own_rows (P := P) (rdr w g.pub) hs hown hnt
  by_cases hroom : r.length + ys.length ≤ cap
  · exact next_room hT H hnt h0 h1 ht hx hd hk hz hs hown hfree q2 p1 hn (hnew w rfl) hroom hdst
  · subst p1
    exact next_grow hT H hnt h0 h1 ht hx hd hk hz hb hs p3 q2 hn (p4 w.drew rfl _) (hnew w.drew rfl) (by omega) hfit hdst

theorem get01 {as : Array TypeId} {t tx : TypeId} {ts : List TypeId} (h : as.toList = t :: tx :: ts) : as[0]? = some t ∧ as[1]? = some tx := by
  cases as with
  | mk l => simp at h; subst h; exact ⟨rfl, rfl⟩

theorem args2 {c : Array Operand} {x y : Operand} (ρ : Operand → Value) (h : c.toList = [x, y]) : c.map ρ = #[ρ x, ρ y] := by
  cases c with
  | mk l => simp at h; subst h; simp
theorem args1 {c : Array Operand} {x : Operand} (ρ : Operand → Value) (h : c.toList = [x]) : c.map ρ = #[ρ x] := by
  cases c with
  | mk l => simp at h; subst h; simp

theorem ev_append (hT : ∀ t, C.ty t = tyOf P t) (H : Rel C.ty E g st a w) {args : Array Operand} {argTypes : Array TypeId} {s x : Operand} {t tx : TypeId} {ts : List TypeId} (hop : o.op = .call ⟨.builtin .append, args, argTypes⟩) (ha : args.toList = [s, x]) (ht : argTypes.toList = t :: tx :: ts)
    (h : evBuiltin C fail st.get .append args.toList argTypes.toList k = res) (hne : res ≠ fail) : Ends P C E st a w o kp k res := by
  obtain ⟨h0, h1⟩ := get01 ht
  have hrun : (execOp a.eval o).run P w = ((Builtin.append_ argTypes o.type #[a.eval s, a.eval x]).run P w).andThen fun v w' => .ok (.value v) w' := by
    simp [execOp, hop, resolve, invoke, builtin, args2 _ ha]
  rw [ha, ht] at h
  simp only [evBuiltin] at h
  split at h
  · rename_i e hk0
    have hty : P.underlying t = some (.slice e) := by
      obtain ⟨_, _, h5, _⟩ := tk_some hT (t := t) (by rw [hk0]; simp)
      rw [hk0] at h5
      exact tk_slice h5.symm
    obtain ⟨hc, h⟩ := cond_ends h hne
    simp only [Bool.and_eq_true, Bool.not_eq_true'] at hc
    obtain ⟨⟨⟨⟨⟨⟨c1, c2⟩, c3⟩, c4⟩, c5⟩, c6⟩, hnt⟩ := hc
    obtain ⟨d, hx, hd⟩ := tk_notInt hT c3 c4
    have hk := kind_known c2
    have hb : (C.ty e).bytes ≠ 0 := fun h0 => by rw [h0] at c5; cases c5
    have hs : 0 < (C.ty e).size := Nat.pos_of_ne_zero fun h0 => by rw [h0] at c6; cases c6
    split at h
    · rename_i ys hys
      obtain ⟨n2, v2, q1, q2, q3⟩ := src_rel (P := P) H hs hys
      split at h
      · rename_i u hu
        split at h
        · rename_i e' r hr
          obtain ⟨hc, h⟩ := cond_ends h hne
          simp only [Bool.and_eq_true, decide_eq_true_eq] at hc
          have he := Nat.eq_of_beq_eq_true hc.1
          subst he
          obtain ⟨e1, r1, o1, o2, o3⟩ := owner_rel H hu
          rw [hr] at o1
          cases o1
          obtain ⟨K1, K2, K3⟩ := H.loosen hr
          rw [← o2] at K2 K3
          refine .of h fun K Q hdst hK => ?_
          obtain ⟨v', w', g', z1, z2⟩ := next_onto (P := P) (ty := o.type) (dst := o.dst) hT K1 hnt h0 h1 hty hx hd hk c1 hb hs K2 K3 q2 q1 q3 hc.2 hdst
          unfold Oper.wp
          rw [hrun, z1]
          exact hK g' _ _ z2
        · exact absurd h.symm hne
      · rename_i hu
        split at h
        · rename_i e' hnl
          obtain ⟨hc, h⟩ := cond_ends h hne
          simp only [decide_eq_true_eq] at hc
          obtain ⟨n1, _, _⟩ := operand_rel H s (by rw [hnl]; rfl)
          rw [hnl] at n1
          have hv : a.eval s = .slice none 0 0 := n1
          refine .of h fun K Q hdst hK => ?_
          obtain ⟨v', w', g', z1, z2⟩ := next_onto (P := P) (ty := o.type) (dst := o.dst) (r := []) (v := .slice none 0 0) hT H hnt h0 h1 hty hx hd hk c1 hb hs (.inl ⟨rfl, hnt, none, rfl⟩) (fun b hb => by simp [ownB] at hb) q2 q1 q3 (by simpa using hc) hdst
          unfold Oper.wp
          rw [hrun, hv, z1]
          exact hK g' _ _ z2
        · rename_i e' r hfl
          obtain ⟨hc, h⟩ := cond_ends h hne
          simp only [Bool.and_eq_true, decide_eq_true_eq, Bool.not_eq_true'] at hc
          have he := Nat.eq_of_beq_eq_true hc.1.1
          subst he
          obtain ⟨n1, _, _⟩ := operand_rel H s (by rw [hfl]; rfl)
          rw [hfl] at n1
          obtain ⟨A, hv, hdr⟩ := n1
          obtain ⟨A', cap', n1', v1, p1, p2, p3, p4⟩ := drep_rows (P := P) (w := w) (rdr w g.pub) (fun b i v hv => hv.2) hs hdr
          rw [hv] at p1
          cases p1
          have hy : ys.length ≠ 0 := fun h0 => by
            have : ys = [] := List.eq_nil_of_length_eq_zero h0
            rw [this] at hc
            cases hc.2
          refine .of h fun K Q hdst hK => ?_
          obtain ⟨v', w', g', z1, z2⟩ := next_grow (P := P) (ty := o.type) (dst := o.dst) hT H hnt h0 h1 hty hx hd hk c1 hb hs p3 q2 q1 (p4 w.drew rfl _) (q3 w.drew rfl) (sCap := r.length) (base := A) (by omega) hc.1.2 hdst
          unfold Oper.wp
          rw [hrun, hv, z1]
          exact hK g' _ _ z2
        · exact absurd h.symm hne
    · exact absurd h.symm hne
  · exact absurd h.symm hne

theorem ev_builtin (hT : ∀ t, C.ty t = tyOf P t) (H : Rel C.ty E g st a w) {b : Builtin} {args : Array Operand} {argTypes : Array TypeId} (hop : o.op = .call ⟨.builtin b, args, argTypes⟩)
    (h : evBuiltin C fail st.get b args.toList argTypes.toList k = res) (hne : res ≠ fail) : Ends P C E st a w o kp k res := by
  have h' := h
  unfold evBuiltin at h
  split at h
  · rename_i x t ts ha ht
    have h0 : argTypes[0]? = some t := by
      cases argTypes with
      | mk l => simp at ht; subst ht; rfl
    have hrun : (execOp a.eval o).run P w = ((Builtin.len_ argTypes o.type #[a.eval x]).run P w).andThen fun v w' => .ok (.value v) w' := by
      simp [execOp, hop, resolve, invoke, builtin, args1 _ ha]
    split at h
    · rename_i hk
      have hty : P.underlying t = some .string := by
        obtain ⟨_, _, h5, _⟩ := tk_some hT (t := t) (by rw [hk]; simp)
        rw [hk] at h5
        exact tk_string h5.symm
      split at h
      · rename_i s hs
        refine .of h (.data H rfl (x := .int .i64 s.length) ?_ (.int _ _))
        rw [hrun, eval_str H hs, run_len_str hty _ _ h0]
        simp [ByteArray.size]
      · exact absurd h.symm hne
    · rename_i e hk
      have hty : P.underlying t = some (.slice e) := by
        obtain ⟨_, _, h5, _⟩ := tk_some hT (t := t) (by rw [hk]; simp)
        rw [hk] at h5
        exact tk_slice h5.symm
      split at h
      · rename_i e' r hr
        obtain ⟨⟨A, cap, hv⟩, _⟩ := rowsOf_rel H hr
        exact .of h (.data H rfl (x := .int .i64 r.length) (by rw [hrun, hv, run_len_slice hty _ _ _ _ h0]; rfl) (.int _ _))
      · exact absurd h.symm hne
    · exact absurd h.symm hne
  · rename_i x y ha
    split at h
    · rename_i ik p jk q hx hy
      exact .of h (.data H rfl (x := .int ik (if q < p then q else p)) (by simp [execOp, hop, resolve, invoke, builtin, args2 _ ha, Builtin.min_, Builtin.min2, eval_int H hx, eval_int H hy]) (.int _ _))
    · exact absurd h.symm hne
  · rename_i x y ha
    split at h
    · rename_i ik p jk q hx hy
      exact .of h (.data H rfl (x := .int ik (if q > p then q else p)) (by simp [execOp, hop, resolve, invoke, builtin, args2 _ ha, Builtin.max_, Builtin.max2, eval_int H hx, eval_int H hy]) (.int _ _))
    · exact absurd h.symm hne
  · rename_i s x t tx ts ha ht
    exact ev_append hT H hop ha ht h' hne
  · exact absurd h.symm hne

end Go.Ab
end

section
/-! Parts of structs and strings, cuts, asserted types. -/
set_option autoImplicit false
set_option linter.unusedVariables false
set_option linter.unusedSimpArgs false
namespace Go.Ab
variable {P : Program} {C : Cfg} {E : Ent} {g : Gh} {st : St} {a : Act} {w : World} {o : Oper} {R : Type} {fail : R} {kp : Dat → R} {k : Eff → R} {res : R}

theorem bound_ends {x : Option AV} {dflt top : Nat} {kk : Nat → R} (h : bound fail x dflt top kk = res) (hne : res ≠ fail) :
    ∃ n, kk n = res ∧ ((x = none ∧ n = dflt) ∨ ∃ ik z, x = some (.d (.int ik z)) ∧ 0 ≤ z ∧ z ≤ (top : Int) ∧ n = z.toNat) := by
  unfold bound at h
  split at h
  · exact ⟨dflt, h, .inl ⟨rfl, rfl⟩⟩
  · rename_i ik z
    by_cases h1 : 0 ≤ z ∧ z ≤ (top : Int)
    · simp only [h1.1, h1.2, decide_true, Bool.and_self, cond_true] at h
      exact ⟨_, h, .inr ⟨ik, z, rfl, h1.1, h1.2, rfl⟩⟩
    · have : (decide (0 ≤ z) && decide (z ≤ (top : Int))) = false := by
        by_cases h2 : 0 ≤ z
        · have h3 : ¬ z ≤ (top : Int) := fun h3 => h1 ⟨h2, h3⟩
          simp [h3]
        · simp [h2]
      rw [this] at h
      exact absurd h.symm hne
  · exact absurd h.symm hne


theorem run_bound {v : Value} {ik : IntKind} {z : Int} (hv : v = .int ik z) {y : Nat} (h0 : 0 ≤ z) (h1 : z ≤ (y : Int)) (code : BoundsCode) : (Instr.sliceBound v y code).run P w = .ok z.toNat w := by
  subst hv
  simp [Instr.sliceBound, asIntOf, h0, h1]

/-- A bound as the model takes it. -/
theorem bound_run (H : Rel C.ty E g st a w) {x : Option Operand} {dflt top n : Nat} (h : (x.map (view st.get) = none ∧ n = dflt) ∨ ∃ ik z, x.map (view st.get) = some (.d (.int ik z)) ∧ 0 ≤ z ∧ z ≤ (top : Int) ∧ n = z.toNat) (code : BoundsCode) :
    (x = none ∧ n = dflt) ∨ (∃ y, x = some y ∧ n ≤ top ∧ ∀ top', top ≤ top' → ∀ code, (Instr.sliceBound (a.eval y) top' code).run P w = .ok n w) := by
  rcases h with ⟨h1, h2⟩ | ⟨ik, z, h1, h2, h3, h4⟩
  · left; exact ⟨by cases x <;> first | rfl | exact absurd h1 (by simp), h2⟩
  · right
    cases x with
    | none => cases h1
    | some y =>
      simp only [Option.map_some, Option.some.injEq] at h1
      have hv := eval_int H h1
      subst h4
      exact ⟨y, rfl, by omega, fun top' ht code => run_bound hv h2 (by omega) code⟩

theorem drep_cut {T : Tys} {R' : Rdr} {e : TypeId} {r : List (List Dat)} {A : Option Addr} {n cap : Nat} (h : DRep T R' (.lst e r) (.slice A n cap)) {l hi m : Nat} (h1 : l ≤ hi) (h2 : hi ≤ r.length) (h3 : hi ≤ m) :
    DRep T R' (.lst e ((r.take hi).drop l)) (.slice (if m = l then A else A.map (·.add (l * (T e).size))) (hi - l) (m - l)) := by
  generalize hv : Value.slice A n cap = v at h
  cases h with
  | lst e rows A' cap' vs hcap hsz ha hl hr ht =>
    cases hv
    have hlen : ((r.take hi).drop l).length = hi - l := by simp; omega
    have hget : ∀ i, i < hi - l → ((r.take hi).drop l).getD i [] = r.getD (l + i) [] := fun i hi' => by
      simp only [List.getD_eq_getElem?_getD, List.getElem?_drop, List.getElem?_take]
      rw [if_pos (by omega)]
    have := DRep.lst (T := T) (R := R') e ((r.take hi).drop l) (if m = l then A else A.map (·.add (l * (T e).size))) (m - l) (fun i j => vs (l + i) j) (by rw [hlen]; omega) (fun h0 => hsz (by rw [hlen] at h0; omega)) (fun h0 => by
        rw [hlen] at h0
        obtain ⟨b, o', rfl, h5⟩ := ha (by omega)
        refine ⟨b, o' + l * (T e).size, by rw [if_neg (by omega)]; simp [add_addr], fun i j hi' hj => ?_⟩
        rw [hlen] at hi'
        have := h5 (l + i) j (by omega) hj
        rw [Nat.add_mul] at this
        rw [show o' + l * (T e).size + (i * (T e).size + j) = o' + (l * (T e).size + i * (T e).size + j) by omega]
        exact this) (fun i hi' => by rw [hlen] at hi'; rw [hget i hi']; exact hl _ (by omega)) (fun i j hi' hj => by rw [hlen] at hi'; rw [hget i hi']; exact hr _ j (by omega) hj) (fun i j hi' hj => by rw [hlen] at hi'; rw [hget i hi']; exact ht _ j (by omega) hj)
    rw [hlen] at this
    exact this

theorem view_lst_refs {x : Operand} {y : Dat} (h : view st.get x = .d y) : ∀ u, (view st.get x).refs u = false := fun u => by rw [h]; rfl

theorem ev_slice (hT : ∀ t, C.ty t = tyOf P t) (H : Rel C.ty E g st a w) {t : TypeId} {x : Operand} {lo hi mx : Option Operand} (hop : o.op = .slice t x lo hi mx) (h : evOp C fail kp st.get st.box o k = res) (hne : res ≠ fail) : Ends P C E st a w o kp k res := by
  unfold evOp at h
  simp only [hop] at h
  split at h
  · rename_i s hk hx
    have hty : P.underlying t = some .string := by
      obtain ⟨_, _, h5, _⟩ := tk_some hT (t := t) (by rw [hk]; simp)
      rw [hk] at h5
      exact tk_string h5.symm
    have hev := view_str H hx
    split at h
    · obtain ⟨n, h, hn⟩ := bound_ends h hne
      obtain ⟨l, h, hl⟩ := bound_ends h hne
      have hn' := bound_run (P := P) H hn .sliceB
      have hl' := bound_run (P := P) H hl .sliceB
      have hnle : n ≤ s.length := by
        rcases hn' with ⟨_, rfl⟩ | ⟨_, _, h1, _⟩
        · exact Nat.le_refl _
        · exact h1
      have hsz : (⟨s.toArray⟩ : ByteArray).size = s.length := by simp [ByteArray.size]
      refine .of h (.data H rfl (x := .string ((⟨s.toArray⟩ : ByteArray).extract l n)) ?_ ?_)
      · have hb : (Instr.sliceBounds false s.length s.length (lo.map a.eval) (hi.map a.eval) none).run P w = .ok (l, n, s.length) w := by
          rcases hn' with ⟨rfl, rfl⟩ | ⟨y, rfl, h1, h2⟩ <;> rcases hl' with ⟨rfl, rfl⟩ | ⟨z, rfl, h3, h4⟩
          · simp [Instr.sliceBounds]
          · simp [Instr.sliceBounds, h4 _ (Nat.le_refl _)]
          · simp [Instr.sliceBounds, h2 _ (Nat.le_refl _)]
          · simp [Instr.sliceBounds, h2 _ (Nat.le_refl _), h4 _ (Nat.le_refl _)]
        rw [← hsz] at hb
        simp [execOp, hop, hev, Instr.sliceAt, Instr.slice, run_underlying hty, hb]
      · have : (⟨s.toArray⟩ : ByteArray).extract l n = ⟨((s.take n).drop l).toArray⟩ := by
          apply ByteArray.ext
          simp [List.extract_toArray, List.extract_eq_take_drop, List.drop_take]
        rw [this]
        exact .str _
    · exact absurd h.symm hne
  · rename_i e' e r hk hx
    have hty : P.underlying t = some (.slice e') := by
      obtain ⟨_, _, h5, _⟩ := tk_some hT (t := t) (by rw [hk]; simp)
      rw [hk] at h5
      exact tk_slice h5.symm
    obtain ⟨hc, h⟩ := cond_ends h hne
    simp only [Bool.and_eq_true] at hc
    have he := Nat.eq_of_beq_eq_true hc.1
    subst he
    have hsz : ∀ w, (sizeOf e').run P w = .ok (C.ty e').size w := fun w => run_sizeP hT (kind_known hc.2) w
    have hvr := view_lst_refs hx
    obtain ⟨A, cap, hev, hcap⟩ : ∃ A cap, a.eval x = .slice A r.length cap ∧ r.length ≤ cap := by
      obtain ⟨g1, h1, h2, h3, h4, h5, h6⟩ := H.pubAll (pubs st.get x) (pubs_ok st x)
      have := (view_rel H h2 h3 h5 x (fun p hp => hp) hvr).1
      rw [hx] at this
      have hd : DRep C.ty (rdr w g1.pub) (.lst e' r) (a.eval x) := this
      generalize a.eval x = v at hd
      cases hd with
      | lst e rows A' cap' vs hcap => exact ⟨A', cap', rfl, hcap⟩
    have hdr : ∀ g' : Gh, (∀ b, g.pub b → g'.pub b) → g'.bl = g.bl → (∀ p, p ∈ pubs st.get x → ∃ e r, p.2 = .d (.lst e r) ∧ DRep C.ty (rdr w g'.pub) (.lst e r) (a.tmps.getD p.1 undef)) → DRep C.ty (rdr w g'.pub) (.lst e' r) (.slice A r.length cap) := fun g' h1 h2 h3 => by
      have := (view_rel H h1 h2 h3 x (fun p hp => hp) hvr).1
      rw [hx, hev] at this
      exact this
    split at h
    · obtain ⟨n, h, hn⟩ := bound_ends h hne
      obtain ⟨l, h, hl⟩ := bound_ends h hne
      have hn' := bound_run (P := P) H hn .sliceB
      have hl' := bound_run (P := P) H hl .sliceB
      have hnle : n ≤ r.length := by
        rcases hn' with ⟨_, rfl⟩ | ⟨_, _, h1, _⟩
        · exact Nat.le_refl _
        · exact h1
      have hlle : l ≤ n := by
        rcases hl' with ⟨_, rfl⟩ | ⟨_, _, h1, _⟩
        · exact Nat.zero_le _
        · exact h1
      have hb : (Instr.sliceBounds true r.length cap (lo.map a.eval) (hi.map a.eval) none).run P w = .ok (l, n, cap) w := by
        rcases hn' with ⟨rfl, rfl⟩ | ⟨y, rfl, h1, h2⟩ <;> rcases hl' with ⟨rfl, rfl⟩ | ⟨z, rfl, h3, h4⟩
        · simp [Instr.sliceBounds]
        · simp [Instr.sliceBounds, h4 _ (Nat.le_refl _)]
        · simp [Instr.sliceBounds, h2 _ hcap]
        · simp [Instr.sliceBounds, h2 _ hcap, h4 _ (Nat.le_refl _)]
      refine .of h (.pub H ⟨rfl, rfl⟩ (pubs_ok st x) (x := .slice (if cap = l then A else A.map (·.add (l * (C.ty e').size))) (n - l) (cap - l)) (by simp [execOp, hop, hev, Instr.sliceAt, Instr.slice, run_underlying hty, hb, hsz]) (fun g' h1 h2 h3 => drep_cut (hdr g' h1 h2 h3) hlle hnle (by omega)) rfl (fun id hid => by cases hid) fun u => rfl)
    · rename_i mo _
      obtain ⟨hhi, h⟩ := cond_ends h hne
      obtain ⟨m, h, hm⟩ := bound_ends h hne
      obtain ⟨n, h, hn⟩ := bound_ends h hne
      obtain ⟨l, h, hl⟩ := bound_ends h hne
      obtain ⟨hmn, hfin⟩ := cond_ends h hne
      have hmn := Nat.eq_of_beq_eq_true hmn
      subst hmn
      have hm' := bound_run (P := P) H (x := some mo) hm .sliceB
      have hn' := bound_run (P := P) H hn .sliceB
      have hl' := bound_run (P := P) H hl .sliceB
      rcases hm' with ⟨hm', _⟩ | ⟨mo', hmo, hm1, hm2⟩
      · cases hm'
      cases hmo
      rcases hn' with ⟨rfl, _⟩ | ⟨y, rfl, h1, h2⟩
      · cases hhi
      have hlle : l ≤ m := by
        rcases hl' with ⟨_, rfl⟩ | ⟨_, _, h1, _⟩
        · exact Nat.zero_le _
        · exact h1
      have hb : (Instr.sliceBounds true r.length cap (lo.map a.eval) (some (a.eval y)) (some (a.eval mo))).run P w = .ok (l, m, m) w := by
        rcases hl' with ⟨rfl, rfl⟩ | ⟨z, rfl, h3, h4⟩
        · simp [Instr.sliceBounds, hm2 _ hcap, h2 _ (Nat.le_refl _)]
        · simp [Instr.sliceBounds, hm2 _ hcap, h2 _ (Nat.le_refl _), h4 _ (Nat.le_refl _)]
      refine .of hfin (.pub H ⟨rfl, rfl⟩ (pubs_ok st x) (x := .slice (if m = l then A else A.map (·.add (l * (C.ty e').size))) (m - l) (m - l)) (by simp [execOp, hop, hev, Instr.sliceAt, Instr.slice, run_underlying hty, hb, hsz]) (fun g' h1 h2 h3 => ?_) rfl (fun id hid => by cases hid) fun u => rfl)
      have hlen : ((r.take m).drop l).length = m - l := by simp; omega
      exact ⟨if m = l then A else A.map (·.add (l * (C.ty e').size)), by rw [hlen], drep_cut (hdr g' h1 h2 h3) hlle hm1 (Nat.le_refl _)⟩
  · exact absurd h.symm hne

/-! ### parts of structs -/
theorem ev_field (hT : ∀ t, C.ty t = tyOf P t) (H : Rel C.ty E g st a w) {s : TypeId} {x : Operand} {fd : Nat} (hop : o.op = .field s x fd) (h : evOp C fail kp st.get st.box o k = res) (hne : res ≠ fail) : Ends P C E st a w o kp k res := by
  unfold evOp at h
  simp only [hop] at h
  obtain ⟨hf, h⟩ := cond_ends h hne
  split at h
  · rename_i cs hx
    obtain ⟨hc, h⟩ := cond_ends h hne
    simp only [Bool.and_eq_true] at hc
    obtain ⟨h1, h2, h3⟩ := operand_rel H x (by rw [hx]; rfl)
    rw [hx] at h1 h2
    obtain ⟨vs, hev, hcs⟩ := h1
    obtain ⟨fs, f, f1, f2, f3, f4⟩ := fieldOk_run hT hf
    rw [f3] at h hc
    simp only at h hc
    have hle := ble_le hc.1
    have hk := kind_known hc.2
    have hpos : 0 < (C.ty f.type).size := Nat.pos_of_ne_zero f4
    have hl : ((cs.drop f.offset).take (cond (C.ty f.type).kind.isAgg (C.ty f.type).size 1)).length = cond (C.ty f.type).kind.isAgg (C.ty f.type).size 1 := by
      cases (C.ty f.type).kind.isAgg <;> simp <;> omega
    have hget : ∀ j, j < (cond (C.ty f.type).kind.isAgg (C.ty f.type).size 1) → ((cs.drop f.offset).take (cond (C.ty f.type).kind.isAgg (C.ty f.type).size 1)).getD j .undef = cs.getD (f.offset + j) .undef := fun j hj => by
      simp only [List.getD_eq_getElem?_getD, List.getElem?_take, List.getElem?_drop]
      rw [if_pos hj]
    have hlt : ∀ j, j < (cond (C.ty f.type).kind.isAgg (C.ty f.type).size 1) → f.offset + j < cs.length := fun j hj => by
      cases ha : (C.ty f.type).kind.isAgg <;> rw [ha] at hj <;> simp at hj <;> omega
    have hv := mkVal_rel (T := C.ty) (R' := rdr w g.pub) (bl := g.bl) (ot := g.ot) (kd := (C.ty f.type).kind) (xs := (cs.drop f.offset).take (cond (C.ty f.type).kind.isAgg (C.ty f.type).size 1)) (vs := fun j => vs.getD (f.offset + j) undef) (by
      cases ha : (C.ty f.type).kind.isAgg with
      | true => exact .inl rfl
      | false => right; rw [ha] at hl; simpa using hl) (fun i hi => by
      rw [hl] at hi
      rw [hget i hi]
      exact hcs.2 _ (hlt i hi))
    have hmem : ∀ c ∈ (cs.drop f.offset).take (cond (C.ty f.type).kind.isAgg (C.ty f.type).size 1), c ∈ cs := fun c hc => List.mem_of_mem_drop (List.mem_of_mem_take hc)
    have hleaf : ∀ c ∈ cs, isOwn c = false ∧ (∀ t, c.refs t = false) ∧ idsOf c = idL c := fun c hc => by
      obtain ⟨j, hj, rfl⟩ := List.mem_iff_getElem.1 hc
      have := hcs.2 j hj
      rw [List.getD_eq_getElem?_getD, List.getElem?_eq_getElem hj, Option.getD_some] at this
      exact (VRel_of_L (ot := g.ot) this).2
    have hmk : isOwn (mkVal (C.ty f.type).kind ((cs.drop f.offset).take (cond (C.ty f.type).kind.isAgg (C.ty f.type).size 1))) = false ∧ (∀ t, (mkVal (C.ty f.type).kind ((cs.drop f.offset).take (cond (C.ty f.type).kind.isAgg (C.ty f.type).size 1))).refs t = false) ∧ (∀ id ∈ idsOf (mkVal (C.ty f.type).kind ((cs.drop f.offset).take (cond (C.ty f.type).kind.isAgg (C.ty f.type).size 1))), id ∈ cs.flatMap idL) := by
      unfold mkVal
      cases ha : (C.ty f.type).kind.isAgg with
      | true =>
        refine ⟨rfl, fun _ => rfl, fun id hid => ?_⟩
        obtain ⟨c, hc1, hc2⟩ := List.mem_flatMap.1 hid
        rw [ha] at hmem
        exact List.mem_flatMap.2 ⟨c, hmem c hc1, hc2⟩
      | false =>
        rw [ha] at hl hmem
        simp only [cond_false] at hl hmem ⊢
        generalize (cs.drop f.offset).take 1 = q at hl hmem
        match q, hl with
        | [c], _ =>
          have hc1 := hmem c List.mem_cons_self
          obtain ⟨p1, p2, p3⟩ := hleaf c hc1
          exact ⟨p1, p2, fun id hid => List.mem_flatMap.2 ⟨c, hc1, by rw [← p3]; exact hid⟩⟩
    refine .of h (.plain H ⟨rfl, rfl, rfl⟩ (x := if (C.ty f.type).kind.isAgg then .agg ((List.range ((cs.drop f.offset).take (cond (C.ty f.type).kind.isAgg (C.ty f.type).size 1)).length).map fun j => vs.getD (f.offset + j) undef).toArray else vs.getD (f.offset + 0) undef) ?_ hv hmk.1 (fun id hid => h2 id (hmk.2.2 id hid)) fun u hu => by simp only at hu; rw [hmk.2.1] at hu; cases hu)
    have hrun : (Instr.field s (.agg vs) fd).run P w = .ok (if (C.ty f.type).kind.isAgg then .agg ((List.range ((cs.drop f.offset).take (cond (C.ty f.type).kind.isAgg (C.ty f.type).size 1)).length).map fun j => vs.getD (f.offset + j) undef).toArray else vs.getD (f.offset + 0) undef) w := by
      rw [hl]
      cases ha : (C.ty f.type).kind.isAgg with
      | true =>
        have hsz : f.offset + (C.ty f.type).size ≤ vs.size := by rw [← hcs.1]; exact hle
        have : vs.extract f.offset (f.offset + (C.ty f.type).size) = ((List.range (C.ty f.type).size).map fun j => vs.getD (f.offset + j) undef).toArray := by
          apply Array.ext
          · simp; omega
          · intro i hi1 hi2
            have hi3 : i < (C.ty f.type).size := by simpa using hi2
            have hi4 : f.offset + i < vs.size := by omega
            simp [Array.getD_eq_getD_getElem?, hi4]
        simp [Instr.field, run_underlying f1, f2, part, run_isAgg hT hk, ha, asAgg, run_sizeP hT hk, this]
      | false =>
        have h6 : f.offset < vs.size := by rw [← hcs.1]; omega
        simp [Instr.field, run_underlying f1, f2, part, run_isAgg hT hk, ha, asAgg, h6, Array.getD_eq_getD_getElem?]
    simp [execOp, hop, hev, hrun]
  · exact absurd h.symm hne

end Go.Ab
end

section
/-! Structs and lists that are built. -/
set_option autoImplicit false
set_option linter.unusedVariables false
set_option linter.unusedSimpArgs false
namespace Go.Ab
variable {P : Program} {C : Cfg} {E : Ent} {g : Gh} {st : St} {a : Act} {w : World} {o : Oper} {R : Type} {fail : R} {kp : Dat → R} {k : Eff → R} {res : R}

theorem fold_set (off : Nat) : ∀ (l : List Value) (n : Nat) (cells : Array Value), off + n + l.length ≤ cells.size →
    ((l.zipIdx n).foldl (fun cs p => cs.setIfInBounds (off + p.2) p.1) cells).size = cells.size ∧
    ∀ q, ((l.zipIdx n).foldl (fun cs p => cs.setIfInBounds (off + p.2) p.1) cells).getD q undef = if off + n ≤ q ∧ q < off + n + l.length then l.getD (q - (off + n)) undef else cells.getD q undef
  | [], n, cells, _ => ⟨rfl, fun q => by
    rw [if_neg (by simp only [List.length_nil]; omega)]
    rfl⟩
  | v :: l, n, cells, h => by
    simp only [List.length_cons] at h
    obtain ⟨h1, h2⟩ := fold_set off l (n + 1) (cells.setIfInBounds (off + n) v) (by simp; omega)
    simp only [List.zipIdx_cons, List.foldl_cons]
    refine ⟨by rw [h1]; simp, fun q => ?_⟩
    rw [h2 q]
    simp only [List.length_cons]
    by_cases hq : off + (n + 1) ≤ q ∧ q < off + (n + 1) + l.length
    · rw [if_pos hq, if_pos (by omega)]
      have : q - (off + n) = (q - (off + (n + 1))) + 1 := by omega
      rw [this, List.getD_cons_succ]
    · rw [if_neg hq]
      by_cases hq2 : q = off + n
      · subst hq2
        rw [if_pos (by omega)]
        simp [Array.getD_eq_getD_getElem?, Array.getElem?_setIfInBounds, (by omega : off + n < cells.size)]
      · rw [if_neg (by omega)]
        simp [Array.getD_eq_getD_getElem?, Array.getElem?_setIfInBounds, Ne.symm hq2]

theorem fold_set' (off : Nat) (v : Array Value) (cells : Array Value) (h : off + v.size ≤ cells.size) :
    (v.zipIdx.foldl (fun cs (p : Value × Nat) => cs.setIfInBounds (off + p.2) p.1) cells).size = cells.size ∧
    ∀ q, (v.zipIdx.foldl (fun cs (p : Value × Nat) => cs.setIfInBounds (off + p.2) p.1) cells).getD q undef = if off ≤ q ∧ q < off + v.size then v.getD (q - off) undef else cells.getD q undef := by
  have := fold_set off v.toList 0 cells (by simpa using h)
  have e : v.zipIdx.foldl (fun cs (p : Value × Nat) => cs.setIfInBounds (off + p.2) p.1) cells = (v.toList.zipIdx 0).foldl (fun cs p => cs.setIfInBounds (off + p.2) p.1) cells := by
    rw [← Array.foldl_toList]
    simp
  rw [e]
  refine ⟨this.1, fun q => ?_⟩
  rw [this.2 q]
  simp [Array.getD_eq_getD_getElem?, List.getD_eq_getElem?_getD]

/-- One part is filled in. -/
theorem fill_one {T : Tys} {R' : Rdr} {bl : Nat → Nat} {cs xs : List AV} {arr v : Array Value} (h : CsRel T R' bl cs arr) (hx : CsRel T R' bl xs v) {off : Nat} (ho : off + xs.length ≤ cs.length) :
    CsRel T R' bl (cs.take off ++ xs ++ cs.drop (off + xs.length)) (v.zipIdx.foldl (fun cs (p : Value × Nat) => cs.setIfInBounds (off + p.2) p.1) arr) := by
  obtain ⟨h1, h2⟩ := fold_set' off v arr (by rw [← hx.1, ← h.1]; exact ho)
  refine ⟨by rw [h1, ← h.1]; simp; omega, fun j hj => ?_⟩
  rw [getD_splice cs xs cs off xs.length rfl ho, h2 j, ← hx.1]
  split
  · exact hx.2 _ (by omega)
  · refine h.2 j ?_
    simp at hj
    omega

theorem fill_rel {T : Tys} {R' : Rdr} {bl : Nat → Nat} {fs : List (Nat × TypeId)} {place : Nat → Option (Nat × Nat)} (hpl : ∀ i, i < fs.length → place i = some ((fs.getD i (0, 0)).1, (T (fs.getD i (0, 0)).2).size)) (f : Operand → Nat → AV) (ρ : Operand → Value) (n : Nat) :
    ∀ (ops : List (Nat × Operand)) (cs : List AV) (arr : Array Value), CsRel T R' bl cs arr → cs.length = n →
    (∀ p ∈ ops, p.1 < fs.length ∧ (asCells (f p.2 p.1)).length = (T (fs.getD p.1 (0, 0)).2).size ∧ (fs.getD p.1 (0, 0)).1 + (asCells (f p.2 p.1)).length ≤ n ∧ CsRel T R' bl (asCells (f p.2 p.1)) (ρ p.2).cells) →
    ∃ arr', Instr.fill place arr (ops.map fun p => (p.1, ρ p.2)) = some arr' ∧ CsRel T R' bl (fillCells fs (ops.map fun p => (p.1, f p.2 p.1)) cs) arr'
  | [], cs, arr, h, _, _ => ⟨arr, rfl, h⟩
  | p :: ops, cs, arr, h, hn, hp => by
    obtain ⟨p1, p2, p3, p4⟩ := hp p List.mem_cons_self
    have hone := fill_one h p4 (off := (fs.getD p.1 (0, 0)).1) (by rw [hn]; exact p3)
    obtain ⟨arr', h1, h2⟩ := fill_rel hpl f ρ n ops _ _ hone (by simp only [List.length_append, List.length_take, List.length_drop]; omega) (fun q hq => hp q (List.mem_cons_of_mem _ hq))
    refine ⟨arr', ?_, h2⟩
    simp only [List.map_cons, Instr.fill, hpl p.1 p1]
    rw [if_neg]
    · exact h1
    · have e1 := p4.1
      have e2 := h.1
      intro h5
      rw [Bool.or_eq_true, decide_eq_true_eq, decide_eq_true_eq] at h5
      rcases h5 with h5 | h5
      · exact h5 (p4.1.symm.trans p2)
      · omega

theorem run_places {T : Tys} (hT : ∀ t, T t = tyOf P t) (w : World) : ∀ (fs : List Field), (∀ f ∈ fs, (T f.type).kind.known = true) →
    (fs.mapM (m := Sem) fun f => do pure (f.offset, ← sizeOf f.type)).run P w = .ok (fs.map fun f => (f.offset, (T f.type).size)) w
  | [], _ => rfl
  | f :: fs, h => by
    have h1 := run_places hT w fs fun f hf => h f (List.mem_cons_of_mem _ hf)
    have h2 := run_sizeP (P := P) hT (kind_known (h f List.mem_cons_self)) w
    simp only [List.mapM_cons, Sem.run_bind, h2, Result.andThen_ok, Sem.run_pure, h1, List.map_cons]

theorem pubss_mem {xs : List Operand} {x : Operand} (hx : x ∈ xs) {p : Nat × AV} (hp : p ∈ pubs st.get x) : p ∈ pubss st.get xs := List.mem_flatMap.2 ⟨x, hx, hp⟩

theorem fillCells_mem {fs : List (Nat × TypeId)} : ∀ (ps : List (Nat × AV)) (cs : List AV) (c : AV), c ∈ fillCells fs ps cs → c ∈ cs ∨ ∃ p ∈ ps, c ∈ asCells p.2
  | [], cs, c, h => .inl h
  | p :: ps, cs, c, h => by
    rcases fillCells_mem ps _ c h with h1 | ⟨q, hq, h1⟩
    · simp only [List.mem_append] at h1
      rcases h1 with (h1 | h1) | h1
      · exact .inl (List.mem_of_mem_take h1)
      · exact .inr ⟨p, List.mem_cons_self, h1⟩
      · exact .inl (List.mem_of_mem_drop h1)
    · exact .inr ⟨q, List.mem_cons_of_mem _ hq, h1⟩

theorem ev_build (hT : ∀ t, C.ty t = tyOf P t) (H : Rel C.ty E g st a w) {t : TypeId} {parts : Array (Nat × Operand)} (hop : o.op = .build t parts) (h : evOp C fail kp st.get st.box o k = res) (hne : res ≠ fail) : Ends P C E st a w o kp k res := by
  unfold evOp at h
  simp only [hop] at h
  obtain ⟨hc, h⟩ := cond_ends h hne
  unfold buildOk at hc
  simp only [Bool.and_eq_true] at hc
  obtain ⟨⟨⟨c1, c2⟩, c3⟩, c4⟩ := hc
  have hks : (C.ty t).kind = .struct := by
    cases hk : (C.ty t).kind <;> rw [hk] at c2 <;> first | rfl | cases c2
  obtain ⟨i, h1, h2, h3, h4, h5⟩ := tk_some hT (t := t) (by rw [hks]; simp)
  rw [hks] at h2
  obtain ⟨fs, hfs⟩ := tk_struct h2.symm
  have h6 : (C.ty t).fields = fs.toList.map fun f => (f.offset, f.type) := by rw [h5, hfs]; rfl
  obtain ⟨z, z1, z2, z3, z4, z5⟩ := zok_run hT c1
  have hkn : ∀ f ∈ fs.toList, (C.ty f.type).kind.known = true := fun f hf => all_get c3 (by rw [h6]; exact List.mem_map_of_mem hf)
  have hpart : ∀ p ∈ parts.toList, p.1 < (C.ty t).fields.length ∧ (asCells (retype (C.ty ((C.ty t).fields.getD p.1 (0, 0)).2).kind (view st.get p.2))).length = (C.ty ((C.ty t).fields.getD p.1 (0, 0)).2).size ∧
      ((C.ty t).fields.getD p.1 (0, 0)).1 + (asCells (retype (C.ty ((C.ty t).fields.getD p.1 (0, 0)).2).kind (view st.get p.2))).length ≤ (C.ty t).cells.length ∧ (asCells (retype (C.ty ((C.ty t).fields.getD p.1 (0, 0)).2).kind (view st.get p.2))).all isLeaf = true := fun p hp => by
    have := all_get c4 (List.mem_map_of_mem hp)
    simp only [Bool.and_eq_true] at this
    exact ⟨blt_lt this.1.1.1, Nat.eq_of_beq_eq_true this.1.1.2, ble_le this.1.2, this.2⟩
  have hvr : ∀ p ∈ parts.toList, ∀ u, (view st.get p.2).refs u = false := fun p hp u => by
    have := (leafs_refs (hpart p hp).2.2.2).1 u
    rw [retype_refs] at this
    exact this
  have hfill : ∀ g' : Gh, (∀ b, g.pub b → g'.pub b) → g'.bl = g.bl → (∀ p, p ∈ pubss st.get (parts.toList.map (·.2)) → ∃ e r, p.2 = .d (.lst e r) ∧ DRep C.ty (rdr w g'.pub) (.lst e r) (a.tmps.getD p.1 undef)) →
      ∃ arr', Instr.fill ((fs.toList.map fun f => (f.offset, (C.ty f.type).size)).toArray[·]?) z.cells (parts.toList.map fun p => (p.1, a.eval p.2)) = some arr' ∧ CsRel C.ty (rdr w g'.pub) g'.bl (fillCells (C.ty t).fields (parts.toList.map fun p => (p.1, retype (C.ty ((C.ty t).fields.getD p.1 (0, 0)).2).kind (view st.get p.2))) (zeroCells C.ty t)) arr' := fun g' q1 q2 q3 => by
    refine fill_rel (T := C.ty) (R' := rdr w g'.pub) (bl := g'.bl) (fs := (C.ty t).fields) (fun i hi => ?_) (fun x i => retype (C.ty ((C.ty t).fields.getD i (0, 0)).2).kind (view st.get x)) a.eval (C.ty t).cells.length parts.toList (zeroCells C.ty t) z.cells (z5 _ _) (by rw [(z5 (rdr w g'.pub) g'.bl).1, z2]) fun p hp => ?_
    · rw [h6] at hi ⊢
      have hi' : i < fs.size := by simpa using hi
      simp [List.getD_eq_getElem?_getD, hi']
    · obtain ⟨p1, p2, p3, p4⟩ := hpart p hp
      refine ⟨p1, p2, p3, ?_⟩
      have hv := (view_rel H q1 q2 q3 p.2 (fun q hq => pubss_mem (List.mem_map_of_mem hp) hq) (hvr p hp)).1
      exact (asCells_rel (retype_rel hv) p4).1
  obtain ⟨g1, g2, g3, g4, g5, g6, g7⟩ := H.pubAll (pubss st.get (parts.toList.map (·.2))) (pubss_ok st _)
  obtain ⟨arr, a1, _⟩ := hfill g1 g3 g4 g6
  refine .of h (.pub H ⟨rfl, rfl⟩ (pubss_ok st _) (x := .agg arr) ?_ (fun g' q1 q2 q3 => ?_) rfl (fun id hid => ?_) fun u => rfl)
  · have hpl : (fs.mapM (m := Sem) fun f => do pure (f.offset, ← sizeOf f.type)).run P w = .ok (fs.toList.map fun f => (f.offset, (C.ty f.type).size)).toArray w := by
      have := run_places (P := P) hT w fs.toList hkn
      rw [Array.mapM_eq_mapM_toList, Sem.run_map, this]
      rfl
    have hmap : (parts.map fun x => (x.1, a.eval x.2)).toList = parts.toList.map fun p => (p.1, a.eval p.2) := by simp
    simp only [execOp, hop, Instr.build, Sem.run_bind, z1, Result.andThen_ok, run_underlying hfs, hpl]
    rw [hmap, a1]
    simp
  · obtain ⟨arr', b1, b2⟩ := hfill g' q1 q2 q3
    rw [a1] at b1
    cases b1
    exact ⟨_, rfl, b2⟩
  · obtain ⟨c, hc, hid⟩ := List.mem_flatMap.1 hid
    rcases fillCells_mem _ _ c hc with hc | ⟨p, hp, hc⟩
    · obtain ⟨u, _, rfl⟩ := List.mem_map.1 hc
      rw [zeroCell_ids] at hid; cases hid
    · obtain ⟨q, hq, rfl⟩ := List.mem_map.1 hp
      obtain ⟨p1, p2, p3, p4⟩ := hpart q hq
      have := view_ids H (hvr q hq) id
      refine this ?_
      rw [← retype_ids (kd := (C.ty ((C.ty t).fields.getD q.1 (0, 0)).2).kind)]
      generalize retype (C.ty ((C.ty t).fields.getD q.1 (0, 0)).2).kind (view st.get q.2) = v at hc p4
      by_cases hx : isLeaf v = true
      · obtain ⟨l1, l2, _⟩ := leaf_cells hx
        rw [l1] at hc
        have : c = v := by simpa using hc
        subst this
        rw [l2]; exact hid
      · cases v
        case agg xs => exact List.mem_flatMap.2 ⟨c, hc, hid⟩
        all_goals first | (exact absurd rfl hx) | (simp [asCells, isLeaf] at p4)

end Go.Ab
end

section
/-! Lists that are built. -/
set_option autoImplicit false
set_option linter.unusedVariables false
set_option linter.unusedSimpArgs false
namespace Go.Ab
variable {P : Program} {C : Cfg} {E : Ent} {g : Gh} {st : St} {a : Act} {w : World} {o : Oper} {R : Type} {fail : R} {kp : Dat → R} {k : Eff → R} {res : R}

/-- A new block: nobody holds it. -/
theorem Rel.allocAny {T : Tys} (H : Rel T E g st a w) {w' : World} {ob : Obj} (hh : w'.heap = w.heap.push ob) (hwo : w'.os = w.os ∧ w'.tape = w.tape ∧ w'.output = w.output) : Rel T E g st a w' ∧ Free E g st w' w.heap.size ∧ (∀ b i v, rdr w g.pub b i v → rdr w' g.pub b i v) := by
  have hsz : w'.heap.size = w.heap.size + 1 := by rw [hh]; simp
  have hold : ∀ b, b < w.heap.size → w'.heap[b]? = w.heap[b]? := fun b hb => by rw [hh]; simp [Array.getElem?_push, Nat.ne_of_lt hb]
  refine ⟨H.move (fun _ h => h) (fun _ _ => rfl) (fun _ _ => rfl) (fun _ _ _ => rfl) (fun b hb => hold b ?_) (by omega) hwo (fun b hb _ => hold b (Nat.lt_of_lt_of_le hb H.sz)) (fun b hb => .inl hb), ⟨fun h hh => ?_, fun h => ?_, by omega, .inl H.sz⟩, rdr_mono fun b hb => ⟨hb, hold b (H.pb b hb).1⟩⟩
  · rcases hb with hb | ⟨h, hb⟩
    · exact (H.pb b hb).1
    · exact (H.hp h b hb).2.1
  · exact absurd (H.hp h _ hh).2.1 (Nat.lt_irrefl _)
  · exact absurd (H.pb _ h).1 (Nat.lt_irrefl _)

theorem zok_size {T : Tys} (hT : ∀ t, T t = tyOf P t) {t : TypeId} (h : (T t).zok = true) (w : World) : (sizeOf t).run P w = .ok (T t).size w := by
  have h0 := hT t
  unfold tyOf at h0
  cases hi : P.info? t with
  | none => rw [hi] at h0; rw [h0] at h; cases h
  | some i => rw [hi] at h0; rw [h0]; simp [sizeOf, typeInfo, hi]

theorem partRows_run {T : Tys} (s : Nat) (f : Operand → AV) (ρ : Operand → Value) (hrel : ∀ x c, toD T (f x) = some c → c.length = s → (ρ x).cells.size = s) :
    ∀ (ops : List (Nat × Operand)) (i : Nat) (rows : List (List Dat)) (arr : Array Value), partRows T i (ops.map fun p => (p.1, f p.2)) = some rows → (∀ r ∈ rows, r.length = s) → (i + rows.length) * s ≤ arr.size →
    rows.length = ops.length ∧ (∀ q, q < ops.length → ∃ x, ops[q]? = some (i + q, x) ∧ toD T (f x) = some (rows.getD q [])) ∧
    ∃ arr', Instr.fill (fun i => some (i * s, s)) arr (ops.map fun p => (p.1, ρ p.2)) = some arr' ∧ arr'.size = arr.size ∧ (∀ q, q < i * s → arr'.getD q undef = arr.getD q undef) ∧
      ∀ q j x, ops[q]? = some (i + q, x) → j < s → arr'.getD ((i + q) * s + j) undef = (ρ x).cells.getD j undef
  | [], i, rows, arr, h, _, _ => by
    have : rows = [] := by
      have h' : some [] = some rows := h
      simpa using h'.symm
    subst this
    exact ⟨rfl, fun q hq => by simp at hq, arr, rfl, rfl, fun _ _ => rfl, fun q j x hx => by simp at hx⟩
  | (i0, x0) :: ops, i, rows, arr, h, hr, hsz => by
    have h' : cond (Nat.beq i i0) (match toD T (f x0) with
        | some c => (partRows T (i + 1) (ops.map fun p => (p.1, f p.2))).map fun r => c :: r
        | none => none) none = some rows := h
    cases hb : Nat.beq i i0 with
    | false => rw [hb] at h'; cases h'
    | true =>
      have hi := Nat.eq_of_beq_eq_true hb
      subst hi
      rw [hb, cond_true] at h'
      split at h'
      · rename_i c hc
        cases hp : partRows T (i + 1) (ops.map fun p => (p.1, f p.2)) with
        | none => rw [hp] at h'; cases h'
        | some rows' =>
          rw [hp] at h'
          simp only [Option.map_some, Option.some.injEq] at h'
          subst h'
          have hcl := hr c List.mem_cons_self
          have hv := hrel x0 c hc hcl
          have hspan : i * s + s + rows'.length * s ≤ arr.size := by
            have : (i + (c :: rows').length) * s = i * s + s + rows'.length * s := by simp [Nat.add_mul]; omega
            omega
          obtain ⟨f1, f2⟩ := fold_set' (i * s) (ρ x0).cells arr (by rw [hv]; omega)
          obtain ⟨r1, r2, arr', r3, r4, r5, r6⟩ := partRows_run s f ρ hrel ops (i + 1) rows' ((ρ x0).cells.zipIdx.foldl (fun cs (p : Value × Nat) => cs.setIfInBounds (i * s + p.2) p.1) arr) hp (fun r hr' => hr r (List.mem_cons_of_mem _ hr')) (by rw [f1, Nat.add_mul, Nat.add_mul]; omega)
          refine ⟨by simp [r1], fun q hq => ?_, arr', ?_, by rw [r4, f1], fun q hq => ?_, fun q j x hx hj => ?_⟩
          · cases q with
            | zero => exact ⟨x0, rfl, hc⟩
            | succ q =>
              obtain ⟨x, h1, h2⟩ := r2 q (by simpa using hq)
              exact ⟨x, by rw [List.getElem?_cons_succ, h1]; congr 2; omega, by simpa using h2⟩
          · simp only [List.map_cons, Instr.fill]
            rw [if_neg]
            · exact r3
            · intro h5
              rw [Bool.or_eq_true, decide_eq_true_eq, decide_eq_true_eq] at h5
              rcases h5 with h5 | h5
              · exact h5 hv
              · omega
          · rw [r5 q (by rw [Nat.add_mul]; omega), f2 q, if_neg (by omega)]
          · cases q with
            | zero =>
              simp only [List.getElem?_cons_zero, Option.some.injEq, Prod.mk.injEq] at hx
              obtain ⟨_, rfl⟩ := hx
              rw [Nat.add_zero, r5 _ (by rw [Nat.add_mul]; omega), f2, if_pos (by omega)]
              congr 1
              omega
            | succ q =>
              rw [List.getElem?_cons_succ] at hx
              have := r6 q j x (by rw [hx]; congr 2; omega) hj
              rw [← this]
              congr 3
              omega
      · cases h'

theorem rowsOk_mem {T : Tys} {ts : List TypeId} {rows : List (List Dat)} (h : rowsOk T ts rows = true) {r : List Dat} (hr : r ∈ rows) : headsOk T ts r = true := all_get h hr

theorem toD_view {T : Tys} {kd : TK} {x : Operand} {c : List Dat} (h : toD T (retype kd (view st.get x)) = some c) : ∀ u, (view st.get x).refs u = false := fun u => by
  rw [← retype_refs (kd := kd)]
  generalize retype kd (view st.get x) = v at h
  cases v <;> first | rfl | (exact absurd h (by simp [toD, toD1]))

theorem ev_buildSlice (hT : ∀ t, C.ty t = tyOf P t) (H : Rel C.ty E g st a w) {t : TypeId} {len : Nat} {parts : Array (Nat × Operand)} (hop : o.op = .buildSlice t len parts) (h : evOp C fail kp st.get st.box o k = res) (hne : res ≠ fail) : Ends P C E st a w o kp k res := by
  unfold evOp at h
  simp only [hop] at h
  split at h
  · rename_i e hk
    have hty : P.underlying t = some (.slice e) := by
      obtain ⟨_, _, h5, _⟩ := tk_some hT (t := t) (by rw [hk]; simp)
      rw [hk] at h5
      exact tk_slice h5.symm
    split at h
    · rename_i rows hrows
      obtain ⟨hc, h⟩ := cond_ends h hne
      simp only [Bool.and_eq_true, decide_eq_true_eq, Bool.not_eq_true'] at hc
      obtain ⟨⟨⟨⟨c1, c2⟩, c3⟩, c4⟩, hnt⟩ := hc
      have c1 := Nat.eq_of_beq_eq_true c1
      obtain ⟨z, z1, z2, z3, z4, z5⟩ := zok_run hT c2
      have hrl : ∀ r ∈ rows, r.length = (C.ty e).size := fun r hr => by rw [z3]; exact (headsOk_at _ _ (rowsOk_mem c4 hr)).1.symm
      obtain ⟨g1, K1, K2, K3, K4, K5, K6⟩ := H.pubAll (pubss st.get (parts.toList.map (·.2))) (pubss_ok st _)
      have hrel : ∀ x ∈ parts.toList.map (·.2), ∀ c, toD C.ty (retype (C.ty e).kind (view st.get x)) = some c → c.length = (a.eval x).cells.size ∧ ∀ j, j < c.length → DRep C.ty (rdr w g1.pub) (c.getD j .nilP) ((a.eval x).cells.getD j undef) := fun x hx c hc => by
        have hv := (view_rel H K2 K3 K5 x (fun q hq => pubss_mem hx hq) (toD_view hc)).1
        exact toD_rel (retype_rel hv) hc
      -- the operands' values, where they are parts
      have hρ : ∃ ρ : Operand → Value, (∀ x ∈ parts.toList.map (·.2), ρ x = a.eval x) ∧ ∀ x c, toD C.ty (retype (C.ty e).kind (view st.get x)) = some c → c.length = (C.ty e).size → (ρ x).cells.size = (C.ty e).size := by
        classical
        refine ⟨fun x => if x ∈ parts.toList.map (·.2) then a.eval x else .agg (Array.replicate (C.ty e).size undef), fun x hx => if_pos hx, fun x c hc hl => ?_⟩
        dsimp only
        by_cases hx : x ∈ parts.toList.map (·.2)
        · rw [if_pos hx, ← (hrel x hx c hc).1, hl]
        · rw [if_neg hx]; simp [Value.cells]
      obtain ⟨ρ, ρ1, ρ2⟩ := hρ
      have hmap : parts.toList.map (fun p => (p.1, ρ p.2)) = parts.toList.map fun p => (p.1, a.eval p.2) := List.map_congr_left fun p hp => by rw [ρ1 p.2 (List.mem_map_of_mem hp)]
      obtain ⟨r1, r2, arr, r3, r4, r5, r6⟩ := partRows_run (T := C.ty) (C.ty e).size (fun x => retype (C.ty e).kind (view st.get x)) ρ ρ2 parts.toList 0 rows ((Array.range (len * (C.ty e).size)).map (fun q => (if len * (C.ty e).size = 0 then #[] else z.cells)[q % (if len * (C.ty e).size = 0 then (#[] : Array Value) else z.cells).size]!)) hrows hrl (by rw [c1]; simp)
      rw [hmap] at r3
      have hrun : (execOp a.eval o).run P w = .ok (.value (.slice (some ⟨w.heap.size, 0, none⟩) len len)) { w with heap := w.heap.push (.cells arr e) } := by
        have h24 : ¬ (16777216 < len * (C.ty e).size) := by omega
        by_cases h00 : len * (C.ty e).size = 0
        · rw [if_pos h00] at r3
          simp [execOp, hop, Instr.buildSlice, run_underlying hty, zok_size hT c2, h00, newRow]
          rw [h00] at r3
          simp at r3
          simp [r3]
        · rw [if_neg h00] at r3
          simp [execOp, hop, Instr.buildSlice, run_underlying hty, zok_size hT c2, h00, h24, newRow, z1]
          simp [r3]
      have hsz : arr.size = len * (C.ty e).size := by rw [r4]; simp
      have hown : ∀ g' : Gh, (∀ b i v, rdr w g1.pub b i v → rdr { w with heap := w.heap.push (.cells arr e) } g'.pub b i v) → OwnRel C.ty (rdr { w with heap := w.heap.push (.cells arr e) } g'.pub) { w with heap := w.heap.push (.cells arr e) } e rows (.slice (some ⟨w.heap.size, 0, none⟩) len len) := fun g' hR => by
        by_cases h0 : rows = []
        · subst h0
          rw [c1]
          exact .inl ⟨rfl, hnt, _, rfl⟩
        · have hpos : 0 < rows.length := List.length_pos_iff.2 h0
          refine .inr (.inl ⟨hnt, w.heap.size, len, arr, e, (0, 0), fun i j => arr.getD (i * (C.ty e).size + j) undef, by rw [c1], by simp, fun i _ => by simp, by omega, by omega, z3, hsz, fun i hi => ⟨?_, fun j hj => ?_⟩⟩)
          · obtain ⟨x, x1, x2⟩ := r2 i (by omega)
            have hx : x ∈ parts.toList.map (·.2) := List.mem_map.2 ⟨_, List.mem_of_getElem? x1, rfl⟩
            obtain ⟨d1, d2⟩ := hrel x hx _ x2
            have hmem : rows.getD i [] ∈ rows := mem_of_getD hi
            obtain ⟨w1, w2⟩ := headsOk_at _ _ (rowsOk_mem c4 hmem)
            refine ⟨w1.symm, fun j hj => ⟨?_, w2 j hj⟩⟩
            have hj' : j < (C.ty e).size := by rw [← hrl _ hmem]; exact hj
            have := r6 i j x x1 hj'
            rw [Nat.zero_add, ρ1 x hx] at this
            dsimp only
            rw [this]
            exact (d2 j hj).mono hR
          · have := idx_lt hi hj
            have hlt : i * (C.ty e).size + j < arr.size := by rw [hsz, c1]; exact this
            simp [Array.getD_eq_getD_getElem?, hlt]
      obtain ⟨N1, N2, N3⟩ := K1.allocAny (w' := { w with heap := w.heap.push (.cells arr e) }) rfl ⟨rfl, rfl, rfl⟩
      have hob : ∀ b, ownB (.slice (some ⟨w.heap.size, 0, none⟩) len len) = some b → b = w.heap.size := fun b hb => by
        simp only [ownB] at hb
        split at hb
        · cases hb
        · simpa using hb.symm
      have hd : k { v := .d (.lst e rows), tw := pubss st.get (parts.toList.map (·.2)) } = res → Ends P C E st a w o kp k res := fun h => by
        refine .of h (.value hrun fun hdst => ?_)
        have M1 := N1.publish N2
        have hdr : DRep C.ty (rdr { w with heap := w.heap.push (.cells arr e) } (fun b => g1.pub b ∨ b = w.heap.size)) (.lst e rows) (.slice (some ⟨w.heap.size, 0, none⟩) len len) :=
          (hown g1 N3).toD hnt (rdr_mono fun b hb => ⟨.inl hb, rfl⟩) fun b hb i x hx => ⟨.inr (hob b hb), hx⟩
        exact ⟨_, M1.putDst (v := .d (.lst e rows)) hdst hdr rfl (fun id hid => by cases hid) fun u hu => by cases hu⟩
      split at h
      · refine .of h (.value hrun fun hdst => ?_)
        exact N1.putFresh hdst (hown g1 N3) fun b hb => by rw [hob b hb]; exact N2
      · exact hd h
    · exact absurd h.symm hne
  · exact absurd h.symm hne

/-- A variable that nobody writes again. -/
theorem ev_boxPub (H : Rel C.ty E g st a w) {t : TypeId} {x : Operand} (hop : o.op = .box t x) {d : Nat} (hd : o.dst = some d) (hfl : Nat.beq (C.flag d) 4 = true) (h : evOp C fail kp st.get st.box o k = res) (hne : res ≠ fail) : Ends P C E st a w o kp k res := by
  unfold evOp at h
  simp only [hop, hd, hfl, cond_true] at h
  split at h
  · rename_i c hc
    obtain ⟨hq, h⟩ := cond_ends h hne
    simp only [Bool.and_eq_true] at hq
    obtain ⟨⟨q1, q2⟩, q3⟩ := hq
    have q2 := Nat.eq_of_beq_eq_true q2
    obtain ⟨w1, w2⟩ := headsOk_at _ _ q1
    obtain ⟨g1, K1, K2, K3, K4, K5, K6⟩ := H.pubAll (pubss st.get [x]) (pubss_ok st _)
    have hv := (view_rel H K2 K3 K5 x (fun q hq => pubss_mem (List.mem_singleton.2 rfl) hq) (toD_view hc)).1
    obtain ⟨d1, d2⟩ := toD_rel (retype_rel hv) hc
    refine .of h (.value (x := .pointer (some ⟨w.heap.size, 0, none⟩)) (w' := { w with heap := w.heap.push (.cells (a.eval x).cells t) }) (by simp [execOp, hop, Instr.box, newVar, newRow]) fun hdst => ?_)
    obtain ⟨N1, N2, N3⟩ := K1.allocAny (w' := { w with heap := w.heap.push (.cells (a.eval x).cells t) }) rfl ⟨rfl, rfl, rfl⟩
    have M1 := N1.publish N2
    exact ⟨_, M1.putDst (v := .dptr t 0 c) hdst ⟨w.heap.size, 0, fun j => (a.eval x).cells.getD j undef, rfl, q2, ⟨w1.symm, fun j hj => ⟨(d2 j hj).mono fun b i v hb => rdr_mono (fun b hb => ⟨.inl hb, rfl⟩) _ _ _ (N3 b i v hb), w2 j hj⟩⟩, fun j hj => ⟨.inr rfl, by
      have hj' : j < (a.eval x).cells.size := by omega
      simp [World.cell?, Array.getD_eq_getD_getElem?, hj']⟩⟩ rfl (fun id hid => by cases hid) fun u hu => by cases hu⟩
  · exact absurd h.symm hne

theorem ev_box (H : Rel C.ty E g st a w) {t : TypeId} {x : Operand} (hop : o.op = .box t x) (h : evOp C fail kp st.get st.box o k = res) (hne : res ≠ fail) : Ends P C E st a w o kp k res := by
  by_cases hq : ∃ d, o.dst = some d ∧ Nat.beq (C.flag d) 4 = true
  · obtain ⟨d, hd, hfl⟩ := hq
    exact ev_boxPub H hop hd hfl h hne
  · exact ev_box0 H hop (fun d hd => Bool.eq_false_iff.2 fun e => hq ⟨d, hd, e⟩) h hne

end Go.Ab
end

section
/-! Asserted types; panics. -/
set_option autoImplicit false
set_option linter.unusedVariables false
set_option linter.unusedSimpArgs false
namespace Go.Ab
variable {P : Program} {C : Cfg} {E : Ent} {g : Gh} {st : St} {a : Act} {w : World} {o : Oper} {R : Type} {fail : R} {kp : Dat → R} {k : Eff → R} {res : R}

theorem mkVal_data {T : Tys} {R' : Rdr} {bl : Nat → Nat} {kd : TK} {xs : List AV} {v : Value} (hk : (kd.isAgg = true ∧ ∃ cs, v = .agg cs) ∨ (kd.isAgg = false ∧ one1 v = true ∧ xs.length = 1)) (h : CsRel T R' bl xs v.cells) (hid : ∀ x ∈ xs, idL x = []) :
    MRel T R' bl (mkVal kd xs) v ∧ idsOf (mkVal kd xs) = [] := by
  rcases hk with ⟨h1, cs, rfl⟩ | ⟨h1, h2, h3⟩
  · unfold mkVal
    rw [h1]
    exact ⟨⟨cs, rfl, h⟩, List.flatMap_eq_nil_iff.2 hid⟩
  · unfold mkVal
    rw [h1]
    match xs, h3 with
    | [x], _ =>
      simp only [cond_false, List.headD_cons]
      rw [Value.cells_one h2] at h
      have h4 := h.2 0 (by simp)
      simp at h4
      have h5 := hid x List.mem_cons_self
      obtain ⟨q1, q2, q3, q4⟩ := VRel_of_L (ot := fun _ => undef) h4
      refine ⟨?_, by rw [q4, h5]⟩
      cases x <;> first | exact q1 | exact (h4 : False).elim

theorem zero_val {T : Tys} (hT : ∀ t, T t = tyOf P t) {t : TypeId} (h : (T t).zok = true) (hk : (T t).kind.known = true) : ∃ z, (∀ w, (zeroValue t).run P w = .ok z w) ∧ ∀ (R' : Rdr) (bl : Nat → Nat), MRel T R' bl (mkVal (T t).kind (zeroCells T t)) z ∧ idsOf (mkVal (T t).kind (zeroCells T t)) = [] := by
  obtain ⟨z, z1, z2, z3, z4, z5⟩ := zok_run hT h
  refine ⟨z, z1, fun R' bl => mkVal_data ?_ (z5 R' bl) fun x hx => ?_⟩
  · cases ha : (T t).kind.isAgg with
    | true =>
      left
      rw [ha] at z4
      cases z <;> first | exact ⟨rfl, _, rfl⟩ | cases z4
    | false =>
      right
      have hl := tk_nonagg hT (kind_known hk) ha (fun ts h0 => by rw [h0] at hk; cases hk)
      refine ⟨rfl, ?_, by simp [zeroCells, hl]⟩
      have h1 := (z5 R' bl).2 0 (by simp [zeroCells, hl])
      rw [ha] at z4
      have h2 : z.cells = #[z] := by cases z <;> first | rfl | cases z4
      rw [h2] at h1
      exact h1.one
  · obtain ⟨u, _, rfl⟩ := List.mem_map.1 hx
    exact zeroCell_ids _

theorem tup2 {T : Tys} {R' : Rdr} {bl : Nat → Nat} {ot : Nat → Value} {x y : AV} {u v : Value} (h1 : MRel T R' bl x u) (h2 : MRel T R' bl y v) (i1 : idsOf x = []) (i2 : idsOf y = []) : VRel T R' bl ot (.tup [x, y]) (.tuple #[u, v]) := by
  refine ⟨_, rfl, rfl, fun j hj => ?_, fun x' hx => ?_⟩
  · match j, hj with
    | 0, _ => exact h1
    | 1, _ => exact h2
  · rcases List.mem_cons.1 hx with rfl | hx
    · exact i1
    · have : x' = y := by simpa using hx
      rw [this]; exact i2

theorem ev_typeAssert (hT : ∀ t, C.ty t = tyOf P t) (H : Rel C.ty E g st a w) {x : Operand} {xt t : TypeId} {ok : Bool} (hop : o.op = .typeAssert x xt t ok) (h : evOp C fail kp st.get st.box o k = res) (hne : res ≠ fail) : Ends P C E st a w o kp k res := by
  unfold evOp at h
  simp only [hop] at h
  obtain ⟨hc, h⟩ := cond_ends h hne
  simp only [Bool.and_eq_true, Bool.not_eq_true'] at hc
  obtain ⟨hkn, hni⟩ := hc
  obtain ⟨d, hd, hdn⟩ := known_under hT hkn hni
  have hrun : ∀ u y, a.eval x = .iface u y → (execOp a.eval o).run P w = ((if u = t then (pure (if ok then .tuple #[y, .bool true] else y) : Sem Value) else (if ok then (do pure (.tuple #[← zeroValue t, .bool false])) else runtimePanic (.typeAssertion (some xt) (some u) t ""))).run P w).andThen fun v w' => .ok (.value v) w' := fun u y hev => by
    simp only [execOp, hop, Instr.typeAssert, Sem.run_bind, run_underlying hd, Result.andThen_ok, hev]
    cases d <;> first | exact absurd rfl (hdn _) | (by_cases hut : u = t <;> simp [hut])
  have hrunN : a.eval x = .nilIface → (execOp a.eval o).run P w = ((if ok then (do pure (.tuple #[← zeroValue t, .bool false])) else runtimePanic (.typeAssertion (some xt) none t "") : Sem Value).run P w).andThen fun v w' => .ok (.value v) w' := fun hev => by
    simp only [execOp, hop, Instr.typeAssert, Sem.run_bind, run_underlying hd, Result.andThen_ok, hev]
    cases d <;> first | exact absurd rfl (hdn _) | simp
  have hzero : ∀ u, (∃ y, a.eval x = .iface u y) → u ≠ t → (ok && (C.ty t).zok) = true → Next1 P C.ty E st a w o { v := .tup [mkVal (C.ty t).kind (zeroCells C.ty t), .d (.bool false)] } := fun u ⟨y, hev⟩ hne' hz => by
    simp only [Bool.and_eq_true] at hz
    obtain ⟨z, z1, z2⟩ := zero_val (P := P) hT hz.2 hkn
    obtain ⟨z3, z4⟩ := z2 (rdr w g.pub) g.bl
    exact .plain H ⟨rfl, rfl, rfl⟩ (x := .tuple #[z, .bool false]) (by rw [hrun u y hev, if_neg hne', hz.1]; simp [z1]) (tup2 z3 (DRep.bool _) z4 rfl) rfl (fun id hid => by cases hid) fun u hu => by cases hu
  split at h
  · rename_i u v hx
    obtain ⟨h1, h2, h3⟩ := operand_rel H x (by rw [hx]; rfl)
    rw [hx] at h1 h2
    obtain ⟨y, hev, hvy⟩ := h1
    have hm : MRel C.ty (rdr w g.pub) g.bl v y := by
      cases v <;> first | exact hvy | trivial | exact (hvy : False).elim
    have hids : idsOf v = idsOf (.ifc u v) := by
      cases v <;> first | rfl | exact (hvy : False).elim
    cases hb : Nat.beq u t with
    | true =>
      rw [hb] at h
      have hut := Nat.eq_of_beq_eq_true hb
      cases ok with
      | true =>
        simp only [cond_true] at h
        obtain ⟨hi, h⟩ := cond_ends h hne
        exact .of h (.plain H ⟨rfl, rfl, rfl⟩ (x := .tuple #[y, .bool true]) (by rw [hrun u y hev, if_pos hut]; simp) (tup2 hm (DRep.bool _) (by simpa using hi) rfl) rfl (fun id hid => by cases hid) fun u hu => by cases hu)
      | false =>
        simp only [cond_true, cond_false] at h
        obtain ⟨q1, q2, q3⟩ := VRel_of_M (ot := g.ot) hm
        exact .of h (.plain H ⟨rfl, rfl, rfl⟩ (x := y) (by rw [hrun u y hev, if_pos hut]; simp) q1 q2 (fun id hid => h2 id (by rw [← hids]; exact hid)) fun u hu => by simp only at hu; rw [q3] at hu; cases hu)
    | false =>
      rw [hb] at h
      simp only [cond_false] at h
      obtain ⟨hz, h⟩ := cond_ends h hne
      exact .of h (hzero u ⟨y, hev⟩ (fun e => by rw [e, Nat.beq_refl] at hb; cases hb) hz)
  · rename_i dx hx
    obtain ⟨h1, h2, h3⟩ := operand_rel H x (by rw [hx]; rfl)
    rw [hx] at h1
    have hdr : DRep C.ty (rdr w g.pub) dx (a.eval x) := h1
    cases hif : dx.isIfc with
    | true =>
      rw [hif, cond_true] at h
      generalize hev : a.eval x = vx at hdr
      cases hdr <;> try (cases hif; done)
      rename_i u cells y hk hl hlt hr ht
      simp only [Dat.it, Dat.ic] at h
      cases hb : Nat.beq u t with
      | true =>
        rw [hb] at h
        simp only [cond_true] at h
        have hut := Nat.eq_of_beq_eq_true hb
        subst hut
        have hcs : CsRel C.ty (rdr w g.pub) g.bl (coerces C.ty (C.ty u).cells 0 cells) y.cells := by
          refine ⟨by rw [coerces_length, ← hlt, hl], fun j hj => ?_⟩
          rw [coerces_length] at hj
          rw [coerces_getD _ _ _ _ _ hj, Nat.zero_add]
          exact coerce_rel (ht j (by omega)) (hr j (by omega))
        have hmd := mkVal_data (T := C.ty) (kd := (C.ty u).kind) (xs := coerces C.ty (C.ty u).cells 0 cells) (v := y) (by
          rcases hk with hk | hk
          · exact .inl hk
          · right
            refine ⟨hk.1, hk.2, ?_⟩
            rw [coerces_length, tk_nonagg hT (kind_known hkn) hk.1 (fun ts h0 => by rw [h0] at hkn; cases hkn)]
            rfl) hcs fun c hc => (coerces_leaf C.ty _ _ _ c hc).2.1
        cases ok with
        | true =>
          simp only [cond_true] at h
          exact .of h (.plain H ⟨rfl, rfl, rfl⟩ (x := .tuple #[y, .bool true]) (by rw [hrun u y hev, if_pos rfl]; simp) (tup2 hmd.1 (DRep.bool _) hmd.2 rfl) rfl (fun id hid => by cases hid) fun u hu => by cases hu)
        | false =>
          simp only [cond_false] at h
          obtain ⟨q1, q2, q3⟩ := VRel_of_M (ot := g.ot) hmd.1
          exact .of h (.plain H ⟨rfl, rfl, rfl⟩ (x := y) (by rw [hrun u y hev, if_pos rfl]; simp) q1 q2 (fun id hid => by simp only at hid; rw [hmd.2] at hid; cases hid) fun u hu => by simp only at hu; rw [q3] at hu; cases hu)
      | false =>
        rw [hb] at h
        simp only [cond_false] at h
        obtain ⟨hz, h⟩ := cond_ends h hne
        exact .of h (hzero u ⟨y, hev⟩ (fun e => by rw [e, Nat.beq_refl] at hb; cases hb) hz)
    | false =>
      rw [hif, cond_false] at h
      obtain ⟨hz, h⟩ := cond_ends h hne
      simp only [Bool.and_eq_true] at hz
      have hev : a.eval x = .nilIface := by
        generalize a.eval x = vx at hdr
        cases hdr <;> first | rfl | (exact absurd hz.1.1 (by simp [Dat.isNilI]))
      obtain ⟨z, z1, z2⟩ := zero_val (P := P) hT hz.2 hkn
      obtain ⟨z3, z4⟩ := z2 (rdr w g.pub) g.bl
      exact .of h (.plain H ⟨rfl, rfl, rfl⟩ (x := .tuple #[z, .bool false]) (by rw [hrunN hev, hz.1.2]; simp [z1]) (tup2 z3 (DRep.bool _) z4 rfl) rfl (fun id hid => by cases hid) fun u hu => by cases hu)
  · exact absurd h.symm hne

end Go.Ab
end

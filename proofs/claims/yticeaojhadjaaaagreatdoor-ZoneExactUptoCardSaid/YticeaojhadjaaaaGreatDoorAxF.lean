/- Part 6 of the proof that this seat's laws lean on: an abstract machine over the model's code, its soundness, and what it says of this program. -/
import Derived.Test.YticeaojhadjaaaaGreatDoorAxE
import Derived.Laws.Cells
import Derived.Laws.CopyRow

section
/-! Memory: rows of cells that are read and written. -/
set_option autoImplicit false
set_option linter.unusedVariables false
set_option linter.unusedSimpArgs false
namespace Go.Ab
variable {P : Program} {C : Cfg} {E : Ent} {g : Gh} {st : St} {a : Act} {w : World} {o : Oper} {R : Type} {fail : R} {kp : Dat → R} {k : Eff → R} {res : R}

/-- Another block's cells, and all else, are as they were. -/
structure OneRow (w w' : World) (b : Nat) : Prop where
  other : ∀ b', b' ≠ b → w'.heap[b']? = w.heap[b']?
  size : w'.heap.size = w.heap.size
  rest : w'.os = w.os ∧ w'.tape = w.tape ∧ w'.output = w.output

theorem OneRow.refl (w : World) (b : Nat) : OneRow w w b := ⟨fun _ _ => rfl, rfl, rfl, rfl, rfl⟩
theorem OneRow.trans {w w' w'' : World} {b : Nat} (h : OneRow w w' b) (h' : OneRow w' w'' b) : OneRow w w'' b :=
  ⟨fun b' hb => (h'.other b' hb).trans (h.other b' hb), h'.size.trans h.size, h'.rest.1.trans h.rest.1, h'.rest.2.1.trans h.rest.2.1, h'.rest.2.2.trans h.rest.2.2⟩

theorem OneRow.setCell (w : World) (b o : Nat) (v : Value) : OneRow w (w.setCell ⟨b, o, none⟩ v) b := by
  refine ⟨fun b' hb => ?_, ?_, rfl, rfl, rfl⟩
  · simp [World.setCell, Array.getElem?_modify, Ne.symm hb]
  · simp [World.setCell]

theorem heap_setCell {w : World} {b o : Nat} {cur : Array Value} {ty : TypeId} {fr : Nat × Nat} (h : w.heap[b]? = some (.cells cur ty fr)) (v : Value) : (w.setCell ⟨b, o, none⟩ v).heap[b]? = some (.cells (cur.setIfInBounds o v) ty fr) := by
  simp [World.setCell, Array.getElem?_modify, h]

theorem one1_eq (v : Value) : v.oneCell' = one1 v := by cases v <;> rfl

theorem run_store_row (P : Program) (b o : Nat) (ty : TypeId) (fr : Nat × Nat) : ∀ (vs : List Value) (i : Nat) (cur : Array Value) (w : World), w.heap[b]? = some (.cells cur ty fr) → (∀ j, j < cur.size → ¬ (fr.1 ≤ j ∧ j < fr.2)) → o + i + vs.length ≤ cur.size → (∀ v ∈ vs, one1 v = true) →
    ∃ w', (storeCells ⟨b, o, none⟩ vs i).run P w = .ok () w' ∧ w'.heap[b]? = some (.cells (cur.toList.take (o + i) ++ vs ++ cur.toList.drop (o + i + vs.length)).toArray ty fr) ∧ OneRow w w' b
  | [], i, cur, w, hb, _, _, _ => ⟨w, rfl, by simp [hb], .refl _ _⟩
  | v :: vs, i, cur, w, hb, hf, hl, h1 => by
    simp only [List.length_cons] at hl
    have hi : o + i < cur.size := by omega
    have hcell : w.cell? ⟨b, o + i, none⟩ = some cur[o + i] := by simp [World.cell?, hb, hi]
    have hfro : w.frozen? ⟨b, o + i, none⟩ = false := by
      have h0 := hf (o + i) hi
      obtain ⟨lo, hi'⟩ := fr
      simp only [World.frozen?, hb]
      cases h2 : decide (lo ≤ o + i)
      · rfl
      · cases h3 : decide (o + i < hi')
        · rfl
        · exact absurd ⟨of_decide_eq_true h2, of_decide_eq_true h3⟩ h0
    have hst : (store ((⟨b, o, none⟩ : Addr).add i) v).run P w = .ok () (w.setCell ⟨b, o + i, none⟩ v) := by
      rw [add_addr, run_store P w _ v _ (by rw [one1_eq]; exact h1 v List.mem_cons_self), hcell]
      simp [hfro]
    obtain ⟨w', k1, k2, k3⟩ := run_store_row P b o ty fr vs (i + 1) (cur.setIfInBounds (o + i) v) (w.setCell ⟨b, o + i, none⟩ v) (heap_setCell hb v) (by simpa using hf) (by simp; omega) (fun x hx => h1 x (List.mem_cons_of_mem _ hx))
    refine ⟨w', by simp only [storeCells, Sem.run_bind, hst, Result.andThen_ok]; exact k1, ?_, (OneRow.setCell w b (o + i) v).trans k3⟩
    rw [k2]
    congr 3
    have e := list_seg_step cur.toList (o + i) v vs (by simp; omega)
    simpa [Array.toList_setIfInBounds, Nat.add_assoc] using e

theorem kind_known {kd : TK} (h : kd.known = true) : kd ≠ .other := fun h0 => by rw [h0] at h; cases h

theorem run_isAgg {T : Tys} (hT : ∀ t, T t = tyOf P t) {t : TypeId} (h : (T t).kind ≠ .other) (w : World) : (Go.isAgg t).run P w = .ok (T t).kind.isAgg w := by
  obtain ⟨i, h1, h2, h3⟩ := tk_some hT h
  unfold Go.isAgg
  cases hu : P.underlying t with
  | none => rw [hu] at h2; exact absurd h2 h
  | some d =>
    rw [h2, hu]
    cases d <;> simp [run_underlying hu, tkOf, TK.isAgg]

theorem run_load_cell {T : Tys} (hT : ∀ t, T t = tyOf P t) {t : TypeId} (h : (T t).kind ≠ .other) (ha : (T t).kind.isAgg = false) {b off : Nat} {v : Value} (hc : w.cell? ⟨b, off, none⟩ = some v) :
    (Instr.loadAt t (.pointer (some ⟨b, off, none⟩))).run P w = .ok v w := by
  simp [Instr.loadAt, Instr.sureAddr, loadVar, run_isAgg hT h, ha, hc]

theorem run_load_agg {T : Tys} (hT : ∀ t, T t = tyOf P t) {t : TypeId} (h : (T t).kind ≠ .other) (ha : (T t).kind.isAgg = true) {b off : Nat} {vs : Nat → Value} (hc : ∀ j, j < (T t).size → w.cell? ⟨b, off + j, none⟩ = some (vs j)) :
    (Instr.loadAt t (.pointer (some ⟨b, off, none⟩))).run P w = .ok (.agg ((List.range (T t).size).map vs).toArray) w := by
  have h1 : (loadCells ⟨b, off, none⟩ (T t).size).run P w = .ok ((List.range (T t).size).map vs).toArray w :=
    run_loadCells w _ _ vs fun j hj => by rw [add_addr]; exact hc j hj
  simp [Instr.loadAt, Instr.sureAddr, loadVar, run_isAgg hT h, ha, run_sizeP hT h, h1]

theorem coerce_rel {T : Tys} {R' : Rdr} {bl : Nat → Nat} {t : TypeId} {x : Dat} {v : Value} (hw : WT (T t).kind x) (hd : DRep T R' x v) : LRel T R' bl (coerce (T t).kind x) v := by
  cases hk : (T t).kind <;> rw [hk] at hw <;> cases x <;> simp only [WT] at hw <;> try exact hw.elim
  all_goals try subst hw
  all_goals first | exact hd | exact hd.one

theorem coerces_length (T : Tys) : ∀ (ts : List TypeId) (j : Nat) (xs : List Dat), (coerces T ts j xs).length = ts.length
  | [], _, _ => rfl
  | t :: ts, j, xs => by simp [coerces, coerces_length T ts]

theorem coerces_getD (T : Tys) : ∀ (ts : List TypeId) (j : Nat) (xs : List Dat) (i : Nat), i < ts.length → (coerces T ts j xs).getD i .undef = coerce (T (ts.getD i 0)).kind (xs.getD (j + i) .nilP)
  | t :: ts, j, xs, 0, _ => by simp [coerces]
  | t :: ts, j, xs, i + 1, h => by
    have := coerces_getD T ts (j + 1) xs i (by simpa using h)
    simp only [coerces, List.getD_cons_succ]
    rw [this]
    congr 2
    omega

/-- A typed part of a row that is read. -/
theorem row_part {T : Tys} {R' : Rdr} {bl : Nat → Nat} {e t : TypeId} {row : List Dat} {vs : Nat → Value} (h : RowRep T R' e row vs) {off : Nat} (ht : ((T e).cells.drop off).take (T t).cells.length = (T t).cells) :
    off + (T t).cells.length ≤ row.length ∨ (T t).cells = [] := by
  by_cases h0 : (T t).cells = []
  · exact .inr h0
  · left
    have h1 := congrArg List.length ht
    simp only [List.length_take, List.length_drop] at h1
    have h2 : 0 < (T t).cells.length := List.length_pos_iff.2 h0
    rw [h.1]
    omega

theorem row_cell {T : Tys} {R' : Rdr} {bl : Nat → Nat} {e t : TypeId} {row : List Dat} {vs : Nat → Value} (h : RowRep T R' e row vs) {off : Nat} (ht : ((T e).cells.drop off).take (T t).cells.length = (T t).cells) {i : Nat} (hi : i < (T t).cells.length) :
    LRel T R' bl ((coerces T (T t).cells off row).getD i .undef) (vs (off + i)) := by
  have h0 : off + (T t).cells.length ≤ row.length := by
    rcases row_part (bl := bl) h ht with h0 | h0
    · exact h0
    · rw [h0] at hi; simp at hi
  rw [coerces_getD T _ _ _ _ hi]
  have h1 := h.2 (off + i) (by omega)
  have h2 : (T e).cells.getD (off + i) 0 = (T t).cells.getD i 0 := by
    conv => rhs; rw [← ht]
    simp only [List.getD_eq_getElem?_getD, List.getElem?_take, List.getElem?_drop]
    simp [hi]
  rw [h2] at h1
  exact coerce_rel h1.2 h1.1

end Go.Ab
end

section
/-! Loads and stores. -/
set_option autoImplicit false
set_option linter.unusedVariables false
set_option linter.unusedSimpArgs false
namespace Go.Ab
variable {P : Program} {C : Cfg} {E : Ent} {g : Gh} {st : St} {a : Act} {w : World} {o : Oper} {R : Type} {fail : R} {kp : Dat → R} {k : Eff → R} {res : R}

theorem ble_le {a b : Nat} (h : Nat.ble a b = true) : a ≤ b := Nat.le_of_ble_eq_true h

theorem box_cell (H : Rel C.ty E g st a w) {id : Nat} {cs : List AV} (hb : st.box id = some cs) {off : Nat} (ho : off < cs.length) :
    ∃ v, w.cell? ⟨g.bl id, off, none⟩ = some v ∧ CRel C.ty w g id off (cs.getD off .undef) v := by
  obtain ⟨cur, ty, fr, h1, h2, h3, h4⟩ := H.bx id cs hb
  have h5 : off < cur.size := by omega
  refine ⟨cur.getD off undef, ?_, h4 off ho⟩
  simp [World.cell?, h1, Array.getD_eq_getD_getElem?, h5]

theorem mkVal_rel {T : Tys} {R' : Rdr} {bl : Nat → Nat} {ot : Nat → Value} {kd : TK} {xs : List AV} {vs : Nat → Value} (hn : kd.isAgg = true ∨ xs.length = 1) (h : ∀ i, i < xs.length → LRel T R' bl (xs.getD i .undef) (vs i)) :
    VRel T R' bl ot (mkVal kd xs) (if kd.isAgg then .agg ((List.range xs.length).map vs).toArray else vs 0) := by
  unfold mkVal
  cases hk : kd.isAgg with
  | true =>
    refine ⟨_, rfl, by simp, fun j hj => ?_⟩
    have := h j hj
    simpa [Array.getD_eq_getD_getElem?, hj] using this
  | false =>
    rw [hk] at hn
    have hl : xs.length = 1 := hn.resolve_left (by simp)
    have := h 0 (by omega)
    match xs, hl with
    | [x], _ =>
      simp only [cond_false, List.headD_cons, Bool.false_eq_true, if_false]
      simp only [List.getD_cons_zero] at this
      cases x <;> first | exact this | trivial | exact (this : False).elim

theorem coerce_leaf (kd : TK) (x : Dat) : isOwn (coerce kd x) = false ∧ idL (coerce kd x) = [] ∧ ∀ t, (coerce kd x).refs t = false := by
  cases kd <;> exact ⟨rfl, rfl, fun _ => rfl⟩

theorem coerces_leaf (T : Tys) : ∀ (ts : List TypeId) (j : Nat) (xs : List Dat), ∀ x ∈ coerces T ts j xs, isOwn x = false ∧ idL x = [] ∧ ∀ t, x.refs t = false
  | [], _, _, x, h => by cases h
  | t :: ts, j, xs, x, h => by
    rcases List.mem_cons.1 h with rfl | h
    · exact coerce_leaf _ _
    · exact coerces_leaf T ts _ _ x h

theorem mkVal_leaf {kd : TK} {xs : List AV} (h : ∀ x ∈ xs, isOwn x = false ∧ idL x = [] ∧ ∀ t, x.refs t = false) (hx : ∀ x ∈ xs, ∀ y, x ≠ .agg y ∧ (∀ f, x ≠ .fn f y) ∧ (∀ t z, x ≠ .ifc t z)) :
    isOwn (mkVal kd xs) = false ∧ idsOf (mkVal kd xs) = [] ∧ ∀ t, (mkVal kd xs).refs t = false := by
  unfold mkVal
  cases kd.isAgg with
  | true =>
    refine ⟨rfl, ?_, fun _ => rfl⟩
    simp only [cond_true, idsOf]
    exact List.flatMap_eq_nil_iff.2 fun x hx => (h x hx).2.1
  | false =>
    match xs with
    | [] => exact ⟨rfl, rfl, fun _ => rfl⟩
    | x :: xs =>
      obtain ⟨h1, h2, h3⟩ := h x List.mem_cons_self
      simp only [cond_false, List.headD_cons]
      refine ⟨h1, ?_, h3⟩
      have h4 := hx x List.mem_cons_self
      cases x <;> first | exact h2 | (exact absurd rfl (h4 _).1) | (exact absurd rfl ((h4 _).2.1 _)) | (exact absurd rfl ((h4 []).2.2 _ _))

theorem coerce_form (kd : TK) (x : Dat) : ∀ y, coerce kd x ≠ .agg y ∧ (∀ f, coerce kd x ≠ .fn f y) ∧ (∀ t z, coerce kd x ≠ .ifc t z) := by
  intro y
  cases kd <;> exact ⟨by simp [coerce], by simp [coerce], by simp [coerce]⟩

theorem coerces_form (T : Tys) : ∀ (ts : List TypeId) (j : Nat) (xs : List Dat), ∀ x ∈ coerces T ts j xs, ∀ y, x ≠ .agg y ∧ (∀ f, x ≠ .fn f y) ∧ (∀ t z, x ≠ .ifc t z)
  | [], _, _, x, h => by cases h
  | t :: ts, j, xs, x, h => by
    rcases List.mem_cons.1 h with rfl | h
    · exact coerce_form _ _
    · exact coerces_form T ts _ _ x h

theorem tk_nonagg {T : Tys} {P : Program} (hT : ∀ t, T t = tyOf P t) {t : TypeId} (h : (T t).kind ≠ .other) (ha : (T t).kind.isAgg = false) (htu : ∀ ts, (T t).kind ≠ .tuple ts) : (T t).cells = [t] := by
  rw [hT] at h ha htu ⊢
  unfold tyOf at h ha htu ⊢
  cases hi : P.info? t with
  | none => rw [hi] at h; exact absurd rfl h
  | some i =>
    simp only [hi] at h ha htu ⊢
    unfold leaves
    cases hk : tkOf (P.underlying t) <;> simp_all [TK.isAgg]

/-- A load out of a row that is published. -/
theorem load_row (hT : ∀ t, C.ty t = tyOf P t) (H : Rel C.ty E g st a w) {t e : TypeId} {x : Operand} {b o' off : Nat} {row : List Dat} {vs : Nat → Value} (hop : o.op = .load t x) (he : a.eval x = .pointer (some ⟨b, o' + off, none⟩))
    (hr : RowRep C.ty (rdr w g.pub) e row vs) (hc : ∀ j, j < row.length → w.cell? ⟨b, o' + j, none⟩ = some (vs j)) (ht : ((C.ty e).cells.drop off).take (C.ty t).cells.length = (C.ty t).cells) (hs : (C.ty t).size = (C.ty t).cells.length) (hk : (C.ty t).kind ≠ .other)
    (htu : ∀ ts, (C.ty t).kind ≠ .tuple ts) : Next1 P C.ty E st a w o { v := mkVal (C.ty t).kind (coerces C.ty (C.ty t).cells off row) } := by
  have hpart := row_part (bl := g.bl) hr ht
  have hl : (coerces C.ty (C.ty t).cells off row).length = (C.ty t).cells.length := coerces_length _ _ _ _
  have hv := mkVal_rel (T := C.ty) (R' := rdr w g.pub) (bl := g.bl) (ot := g.ot) (kd := (C.ty t).kind) (xs := coerces C.ty (C.ty t).cells off row) (vs := fun i => vs (off + i)) (by
      cases ha : (C.ty t).kind.isAgg with
      | true => exact .inl rfl
      | false => right; rw [hl, tk_nonagg hT hk ha htu]; rfl) (fun i hi => row_cell hr ht (by rw [hl] at hi; exact hi))
  obtain ⟨q1, q2, q3⟩ := mkVal_leaf (kd := (C.ty t).kind) (coerces_leaf C.ty (C.ty t).cells off row) (coerces_form C.ty (C.ty t).cells off row)
  refine .plain H ⟨rfl, rfl, rfl⟩ (x := if (C.ty t).kind.isAgg then .agg ((List.range (coerces C.ty (C.ty t).cells off row).length).map fun i => vs (off + i)).toArray else vs (off + 0)) ?_ hv q1 (fun id h => by simp only at h; rw [q2] at h; cases h) (fun u h => by simp only at h; rw [q3] at h; cases h)
  have hrun : (Instr.loadAt t (a.eval x)).run P w = .ok (if (C.ty t).kind.isAgg then .agg ((List.range (coerces C.ty (C.ty t).cells off row).length).map fun i => vs (off + i)).toArray else vs (off + 0)) w := by
    rw [he]
    cases ha : (C.ty t).kind.isAgg with
    | true =>
      rw [run_load_agg hT hk ha (vs := fun i => vs (off + i)) fun j hj => ?_]
      · simp [hl, hs]
      · rcases hpart with h0 | h0
        · rw [Nat.add_assoc]; exact hc _ (by omega)
        · rw [hs, h0] at hj; simp at hj
    | false =>
      have h1 : (C.ty t).cells.length = 1 := by rw [tk_nonagg hT hk ha htu]; rfl
      rcases hpart with h0 | h0
      · exact run_load_cell hT hk ha (by rw [Nat.add_zero]; exact hc off (by omega))
      · rw [h0] at h1; simp at h1
  simp [execOp, hop, hrun]

end Go.Ab
end

section
/-! Variables' cells that hold rows of their own; new variables; loads. -/
set_option autoImplicit false
set_option linter.unusedVariables false
set_option linter.unusedSimpArgs false
namespace Go.Ab
variable {P : Program} {C : Cfg} {E : Ent} {g : Gh} {st : St} {a : Act} {w : World} {o : Oper} {R : Type} {fail : R} {kp : Dat → R} {k : Eff → R} {res : R}

theorem getD_set {α : Type} (l : List α) (i j : Nat) (x d : α) : (l.set i x).getD j d = if j = i ∧ i < l.length then x else l.getD j d := by
  simp only [List.getD_eq_getElem?_getD, List.getElem?_set]
  by_cases h : i = j
  · subst h
    by_cases h2 : i < l.length
    · simp [h2]
    · simp [h2]
  · have : ¬ j = i := fun e => h e.symm
    simp [h, this]

/-- A variable's cell in the model's world. -/
theorem bx_cell {T : Tys} (H : Rel T E g st a w) {id : Nat} {cs : List AV} (hb : st.box id = some cs) {off : Nat} (ho : off < cs.length) {v : Value} (hv : w.cell? ⟨g.bl id, off, none⟩ = some v) : CRel T w g id off (cs.getD off .undef) v := by
  obtain ⟨cur, ty, fr, h1, h2, h3, h4⟩ := H.bx id cs hb
  have h5 : off < cur.size := by omega
  have : v = cur.getD off undef := by
    simp [World.cell?, h1, h5] at hv
    simp [Array.getD_eq_getD_getElem?, h5, hv]
  rw [this]
  exact h4 off ho

theorem OwnRel.one {T : Tys} {R' : Rdr} {e : TypeId} {r : List (List Dat)} {v : Value} (h : OwnRel T R' w e r v) : one1 v = true := by
  rcases h with ⟨_, _, A, rfl⟩ | ⟨_, b, cap, cur, ty, fr, vs, rfl, _⟩ | ⟨_, _, b, o, _, h3⟩
  · rfl
  · rfl
  · rcases h3 with ⟨_, hv, _⟩ | ⟨_, _, _, _, _, _, _, hv, _⟩ <;> rw [hv] <;> rfl

/-- Cells of a variable are forgotten or told anew, the world being as it is. -/
theorem Rel.recell {T : Tys} (H : Rel T E g st a w) {id : Nat} {cs : List AV} (hb : st.box id = some cs) {off : Nat} (ho : off < cs.length) {x : AV}
    (hx : ∀ v, w.cell? ⟨g.bl id, off, none⟩ = some v → LRel T (rdr w g.pub) g.bl x v) (hid : ∀ i ∈ idL x, (st.box i).isSome = true) : Rel T E g (st.setBox id (cs.set off x)) a w := by
  obtain ⟨cur, ty, fr, h1, h2, h3, h4⟩ := H.bx id cs hb
  refine H.writeBox hb (by simp) h1 (by simp [h2]) h3 (fun _ _ => rfl) rfl ⟨rfl, rfl, rfl⟩ fun j hj => ?_
  have hj' : j < cs.length := by simpa using hj
  by_cases hjo : j = off
  · subst hjo
    left
    rw [getD_set, if_pos ⟨rfl, ho⟩]
    refine ⟨hx _ ?_, hid⟩
    have : j < cur.size := by omega
    simp [World.cell?, h1, Array.getD_eq_getD_getElem?, this]
  · right
    rw [getD_set, if_neg (fun h => hjo h.1)]
    exact ⟨rfl, h4 j hj'⟩

theorem hb_recell (g : Gh) (st : St) {id : Nat} {cs : List AV} (hb0 : st.box id = some cs) {off : Nat} (ho : off < cs.length) {x : AV} (hx : isOwn x = false) (h : Hd) (b : Nat) (h1 : hb g (st.setBox id (cs.set off x)) h = some b) : h ≠ .cell id off ∧ hb g st h = some b := by
  cases h <;> simp only [hb, box_setBox, cellAt_setBox, get_setBox] at h1 ⊢
  case tmp t => exact ⟨by simp, h1⟩
  case box i =>
    refine ⟨by simp, ?_⟩
    by_cases hi : i = id
    · subst hi; simpa [hb0] using h1
    · rw [if_neg hi] at h1; exact h1
  case cell i j =>
    by_cases hi : i = id
    · subst hi
      rw [if_pos rfl, getD_set] at h1
      by_cases hj : j = off ∧ off < cs.length
      · rw [if_pos hj, hx] at h1; cases h1
      · rw [if_neg hj] at h1
        have hjo : ¬ j = off := fun e => hj ⟨e, ho⟩
        refine ⟨by simp [hjo], ?_⟩
        have : cellAt st i j = cs.getD j .undef := by simp [cellAt, hb0]
        rw [this]; exact h1
    · rw [if_neg hi] at h1
      exact ⟨by simp [hi], h1⟩

/-- A cell's own row is taken from it. -/
theorem Rel.loosenC {T : Tys} (H : Rel T E g st a w) {id : Nat} {cs : List AV} (hb0 : st.box id = some cs) {off : Nat} (ho : off < cs.length) {e : TypeId} {r : List (List Dat)} (hc : cs.getD off .undef = .own e r) {v : Value} (hv : w.cell? ⟨g.bl id, off, none⟩ = some v) :
    Rel T E g (st.setBox id (cs.set off .undef)) a w ∧ OwnRel T (rdr w g.pub) w e r v ∧ (∀ b, ownB v = some b → Free E g (st.setBox id (cs.set off .undef)) w b) := by
  have h0 := bx_cell H hb0 ho hv
  rw [hc] at h0
  refine ⟨H.recell hb0 ho (fun v' hv' => ?_) (fun i hi => by cases hi), h0.1, fun b hb1 => ?_⟩
  · rw [hv] at hv'
    cases hv'
    exact h0.1.one
  · have h2 : hb g st (.cell id off) = some b := by
      simp only [hb, cellAt, hb0, Option.getD_some, hc, isOwn, if_true, h0.2]
      exact hb1
    obtain ⟨h3, h4, h5⟩ := H.hp _ _ h2
    refine ⟨fun h h6 => ?_, h3, h4, h5⟩
    obtain ⟨h7, h8⟩ := hb_recell g st hb0 ho (x := .undef) rfl h b h6
    exact h7 (H.ex _ _ _ h8 h2)

/-- A cell is told to hold a row of its own. -/
theorem Rel.cellOwn {T : Tys} (H : Rel T E g st a w) {id0 : Nat} {cs : List AV} (hb0 : st.box id0 = some cs) {off : Nat} (ho : off < cs.length) (hno : isOwn (cs.getD off .undef) = false) {e : TypeId} {r : List (List Dat)} {v : Value} (hv : w.cell? ⟨g.bl id0, off, none⟩ = some v)
    (hown : OwnRel T (rdr w g.pub) w e r v) (hf : ∀ b, ownB v = some b → Free E g st w b) :
    Rel T E { g with oc := fun i j => if i = id0 ∧ j = off then v else g.oc i j } (st.setBox id0 (cs.set off (.own e r))) a w := by
  have hca : ∀ i j, cellAt (st.setBox id0 (cs.set off (.own e r))) i j = if i = id0 ∧ j = off then .own e r else cellAt st i j := fun i j => by
    rw [cellAt_setBox]
    by_cases hi : i = id0
    · subst hi
      rw [if_pos rfl, getD_set]
      by_cases hj : j = off
      · subst hj; simp [ho]
      · simp [hj, cellAt, hb0]
    · simp [hi]
  have hbx : ∀ i, ((st.setBox id0 (cs.set off (.own e r))).box i).isSome = (st.box i).isSome := fun i => by
    rw [box_setBox]; split
    · rename_i h; rw [h, hb0]; rfl
    · rfl
  have hhb : ∀ h b, hb { g with oc := fun i j => if i = id0 ∧ j = off then v else g.oc i j } (st.setBox id0 (cs.set off (.own e r))) h = some b → (h = .cell id0 off ∧ ownB v = some b) ∨ (h ≠ .cell id0 off ∧ hb g st h = some b) := fun h b h1 => by
    cases h <;> simp only [hb, hbx, hca, get_setBox] at h1 ⊢
    case tmp t => exact .inr ⟨by simp, h1⟩
    case box i => exact .inr ⟨by simp, h1⟩
    case cell i j =>
      by_cases hij : i = id0 ∧ j = off
      · obtain ⟨rfl, rfl⟩ := hij
        simp [isOwn] at h1
        exact .inl ⟨rfl, h1⟩
      · rw [if_neg hij, if_neg hij] at h1
        refine .inr ⟨fun h => hij ?_, h1⟩
        injection h with h2 h3
        exact ⟨h2, h3⟩
  refine ⟨H.tm, fun id cs1 hid1 => ?_, fun h h' b h1 h2 => ?_, fun h b h1 => ?_, H.pb, H.p0, H.keep, H.wo, H.sz, H.al, fun t id h1 => by rw [hbx]; exact H.pr t id h1, fun i j i' h1 => ?_, fun i hi => by rw [hbx]; exact H.xt i hi, H.df, H.ns⟩
  · have hcr : ∀ i j x u, ¬ (i = id0 ∧ j = off) → CRel T w g i j x u → CRel T w { g with oc := fun i j => if i = id0 ∧ j = off then v else g.oc i j } i j x u := fun i j x u hij hc => by
      by_cases hx : isOwn x = true
      · obtain ⟨e', r', rfl⟩ := isOwn_eq hx
        exact ⟨hc.1, by simp only [if_neg hij]; exact hc.2⟩
      · have hx' : isOwn x = false := by simpa using hx
        have h5 : LRel T (rdr w g.pub) g.bl x u := LRel_of_CRel hx' hc
        exact CRel_of_LRel h5
    by_cases hi : id = id0
    · subst hi
      rw [box_setBox, if_pos rfl] at hid1
      cases hid1
      obtain ⟨cur, ty, fr, h1, h2, h3, h4⟩ := H.bx id cs hb0
      refine ⟨cur, ty, fr, h1, by simp [h2], h3, fun j hj => ?_⟩
      have hj' : j < cs.length := by simpa using hj
      rw [getD_set]
      by_cases hjo : j = off
      · subst hjo
        rw [if_pos ⟨rfl, ho⟩]
        have : cur.getD j undef = v := by
          have h5 : j < cur.size := by omega
          simp [World.cell?, h1, h5] at hv
          simp [Array.getD_eq_getD_getElem?, h5, hv]
        rw [this]
        exact ⟨hown, by simp⟩
      · rw [if_neg (fun h => hjo h.1)]
        exact hcr id j _ _ (fun h => hjo h.2) (h4 j hj')
    · rw [box_setBox, if_neg hi] at hid1
      obtain ⟨cur, ty, fr, h1, h2, h3, h4⟩ := H.bx id cs1 hid1
      exact ⟨cur, ty, fr, h1, h2, h3, fun j hj => hcr id j _ _ (fun h => hi h.1) (h4 j hj)⟩
  · rcases hhb h b h1 with ⟨rfl, h3⟩ | ⟨h3, h4⟩
    · rcases hhb h' b h2 with ⟨rfl, h5⟩ | ⟨h5, h6⟩
      · rfl
      · exact absurd h6 ((hf b h3).no h')
    · rcases hhb h' b h2 with ⟨rfl, h5⟩ | ⟨h5, h6⟩
      · exact absurd h4 ((hf b h5).no h)
      · exact H.ex h h' b h4 h6
  · rcases hhb h b h1 with ⟨rfl, h3⟩ | ⟨h3, h4⟩
    · exact ⟨(hf b h3).np, (hf b h3).lt, (hf b h3).ok⟩
    · exact H.hp h b h4
  · rw [hca] at h1
    rw [hbx]
    split at h1
    · cases h1
    · exact H.prb i j i' h1

theorem setBox_setBox_box (st : St) (id : Nat) (x y : List AV) (i : Nat) : ((st.setBox id x).setBox id y).box i = (st.setBox id y).box i := by
  simp only [box_setBox]; split <;> rfl

/-- A cell's own row is published. -/
theorem Rel.pubC {T : Tys} (H : Rel T E g st a w) {id : Nat} {cs : List AV} (hb0 : st.box id = some cs) {off : Nat} (ho : off < cs.length) {e : TypeId} {r : List (List Dat)} (hc : cs.getD off .undef = .own e r) (he : isTag e = false) {v : Value} (hv : w.cell? ⟨g.bl id, off, none⟩ = some v) :
    ∃ g', Rel T E g' (st.setBox id (cs.set off (.d (.lst e r)))) a w ∧ (∀ b, g.pub b → g'.pub b) ∧ g'.bl = g.bl ∧ DRep T (rdr w g'.pub) (.lst e r) v := by
  obtain ⟨h1, h2, h3⟩ := H.loosenC hb0 ho hc hv
  have hbu : (st.setBox id (cs.set off .undef)).box id = some (cs.set off .undef) := by rw [box_setBox, if_pos rfl]
  have conv : ∀ {g'' : Gh}, g''.bl = g.bl → Rel T E g'' (st.setBox id (cs.set off .undef)) a w → DRep T (rdr w g''.pub) (.lst e r) v → Rel T E g'' (st.setBox id (cs.set off (.d (.lst e r)))) a w := fun {g''} hbl K hd => by
    have := K.recell hbu (off := off) (by simpa using ho) (x := .d (.lst e r)) (fun v' hv' => by
      rw [hbl, hv] at hv'
      cases hv'
      exact hd) (fun i hi => by cases hi)
    rw [List.set_set] at this
    exact this.congr (fun _ => rfl) fun i => (setBox_setBox_box st id _ _ i).symm
  cases hob : ownB v with
  | none =>
    have hd : DRep T (rdr w g.pub) (.lst e r) v := h2.toD he (fun _ _ _ h => h) fun b hb1 => by rw [hob] at hb1; cases hb1
    exact ⟨g, conv rfl h1 hd, fun _ h => h, rfl, hd⟩
  | some b0 =>
    have hd : DRep T (rdr w (fun b => g.pub b ∨ b = b0)) (.lst e r) v := h2.toD he (rdr_mono fun b hb => ⟨.inl hb, rfl⟩) fun b hb1 i x hx => by
      rw [hob] at hb1
      cases hb1
      exact ⟨.inr rfl, hx⟩
    exact ⟨{ g with pub := fun b => g.pub b ∨ b = b0 }, conv (g'' := { g with pub := fun b => g.pub b ∨ b = b0 }) rfl (h1.publish (h3 b0 hob)) hd, fun _ h => .inl h, rfl, hd⟩

theorem box_cell' {T : Tys} (H : Rel T E g st a w) {id : Nat} {cs : List AV} (hb : st.box id = some cs) {off : Nat} (ho : off < cs.length) :
    ∃ v, w.cell? ⟨g.bl id, off, none⟩ = some v ∧ CRel T w g id off (cs.getD off .undef) v := by
  obtain ⟨cur, ty, fr, h1, h2, h3, h4⟩ := H.bx id cs hb
  have h5 : off < cur.size := by omega
  refine ⟨cur.getD off undef, ?_, h4 off ho⟩
  simp [World.cell?, h1, Array.getD_eq_getD_getElem?, h5]


theorem pubCell_own (x : AV) : isOwn (pubCell x) = false := by
  cases x <;> try rfl
  rename_i e r
  rcases tag_cases (isTag e) e r with ⟨_, h⟩ | ⟨_, h⟩ <;> (show isOwn (cond (isTag e) AV.undef (.d (.lst e r))) = false; rw [h]; rfl)
theorem pubCell_not {x : AV} (h : isOwn x = false) : pubCell x = x := by cases x <;> first | rfl | cases h
theorem pubCell_idem (x : AV) : pubCell (pubCell x) = pubCell x := pubCell_not (pubCell_own x)

/-- All own rows in a variable's cells are published. -/
theorem Rel.pubBox {T : Tys} : ∀ (n : Nat) {g : Gh} {st : St} {id : Nat} {cs : List AV}, Rel T E g st a w → st.box id = some cs → n ≤ cs.length →
    ∃ g', Rel T E g' (st.setBox id ((cs.take n).map pubCell ++ cs.drop n)) a w ∧ (∀ b, g.pub b → g'.pub b) ∧ g'.bl = g.bl
  | 0, g, st, id, cs, H, hb, _ => ⟨g, H.congr (fun _ => rfl) fun i => (by
      rw [box_setBox]
      split
      · rename_i h; rw [h, hb]; simp
      · rfl), fun _ h => h, rfl⟩
  | n + 1, g, st, id, cs, H, hb, hn => by
    obtain ⟨g1, H1, p1, b1⟩ := Rel.pubBox n H hb (by omega)
    have hb1 : (st.setBox id ((cs.take n).map pubCell ++ cs.drop n)).box id = some ((cs.take n).map pubCell ++ cs.drop n) := by rw [box_setBox, if_pos rfl]
    have hlen : n < ((cs.take n).map pubCell ++ cs.drop n).length := by simp; omega
    have hget : ((cs.take n).map pubCell ++ cs.drop n).getD n .undef = cs.getD n .undef := by
      have hl : ((cs.take n).map pubCell).length = n := by simp; omega
      rw [List.getD_eq_getElem?_getD, List.getElem?_append_right (by omega), hl, Nat.sub_self, List.getElem?_drop, Nat.add_zero, List.getD_eq_getElem?_getD]
    have hset : ∀ v, v = pubCell (cs.getD n .undef) → ((cs.take n).map pubCell ++ cs.drop n).set n v = (cs.take (n + 1)).map pubCell ++ cs.drop (n + 1) := fun v hv => by
      have hl : ((cs.take n).map pubCell).length = n := by simp; omega
      rw [List.set_append_right _ _ (by omega), hl, Nat.sub_self, List.drop_eq_getElem_cons (by omega : n < cs.length), List.set_cons_zero, List.take_succ_eq_append_getElem (by omega : n < cs.length), List.map_append, List.append_assoc]
      subst hv
      rw [List.getD_eq_getElem?_getD, List.getElem?_eq_getElem (by omega : n < cs.length)]
      rfl
    cases ho : isOwn (cs.getD n .undef) with
    | true =>
      obtain ⟨e, r, he⟩ := isOwn_eq ho
      obtain ⟨v, hv, _⟩ := box_cell' H1 hb1 hlen
      cases hn : isTag e with
      | true =>
        obtain ⟨H2, _, _⟩ := H1.loosenC hb1 hlen (by rw [hget, he]) hv
        refine ⟨g1, H2.congr (fun _ => rfl) fun i => ?_, p1, b1⟩
        rw [setBox_setBox_box, hset _ (by rw [he]; show _ = cond (isTag e) _ _; rw [hn]; rfl)]
      | false =>
        obtain ⟨g2, H2, p2, b2, _⟩ := H1.pubC hb1 hlen (by rw [hget, he]) hn hv
        refine ⟨g2, H2.congr (fun _ => rfl) fun i => ?_, fun b h => p2 b (p1 b h), b2.trans b1⟩
        rw [setBox_setBox_box, hset _ (by rw [he]; show _ = cond (isTag e) _ _; rw [hn]; rfl)]
    | false =>
      refine ⟨g1, H1.congr (fun _ => rfl) fun i => ?_, p1, b1⟩
      have hpc : pubCell (cs.getD n .undef) = cs.getD n .undef := by
        cases hx : cs.getD n .undef <;> first | rfl | (rw [hx] at ho; cases ho)
      have : (cs.take (n + 1)).map pubCell ++ cs.drop (n + 1) = (cs.take n).map pubCell ++ cs.drop n := by
        rw [← hset (cs.getD n .undef) hpc.symm]
        have : ((cs.take n).map pubCell ++ cs.drop n).getD n .undef = cs.getD n .undef := hget
        refine List.ext_getElem? fun j => ?_
        rw [List.getElem?_set]
        split
        · rename_i hj
          subst hj
          rw [← this, List.getD_eq_getElem?_getD, List.getElem?_eq_getElem hlen]; rfl
        · rfl
      rw [this]


end Go.Ab
end

section
/-! Variables: made, read, written. -/
set_option autoImplicit false
set_option linter.unusedVariables false
set_option linter.unusedSimpArgs false
namespace Go.Ab
variable {P : Program} {C : Cfg} {E : Ent} {g : Gh} {st : St} {a : Act} {w : World} {o : Oper} {R : Type} {fail : R} {kp : Dat → R} {k : Eff → R} {res : R}

theorem kindOf_eq {T : Tys} (hT : ∀ t, T t = tyOf P t) (t : TypeId) : (T t).kind = kindOf P t := by
  rw [hT]; unfold tyOf kindOf
  cases P.info? t <;> rfl

theorem zeroIs_rel {T : Tys} {R' : Rdr} {bl : Nat → Nat} {kd : TK} {v : Value} (h : zeroIs kd v = true) : LRel T R' bl (zeroCell kd) v := by
  cases kd <;> cases v <;> simp only [zeroIs] at h <;> try (cases h; done)
  case int.int k k' n =>
    simp only [Bool.and_eq_true, decide_eq_true_eq] at h
    obtain ⟨rfl, rfl⟩ := h
    exact DRep.int _ _
  case bool.bool b =>
    cases b
    · exact DRep.bool _
    · cases h
  case string.string s =>
    have h1 : s.data.toList = [] := by simpa using h
    have h2 : s = ⟨([] : List UInt8).toArray⟩ := by
      cases s with
      | mk d => simp at h1; simp [h1]
    rw [h2]
    exact DRep.str []
  case slice.slice e A l c =>
    cases A with
    | some A => cases h
    | none =>
      simp only [zeroIs, Bool.and_eq_true] at h
      have h1 := Nat.eq_of_beq_eq_true h.1
      have h2 := Nat.eq_of_beq_eq_true h.2
      subst h1; subst h2
      exact (rfl : _ = _)
  case pointer.pointer e p =>
    cases p with
    | some p => cases h
    | none => exact DRep.nilP
  case map.map k e m =>
    cases m with
    | some m => cases h
    | none => exact (rfl : one1 (.map none) = true)
  case func.nilFunc => exact DRep.nilF
  case iface.nilIface => exact DRep.nilI

theorem zerosAre_len : ∀ (ts : List TypeId) (vs : List Value), zerosAre P ts vs = true → ts.length = vs.length
  | [], [], _ => rfl
  | t :: ts, v :: vs, h => by
    simp only [zerosAre, Bool.and_eq_true] at h
    simp [zerosAre_len ts vs h.2]
  | [], v :: vs, h => by cases h
  | t :: ts, [], h => by cases h

theorem zerosAre_rel {T : Tys} (hT : ∀ t, T t = tyOf P t) {R' : Rdr} {bl : Nat → Nat} : ∀ (ts : List TypeId) (vs : List Value), zerosAre P ts vs = true → ∀ j, j < ts.length → LRel T R' bl ((ts.map fun u => zeroCell (T u).kind).getD j .undef) (vs.getD j undef)
  | [], vs, _, j, hj => by simp at hj
  | t :: ts, [], h, _, _ => by cases h
  | t :: ts, v :: vs, h, 0, _ => by
    simp only [zerosAre, Bool.and_eq_true] at h
    simp only [List.map_cons, List.getD_cons_zero]
    rw [kindOf_eq hT]
    exact zeroIs_rel h.1
  | t :: ts, v :: vs, h, j + 1, hj => by
    simp only [zerosAre, Bool.and_eq_true] at h
    simp only [List.map_cons, List.getD_cons_succ]
    exact zerosAre_rel hT ts vs h.2 j (by simpa using hj)

/-- A type's zero value. -/
theorem zok_run {T : Tys} (hT : ∀ t, T t = tyOf P t) {t : TypeId} (h : (T t).zok = true) :
    ∃ z, (∀ w, (zeroValue t).run P w = .ok z w) ∧ z.cells.size = (T t).cells.length ∧ (T t).size = (T t).cells.length ∧ isAggV z = (T t).kind.isAgg ∧
      ∀ (R' : Rdr) (bl : Nat → Nat), CsRel T R' bl (zeroCells T t) z.cells := by
  have h0 := hT t
  unfold tyOf at h0
  cases hi : P.info? t with
  | none => rw [hi] at h0; rw [h0] at h; cases h
  | some i =>
    rw [hi] at h0
    simp only at h0
    rw [h0] at h ⊢
    simp only at h ⊢
    unfold zokOf at h
    rw [hi] at h
    simp only at h
    cases hz : i.zero with
    | none => rw [hz] at h; cases h
    | some z =>
      rw [hz] at h
      simp only [Bool.and_eq_true] at h
      obtain ⟨⟨h1, h2⟩, h3⟩ := h
      have hl := zerosAre_len _ _ h1
      refine ⟨z, fun w => by simp [zeroValue, typeInfo, hi, hz], by simpa using hl.symm, Nat.eq_of_beq_eq_true h2, ?_, fun R' bl => ⟨?_, fun j hj => ?_⟩⟩
      · cases hv : isAggV z <;> rw [hv] at h3 <;> simpa using h3.symm
      · simp only [zeroCells, h0, List.length_map]
        simpa using hl
      · simp only [zeroCells, h0] at hj ⊢
        have := zerosAre_rel hT (R' := R') (bl := bl) _ _ h1 j (by simpa using hj)
        simpa [Array.getD_eq_getD_getElem?, List.getD_eq_getElem?_getD] using this

theorem zeroCell_ids (kd : TK) : idL (zeroCell kd) = [] := by cases kd <;> rfl
/-- A new variable and its address. -/
theorem Next1.newBox (H : Rel C.ty E g st a w) {d : Nat} (hd : o.dst = some d) (h0 : st.box (boxId d) = none) {cs : List AV} {cur : Array Value} {ty : TypeId}
    (hrun : (execOp a.eval o).run P w = .ok (.value (.pointer (some ⟨w.heap.size, 0, none⟩))) { w with heap := w.heap.push (.cells cur ty) }) (hc : CsRel C.ty (rdr w g.pub) g.bl cs cur)
    (hid : ∀ c ∈ cs, ∀ id ∈ idL c, (st.box id).isSome = true) : Next1 P C.ty E st a w o { v := .ptr (boxId d) 0, bw := [(boxId d, cs)] } :=
  .value hrun fun hdst => by
    have h1 := H.newBox h0 (cs := cs) (cur := cur) (ty := ty) rfl hc.1.symm hc.2 hid
    refine ⟨{ g with bl := fun i => if i = boxId d then w.heap.size else g.bl i }, ?_⟩
    have := h1.putDst (dst := o.dst) (v := .ptr (boxId d) 0) (x := .pointer (some ⟨w.heap.size, 0, none⟩)) hdst (by
      show _ = _
      simp) rfl (fun id hid => by
      have : id = boxId d := by simpa [idsOf, idL] using hid
      rw [this, box_setBox, if_pos rfl]; rfl) (fun u hu => by cases hu)
    exact this

theorem fresh_cases (fl : Nat) (cs : List AV) : freshCells fl cs = cs ∨ ∃ e, cs = [.nils e] ∧ isTag e = false ∧ freshCells fl cs = [.own e []] := by
  unfold freshCells
  split
  · rename_i e
    cases h : Nat.beq fl 3 && !(isTag e) with
    | false => exact .inl rfl
    | true =>
      rw [Bool.and_eq_true] at h
      exact .inr ⟨e, rfl, by simpa using h.2, rfl⟩
  · exact .inl rfl

theorem ev_alloc (hT : ∀ t, C.ty t = tyOf P t) (H : Rel C.ty E g st a w) {t : TypeId} (hop : o.op = .alloc t) (h : evOp C fail kp st.get st.box o k = res) (hne : res ≠ fail) : Ends P C E st a w o kp k res := by
  unfold evOp at h
  simp only [hop] at h
  split at h
  · rename_i d hd
    split at h
    · rename_i hb
      obtain ⟨hz, h⟩ := cond_ends h hne
      obtain ⟨z, h1, h2, h3, h4, h5⟩ := zok_run hT hz
      have hids : ∀ c ∈ zeroCells C.ty t, ∀ id ∈ idL c, (st.box id).isSome = true := fun c hc id hid => by
        simp only [zeroCells, List.mem_map] at hc
        obtain ⟨u, _, rfl⟩ := hc
        rw [zeroCell_ids] at hid; cases hid
      rcases fresh_cases _ (zeroCells C.ty t) with hf | ⟨e, e1, e2, e3⟩
      · rw [hf] at h
        refine .of h (.newBox H hd hb (cur := z.cells) (ty := t) ?_ (h5 _ _) hids)
        simp [execOp, hop, Instr.alloc, h1, newVar, newRow]
      · rw [e3] at h
        refine .of h (.value (x := .pointer (some ⟨w.heap.size, 0, none⟩)) (w' := { w with heap := w.heap.push (.cells z.cells t) }) (by simp [execOp, hop, Instr.alloc, h1, newVar, newRow]) fun hdst => ?_)
        have hcr := h5 (rdr w g.pub) g.bl
        have N1 := H.newBox hb (cs := [.nils e]) (cur := z.cells) (ty := t) (w' := { w with heap := w.heap.push (.cells z.cells t) }) rfl (by rw [← e1]; exact hcr.1.symm) (by rw [← e1]; exact hcr.2) (by rw [← e1]; exact hids)
        have hz0 : z.cells.size = 1 := by rw [← hcr.1, e1]; rfl
        have hzv : z.cells.getD 0 undef = .slice none 0 0 := by
          have := hcr.2 0 (by rw [e1]; simp)
          rw [e1] at this
          exact this
        have hbox : (st.setBox (boxId d) [.nils e]).box (boxId d) = some [.nils e] := by rw [box_setBox, if_pos rfl]
        have N2 := N1.cellOwn hbox (off := 0) (by simp) rfl (e := e) (r := []) (v := .slice none 0 0) (by
          have : z.cells[0]? = some (.slice none 0 0) := by
            rw [Array.getElem?_eq_getElem (by omega)]
            rw [Array.getD_eq_getD_getElem?, Array.getElem?_eq_getElem (by omega)] at hzv
            rw [← hzv]; rfl
          simp [World.cell?, this]) (.inl ⟨rfl, e2, none, rfl⟩) (fun b hb => by simp [ownB] at hb)
        have N3 := N2.putDst (dst := o.dst) (v := .ptr (boxId d) 0) (x := .pointer (some ⟨w.heap.size, 0, none⟩)) hdst (by show _ = _; simp) rfl (fun id hid => by
          have : id = boxId d := by simpa [idsOf, idL] using hid
          rw [this, box_setBox, if_pos rfl]; rfl) (fun u hu => by cases hu)
        refine ⟨_, (Rel.congr N3 (fun q => ?_) fun q => ?_)⟩
        · simp only [Eff.app, boxAll, updAll, putAll, hd, St.putO]
          simp only [get_put, get_setBox]
          rfl
        · simp only [Eff.app, boxAll, updAll, putAll, hd, St.putO]
          simp only [box_put, box_setBox]
          split <;> simp_all
    · exact absurd h.symm hne
  · exact absurd h.symm hne

theorem leaf_rel {T : Tys} {R' : Rdr} {bl : Nat → Nat} {ot : Nat → Value} {x : AV} {v : Value} (hx : isLeaf x = true) (h : VRel T R' bl ot x v) : LRel T R' bl x v := by
  cases x <;> first | exact h | cases hx
theorem leaf_cells {x : AV} (hx : isLeaf x = true) : asCells x = [x] ∧ idsOf x = idL x ∧ isOwn x = false ∧ ∀ t, x.refs t = false := by
  cases x <;> first | exact ⟨rfl, rfl, rfl, fun _ => rfl⟩ | cases hx

theorem Value.cells_one {v : Value} (h : one1 v = true) : v.cells = #[v] := by cases v <;> first | rfl | cases h

theorem asCells_rel {T : Tys} {R' : Rdr} {bl : Nat → Nat} {ot : Nat → Value} {x : AV} {v : Value} (h : VRel T R' bl ot x v) (hl : (asCells x).all isLeaf = true) : CsRel T R' bl (asCells x) v.cells ∧ ∀ c ∈ asCells x, ∀ id ∈ idL c, id ∈ idsOf x := by
  by_cases hx : isLeaf x = true
  · obtain ⟨h1, h2, _⟩ := leaf_cells hx
    have h3 := leaf_rel hx h
    rw [h1, h2, Value.cells_one h3.one]
    refine ⟨⟨rfl, fun j hj => ?_⟩, fun c hc id hid => ?_⟩
    · have : j = 0 := by simpa using hj
      subst this
      exact h3
    · have : c = x := by simpa using hc
      subst this
      exact hid
  · cases x
    case agg xs =>
      obtain ⟨vs, rfl, h2⟩ := h
      exact ⟨h2, fun c hc id hid => List.mem_flatMap.2 ⟨c, hc, hid⟩⟩
    all_goals first | (exact absurd rfl hx) | (simp [asCells, isLeaf] at hl)

/-- What an operand's owner holds, in its own temporary. -/
theorem owner_rel (H : Rel C.ty E g st a w) {x : Operand} {t : Nat} (h : ownerOf st.get x = some t) : ∃ e r, st.get t = .own e r ∧ a.eval x = a.tmps.getD t undef ∧ OwnRel C.ty (rdr w g.pub) w e r (a.eval x) := by
  obtain ⟨u, _, ⟨e, r, h1⟩, _⟩ := ownerOf_some h
  have h2 := (owner_eval H h).1
  have h3 := H.tm t
  rw [h1] at h3
  exact ⟨e, r, h1, h2, by rw [h2]; exact h3.1⟩

theorem ev_box0 (H : Rel C.ty E g st a w) {t : TypeId} {x : Operand} (hop : o.op = .box t x) (hfl : ∀ d, o.dst = some d → Nat.beq (C.flag d) 4 = false) (h : evOp C fail kp st.get st.box o k = res) (hne : res ≠ fail) : Ends P C E st a w o kp k res := by
  unfold evOp at h
  simp only [hop] at h
  split at h
  · rename_i d hd
    simp only [hfl d hd, cond_false] at h
    split at h
    · rename_i hb
      split at h
      · rename_i u hu
        refine .of h (.value (x := .pointer (some ⟨w.heap.size, 0, none⟩)) (w' := { w with heap := w.heap.push (.cells (a.eval x).cells t) }) (by simp [execOp, hop, Instr.box, newVar, newRow]) fun hdst => ?_)
        obtain ⟨e, r, h1, h2, h3⟩ := owner_rel H hu
        have hcs := Value.cells_one h3.one
        obtain ⟨K1, K2, K3⟩ := H.loosen h1
        rw [← h2] at K2 K3
        have hb' : (st.put u .undef).box (boxId d) = none := by rw [box_put]; exact hb
        have N1 := K1.newBox hb' (cs := [.undef]) (cur := #[a.eval x]) (ty := t) (w' := { w with heap := w.heap.push (.cells #[a.eval x] t) }) rfl rfl (fun j hj => by
          have : j = 0 := by simpa using hj
          subst this
          exact h3.one) (fun c hc id hid => by
            have : c = .undef := by simpa using hc
            subst this; cases hid)
        have hold : ∀ b, b < w.heap.size → ({ w with heap := w.heap.push (.cells #[a.eval x] t) } : World).heap[b]? = w.heap[b]? := fun b hb => by simp [Array.getElem?_push, Nat.ne_of_lt hb]
        have hbox : ((st.put u .undef).setBox (boxId d) [.undef]).box (boxId d) = some [.undef] := by rw [box_setBox, if_pos rfl]
        have N2 := N1.cellOwn hbox (off := 0) (by simp) rfl (e := e) (r := r) (v := a.eval x) (by simp [World.cell?]) (K2.mono (rdr_mono fun b hb => ⟨hb, hold b (K1.pb b hb).1⟩) fun b hb => hold b (K3 b hb).lt) (fun b hb => by
          have hf := K3 b hb
          refine ⟨fun hh hq => ?_, hf.np, by simp; exact Nat.lt_succ_of_lt hf.lt, hf.ok⟩
          have hne' : b ≠ w.heap.size := Nat.ne_of_lt hf.lt
          refine hf.no hh ?_
          cases hh <;> simp only [Go.Ab.hb, box_setBox, cellAt_setBox, get_setBox] at hq ⊢
          case tmp t => exact hq
          case cell i j =>
            by_cases hi : i = boxId d
            · rw [if_pos hi] at hq
              have : isOwn (([.undef] : List AV).getD j .undef) = false := by cases j <;> rfl
              rw [this] at hq; cases hq
            · rw [if_neg hi] at hq; exact hq
          case box i =>
            by_cases hi : i = boxId d
            · subst hi
              simp at hq
              exact absurd hq.symm hne'
            · rw [if_neg hi, if_neg hi] at hq; exact hq)
        have N3 := N2.putDst (dst := o.dst) (v := .ptr (boxId d) 0) (x := .pointer (some ⟨w.heap.size, 0, none⟩)) hdst (by show _ = _; simp) rfl (fun id hid => by
          have : id = boxId d := by simpa [idsOf, idL] using hid
          rw [this, box_setBox, if_pos rfl]; rfl) (fun u hu => by cases hu)
        rw [hcs]
        refine ⟨_, (Rel.congr N3 (fun q => ?_) fun q => ?_)⟩
        · simp only [Eff.app, boxAll, updAll, putAll, hd, St.putO, h1]
          simp only [get_put, get_setBox]
        · simp only [Eff.app, boxAll, updAll, putAll, hd, St.putO, h1]
          simp only [box_put, box_setBox]
          split <;> simp_all
      · rename_i hu
        obtain ⟨hl, h⟩ := cond_ends h hne
        obtain ⟨h1, h2, h3⟩ := operand_rel H x (owner_none hu)
        obtain ⟨h4, h5⟩ := asCells_rel h1 hl
        exact .of h (.newBox H hd hb (cur := (a.eval x).cells) (ty := t) (by simp [execOp, hop, Instr.box, newVar, newRow]) h4 fun c hc id hid => h2 id (h5 c hc id hid))
    · exact absurd h.symm hne
  · exact absurd h.symm hne

end Go.Ab
end

section
/-! Loads and stores through addresses. -/
set_option autoImplicit false
set_option linter.unusedVariables false
set_option linter.unusedSimpArgs false
namespace Go.Ab
variable {P : Program} {C : Cfg} {E : Ent} {g : Gh} {st : St} {a : Act} {w : World} {o : Oper} {R : Type} {fail : R} {kp : Dat → R} {k : Eff → R} {res : R}

theorem VRel_of_L {T : Tys} {R' : Rdr} {bl : Nat → Nat} {ot : Nat → Value} {x : AV} {v : Value} (h : LRel T R' bl x v) : VRel T R' bl ot x v ∧ isOwn x = false ∧ (∀ t, x.refs t = false) ∧ idsOf x = idL x := by
  cases x <;> first | exact ⟨h, rfl, fun _ => rfl, rfl⟩ | exact ⟨trivial, rfl, fun _ => rfl, rfl⟩ | exact (h : False).elim

theorem any_false {α : Type} {p : α → Bool} {l : List α} (h : l.any p = false) {x : α} (hx : x ∈ l) : p x = false := by
  have := List.any_eq_false.1 h x hx
  simpa using this

/-- What a struct in a variable is. -/
theorem agg_cells {T : Tys} (H : Rel T E g st a w) {id : Nat} {cs : List AV} (hb : st.box id = some cs) {off n : Nat} (h5 : off + n ≤ cs.length) (hno : ((cs.drop off).take n).any isOwn = false) :
    ∃ vs : Nat → Value, (∀ j, j < n → w.cell? ⟨g.bl id, off + j, none⟩ = some (vs j)) ∧ VRel T (rdr w g.pub) g.bl g.ot (.agg ((cs.drop off).take n)) (.agg ((List.range n).map vs).toArray) ∧
      ∀ id', id' ∈ idsOf (.agg ((cs.drop off).take n)) → (st.box id').isSome = true := by
  obtain ⟨cur, ty, fr, q1, q2, q3, q4⟩ := H.bx id cs hb
  have hlen : ((cs.drop off).take n).length = n := by simp; omega
  have hget : ∀ j, j < n → ((cs.drop off).take n).getD j .undef = cs.getD (off + j) .undef := fun j hj => by
    simp [List.getD_eq_getElem?_getD, List.getElem?_take, List.getElem?_drop, hj]
  have hnown : ∀ j, j < n → isOwn (cs.getD (off + j) .undef) = false := fun j hj => by
    rw [← hget j hj]
    exact any_false hno (mem_of_getD (by rw [hlen]; exact hj))
  refine ⟨fun j => cur.getD (off + j) undef, fun j hj => ?_, ⟨_, rfl, by simp [hlen], fun j hj => ?_⟩, fun id' hid => ?_⟩
  · have : off + j < cur.size := by omega
    simp [World.cell?, q1, Array.getD_eq_getD_getElem?, this]
  · rw [hlen] at hj
    rw [hget j hj]
    have := LRel_of_CRel (hnown j hj) (q4 (off + j) (by omega))
    simpa [Array.getD_eq_getD_getElem?, hj] using this
  · obtain ⟨c, hc, hid'⟩ := List.mem_flatMap.1 hid
    obtain ⟨j, hj, rfl⟩ := List.mem_iff_getElem.1 hc
    have hj' : j < n := by rw [hlen] at hj; exact hj
    refine H.prb id (off + j) id' ?_
    have := hget j hj'
    simp only [List.getD_eq_getElem?_getD, List.getElem?_eq_getElem hj, Option.getD_some] at this
    simp only [cellAt, hb, Option.getD_some]
    rw [List.getD_eq_getElem?_getD, ← this]
    exact hid'

theorem pubN_own {n off k : Nat} (cs : List AV) (h : off + k = n) : (((pubN n cs).drop off).take k).any isOwn = false := by
  rw [List.any_eq_false]
  intro x hx
  obtain ⟨j, hj, rfl⟩ := List.mem_iff_getElem.1 hx
  have hj' : j < k := by simp at hj; omega
  rw [List.getElem_take, List.getElem_drop]
  have hlt : off + j < (pubN n cs).length := by simp at hj; omega
  have e : (pubN n cs)[off + j] = ((pubN n cs)[off + j]?).getD .undef := by rw [List.getElem?_eq_getElem hlt]; rfl
  rw [e]
  unfold pubN
  rw [List.getElem?_append]
  split
  · rename_i hq
    rw [List.getElem?_eq_getElem hq, Option.getD_some, List.getElem_map, pubCell_own]
    simp
  · rename_i hq
    exfalso
    simp [pubN] at hlt hq
    omega

theorem pubN_len (n : Nat) (cs : List AV) : (pubN n cs).length = cs.length := by
  simp [pubN]; omega

theorem ev_load (hT : ∀ t, C.ty t = tyOf P t) (H : Rel C.ty E g st a w) {t : TypeId} {x : Operand} (hop : o.op = .load t x) (h : evOp C fail kp st.get st.box o k = res) (hne : res ≠ fail) : Ends P C E st a w o kp k res := by
  unfold evOp at h
  simp only [hop] at h
  split at h
  · rename_i id off hx
    obtain ⟨h1, h2, h3⟩ := operand_rel H x (by rw [hx]; rfl)
    rw [hx] at h1
    have he : a.eval x = .pointer (some ⟨g.bl id, off, none⟩) := h1
    split at h
    · rename_i cs hb
      cases hag : (C.ty t).kind.isAgg with
      | true =>
        rw [hag, cond_true] at h
        obtain ⟨h4, h⟩ := cond_ends h hne
        have h5 := ble_le h4
        have hko : (C.ty t).kind ≠ .other := fun h0 => by rw [h0] at hag; cases hag
        cases hany : ((cs.drop off).take (C.ty t).size).any isOwn with
        | false =>
          rw [hany, cond_false] at h
          obtain ⟨vs, hcell, hv, hids⟩ := agg_cells H hb h5 hany
          have hrun := run_load_agg (P := P) hT hko hag (b := g.bl id) (off := off) (w := w) (vs := vs) hcell
          exact .of h (.plain H ⟨rfl, rfl, rfl⟩ (x := .agg ((List.range (C.ty t).size).map vs).toArray) (by simp [execOp, hop, he, hrun]) hv rfl hids fun u hu => by cases hu)
        | true =>
          rw [hany, cond_true] at h
          obtain ⟨g1, K1, p1, b1⟩ := H.pubBox (off + (C.ty t).size) hb h5
          have hb1 : (st.setBox id (pubN (off + (C.ty t).size) cs)).box id = some (pubN (off + (C.ty t).size) cs) := by rw [box_setBox, if_pos rfl]
          obtain ⟨vs, hcell, hv, hids⟩ := agg_cells (st := st.setBox id (pubN (off + (C.ty t).size) cs)) K1 hb1 (by rw [pubN_len]; exact h5) (pubN_own cs rfl)
          rw [b1] at hcell
          have hrun := run_load_agg (P := P) hT hko hag (b := g.bl id) (off := off) (w := w) (vs := vs) hcell
          refine .of h (.value (x := .agg ((List.range (C.ty t).size).map vs).toArray) (w' := w) (by simp [execOp, hop, he, hrun]) fun hdst => ⟨g1, ?_⟩)
          exact K1.putDst hdst hv rfl hids fun u hu => by cases hu
      | false =>
        rw [hag, cond_false] at h
        obtain ⟨h4, h⟩ := cond_ends h hne
        simp only [Bool.and_eq_true] at h4
        have hlt := blt_lt h4.1
        have hko := kind_known h4.2
        obtain ⟨v, hv, hcr⟩ := box_cell H hb hlt
        have hrun : (execOp a.eval o).run P w = .ok (.value v) w := by simp [execOp, hop, he, run_load_cell hT hko hag hv]
        cases how : isOwn (cs.getD off .undef) with
        | false =>
          rw [how, cond_false] at h
          have hl := LRel_of_CRel how hcr
          obtain ⟨k1, k2, k3, k4⟩ := VRel_of_L (ot := g.ot) hl
          refine .of h (.plain H ⟨rfl, rfl, rfl⟩ hrun k1 k2 (fun id' hid => H.prb id off id' ?_) fun u hu => by simp only at hu; rw [k3] at hu; cases hu)
          simp only at hid
          rw [k4] at hid
          simpa [cellAt, hb] using hid
        | true =>
          rw [how, cond_true] at h
          obtain ⟨e, r, hc⟩ := isOwn_eq how
          have hpub : k { v := pubCell (cs.getD off .undef), bw := [(id, cs.set off (pubCell (cs.getD off .undef)))] } = res → Ends P C E st a w o kp k res := fun h => by
            rw [hc] at h
            simp only [pubCell] at h
            cases hn : isTag e with
            | true =>
              rw [hn, cond_true] at h
              obtain ⟨K1, K2, K3⟩ := H.loosenC hb hlt hc hv
              exact .of h (.value hrun fun hdst => ⟨g, K1.putDst hdst trivial rfl (fun id' hid => by cases hid) fun u hu => by cases hu⟩)
            | false =>
              rw [hn, cond_false] at h
              refine .of h (.value hrun fun hdst => ?_)
              obtain ⟨g', K1, K2, K3, K4⟩ := H.pubC hb hlt hc hn hv
              exact ⟨g', K1.putDst hdst K4 rfl (fun id' hid => by cases hid) fun u hu => by cases hu⟩
          split at h
          · rename_i hfl
            rw [hc] at h
            refine .of h (.value hrun fun hdst => ?_)
            obtain ⟨K1, K2, K3⟩ := H.loosenC hb hlt hc hv
            cases hd : o.dst with
            | none => exact ⟨g, K1⟩
            | some d =>
              rw [hd] at hdst
              have hs := put_same a d v (by rw [H.ns]; exact (dstOk_some hdst).1)
              exact ⟨_, K1.putOwn (.put a d v) (by rw [hs]; exact K2) fun b hb1 => by
                rw [hs] at hb1
                exact ⟨(K3 b hb1).no, (K3 b hb1).np, (K3 b hb1).lt, (K3 b hb1).ok⟩⟩
          · exact hpub h
    · exact absurd h.symm hne
  · rename_i e off row hx
    obtain ⟨h1, h2, h3⟩ := operand_rel H x (by rw [hx]; rfl)
    rw [hx] at h1
    obtain ⟨b, o', vs, h4, h5, h6, h7⟩ := h1
    obtain ⟨hc, h⟩ := cond_ends h hne
    simp only [Bool.and_eq_true, decide_eq_true_eq] at hc
    exact .of h (load_row hT H hop h4 h6 (fun j hj => (h7 j hj).2) hc.1.1 (Nat.eq_of_beq_eq_true hc.1.2) (kind_known hc.2) fun ts h0 => by rw [h0] at hc; exact absurd hc.2 (by simp [TK.known]))
  · rename_i u e i off hx
    obtain ⟨h1, h2, h3⟩ := operand_rel H x (by rw [hx]; rfl)
    rw [hx] at h1
    obtain ⟨b, n, cap, h4, h5⟩ := h1
    split at h
    · rename_i e' r hu
      obtain ⟨hc, hk⟩ := cond_ends h hne
      simp only [Bool.and_eq_true, decide_eq_true_eq] at hc
      have htm := H.tm u
      rw [hu] at htm
      obtain ⟨htm, hot⟩ := htm
      obtain ⟨⟨⟨⟨q1, q2⟩, q3⟩, q4⟩, q5⟩ := hc
      have q1 := Nat.eq_of_beq_eq_true q1
      subst q1
      rcases htm with ⟨rfl, _⟩ | ⟨_, b', cap', cur, ty1, fr, vs, k1, k2, k3, k4, k5, k6, k7, k8⟩ | ⟨_, _, b', o', _, hob⟩
      · exact absurd (blt_lt q5) (by simp)
      rotate_left
      · exfalso
        rw [hot] at h4
        rcases hob with ⟨_, hv, _⟩ | ⟨_, _, _, _, _, _, _, hv, _⟩ <;> rw [hv] at h4 <;> cases h4
      · rw [hot, k1] at h4
        have hbb : b' = b := by simpa using (Value.slice.inj h4).1
        subst hbb
        obtain ⟨k9, k10⟩ := k8 i (blt_lt q5)
        refine .of hk (load_row hT H hop (o' := i * (C.ty e).size) h5 k9 (fun j hj => ?_) q2 (Nat.eq_of_beq_eq_true q3) (kind_known q4) fun ts h0 => by rw [h0] at q4; exact absurd q4 (by simp [TK.known]))
        have := k10 j (by rw [k6, ← k9.1]; exact hj)
        simp only [World.cell?, k2]
        simpa using this
    · exact absurd h.symm hne
  · exact absurd h.symm hne

theorem run_store_at (hT : ∀ t, C.ty t = tyOf P t) {t : TypeId} (hk : (C.ty t).kind ≠ .other) {b off : Nat} {v : Value} {cur : Array Value} {ty : TypeId} {fr : Nat × Nat} (hb : w.heap[b]? = some (.cells cur ty fr)) (hfr : ∀ j, j < cur.size → ¬ (fr.1 ≤ j ∧ j < fr.2))
    (hsz : v.cells.size = (C.ty t).size) (hle : off + (C.ty t).size ≤ cur.size) (h1 : ∀ u ∈ v.cells.toList, one1 u = true) :
    ∃ w', (Instr.storeAt t (.pointer (some ⟨b, off, none⟩)) v).run P w = .ok () w' ∧ w'.heap[b]? = some (.cells (cur.toList.take off ++ v.cells.toList ++ cur.toList.drop (off + (C.ty t).size)).toArray ty fr) ∧ OneRow w w' b := by
  have hl : v.cells.toList.length = (C.ty t).size := by simpa using hsz
  obtain ⟨w', k1, k2, k3⟩ := run_store_row P b off ty fr v.cells.toList 0 cur w hb hfr (by rw [hl]; omega) h1
  refine ⟨w', ?_, ?_, k3⟩
  · simp [Instr.storeAt, Instr.sureAddr, storeVar, run_sizeP hT hk, hsz, k1]
  · rw [k2, hl]; simp

theorem CsRel.one {T : Tys} {R' : Rdr} {bl : Nat → Nat} {xs : List AV} {vs : Array Value} (h : CsRel T R' bl xs vs) : ∀ u ∈ vs.toList, one1 u = true := by
  intro u hu
  obtain ⟨j, hj, rfl⟩ := List.mem_iff_getElem.1 hu
  have hj' : j < xs.length := by rw [h.1]; simpa using hj
  have := (h.2 j hj').one
  have hv : j < vs.size := by simpa using hj
  simp only [Array.getD_eq_getD_getElem?, Array.getElem?_eq_getElem hv, Option.getD_some] at this
  simpa using this

theorem getD_splice {α : Type} (xs ys zs : List α) (off n : Nat) (hl : ys.length = n) (ho : off + n ≤ xs.length) (d : α) (j : Nat) :
    (xs.take off ++ ys ++ xs.drop (off + n)).getD j d = if off ≤ j ∧ j < off + n then ys.getD (j - off) d else xs.getD j d := by
  simp only [List.getD_eq_getElem?_getD, List.getElem?_append, List.length_append, List.length_take, hl, List.getElem?_take, List.getElem?_drop]
  have : min off xs.length = off := by omega
  rw [this]
  by_cases h1 : j < off
  · have h2 : ¬ (off ≤ j ∧ j < off + n) := by omega
    have h3 : j < off + n := by omega
    rw [if_neg h2]
    simp [h1, h3]
  · by_cases h2 : j < off + n
    · have h3 : off ≤ j ∧ j < off + n := by omega
      simp [h1, h2, h3]
    · have h3 : ¬ (off ≤ j ∧ j < off + n) := by omega
      simp [h2, h3]
      congr 2
      omega

theorem retype_cells {kd : TK} {x : AV} (h : (asCells x).all isLeaf = true) : (asCells (retype kd x)).all isLeaf = true ∧ (asCells (retype kd x)).length = (asCells x).length := by
  unfold retype
  split
  · split <;> exact ⟨rfl, rfl⟩
  · exact ⟨h, rfl⟩

theorem Rel.putUndef {T : Tys} (H : Rel T E g st a w) {dst : Option Nat} {x : Value} (hd : dstOk E.n dst .undef = true) : Rel T E g (st.putO dst .undef) (a.put dst x) w :=
  H.putDst hd trivial rfl (fun id h => by cases h) (fun u h => by cases h)

theorem getD_toArray_splice (cur : Array Value) (vs : List Value) (off n : Nat) (hl : vs.length = n) (ho : off + n ≤ cur.size) (j : Nat) :
    ((cur.toList.take off ++ vs ++ cur.toList.drop (off + n)).toArray).getD j undef = if off ≤ j ∧ j < off + n then vs.getD (j - off) undef else cur.getD j undef := by
  have := getD_splice cur.toList vs cur.toList off n hl (by simpa using ho) undef j
  rw [Array.getD_eq_getD_getElem?, List.getElem?_toArray, ← List.getD_eq_getElem?_getD, this]
  simp [Array.getD_eq_getD_getElem?, List.getD_eq_getElem?_getD]

/-- A store into a variable of what is no row of one's own. -/
theorem next_store (hT : ∀ t, C.ty t = tyOf P t) (H : Rel C.ty E g st a w) {t : TypeId} {ad x : Operand} (hop : o.op = .store t ad x) {id off : Nat} {cs : List AV} (hx : operand st.get ad = .ptr id off) (hb : st.box id = some cs)
    (hown : isOwn (operand st.get x) = false) (hle : off + (C.ty t).size ≤ cs.length) (hl : (asCells (operand st.get x)).length = (C.ty t).size) (hlf : (asCells (operand st.get x)).all isLeaf = true) (hk : (C.ty t).kind ≠ .other) :
    Next1 P C.ty E st a w o { v := .undef, bw := [(id, cs.take off ++ asCells (retype (C.ty t).kind (operand st.get x)) ++ cs.drop (off + (C.ty t).size))] } := by
  obtain ⟨h1, h2, h3⟩ := operand_rel H ad (by rw [hx]; rfl)
  rw [hx] at h1
  have he : a.eval ad = .pointer (some ⟨g.bl id, off, none⟩) := h1
  obtain ⟨v1, v2, v3⟩ := operand_rel H x hown
  obtain ⟨r1, r2⟩ := retype_cells (kd := (C.ty t).kind) hlf
  obtain ⟨c1, c2⟩ := asCells_rel (retype_rel (kd := (C.ty t).kind) v1) r1
  obtain ⟨cur, ty, fr, q1, q2, q3, q4⟩ := H.bx id cs hb
  have hsz : (a.eval x).cells.size = (C.ty t).size := by rw [← c1.1, r2, hl]
  obtain ⟨w', k1, k2, k3⟩ := run_store_at (P := P) hT hk q1 q3 hsz (off := off) (by omega) c1.one
  refine .skip (w' := w') (by simp [execOp, hop, he, k1]) fun hd => ⟨g, ?_⟩
  have hlen : (asCells (retype (C.ty t).kind (operand st.get x))).length = (C.ty t).size := by rw [r2, hl]
  refine Rel.putUndef (H.writeBox (cs' := cs.take off ++ asCells (retype (C.ty t).kind (operand st.get x)) ++ cs.drop (off + (C.ty t).size)) hb (by simp [hlen]; omega) k2 (by simp [hlen]; omega) ?_ k3.other k3.size k3.rest fun j hj => ?_) hd
  · intro i hi
    refine q3 i ?_
    simp at hi
    omega
  · rw [getD_splice cs _ cs off _ hlen hle, getD_toArray_splice cur _ off _ (by rw [Array.length_toList]; exact hsz) (by omega)]
    by_cases hj2 : off ≤ j ∧ j < off + (C.ty t).size
    · rw [if_pos hj2, if_pos hj2]
      left
      have hj3 : j - off < (asCells (retype (C.ty t).kind (operand st.get x))).length := by omega
      refine ⟨?_, fun id' hid => ?_⟩
      · have := c1.2 (j - off) hj3
        simpa [Array.getD_eq_getD_getElem?, List.getD_eq_getElem?_getD] using this
      · have := c2 _ (mem_of_getD hj3) id' hid
        rw [retype_ids] at this
        exact v2 id' this
    · rw [if_neg hj2, if_neg hj2]
      right
      refine ⟨rfl, q4 j ?_⟩
      simp [hlen] at hj
      omega

/-- A row of a temporary's own is written. -/
theorem Rel.writeRow {T : Tys} (H : Rel T E g st a w) {u : Nat} {e : TypeId} {r : List (List Dat)} (hu : st.get u = .own e r) {b : Nat} (hbu : ownB (a.tmps.getD u undef) = some b) {e' : TypeId} {r' : List (List Dat)} {w' : World}
    (ho : OneRow w w' b) (hown : OwnRel T (rdr w g.pub) w' e' r' (a.tmps.getD u undef)) : Rel T E g ⟨(u, .own e' r') :: st.tmps, st.boxes⟩ a w' := by
  have hot : g.ot u = a.tmps.getD u undef := by
    have := H.tm u
    rw [hu] at this
    exact this.2
  have hheld : hb g st (.tmp u) = some b := by simp only [hb, hu, isOwn, if_true, hot, hbu]
  have hget : ∀ t, St.get ⟨(u, .own e' r') :: st.tmps, st.boxes⟩ t = if t = u then .own e' r' else st.get t := fun t => getA_cons t u _ _
  have hbox : ∀ i, St.box ⟨(u, .own e' r') :: st.tmps, st.boxes⟩ i = st.box i := fun _ => rfl
  have hca : ∀ i j, cellAt ⟨(u, .own e' r') :: st.tmps, st.boxes⟩ i j = cellAt st i j := fun _ _ => rfl
  have hgo : ∀ t, isOwn (St.get ⟨(u, .own e' r') :: st.tmps, st.boxes⟩ t) = isOwn (st.get t) := fun t => by
    rw [hget]
    split
    · rename_i h; rw [h, hu]; rfl
    · rfl
  have hhb : ∀ h, hb g ⟨(u, .own e' r') :: st.tmps, st.boxes⟩ h = hb g st h := fun h => by
    cases h <;> simp only [hb, hgo, hbox, hca]
  have hR : ∀ b i v, rdr w g.pub b i v → rdr w' g.pub b i v := rdr_mono fun b' hb' => ⟨hb', ho.other b' fun e1 => (H.hp _ _ hheld).1 (e1 ▸ hb')⟩
  have hownB : ∀ e r v h, OwnRel T (rdr w g.pub) w e r v → (∀ b, ownB v = some b → hb g st h = some b) → h ≠ .tmp u → OwnRel T (rdr w' g.pub) w' e r v := fun e r v h k1 k2 k3 =>
    k1.mono hR fun b1 hb1 => ho.other b1 fun e1 => k3 (H.ex _ _ _ (k2 b1 hb1) (by rw [e1]; exact hheld))
  refine ⟨fun t => ?_, fun id cs hid => ?_, fun h h' b h1 h2 => H.ex h h' b (by rw [← hhb]; exact h1) (by rw [← hhb]; exact h2), fun h b1 h1 => ?_, fun b1 h1 => ?_, H.p0, fun b1 h1 h2 => ?_, ?_, by rw [ho.size]; exact H.sz, fun t v h1 => ?_, fun t id h1 => ?_, H.prb, H.xt, H.df, H.ns⟩
  · rw [hget]
    by_cases ht : t = u
    · subst ht
      rw [if_pos rfl]
      exact ⟨hown.mono hR fun _ _ => rfl, hot⟩
    · rw [if_neg ht]
      have htm := H.tm t
      by_cases hx : isOwn (st.get t) = true
      · obtain ⟨e1, r1, he⟩ := isOwn_eq hx
        rw [he] at htm ⊢
        refine ⟨hownB _ _ _ (.tmp t) htm.1 (fun b1 hb1 => ?_) (by simp [ht]), htm.2⟩
        simp only [hb, hx, if_true, htm.2]
        exact hb1
      · have hx' : isOwn (st.get t) = false := by simpa using hx
        exact TRel_of_VRel hx' ((VRel_of_TRel hx' htm).mono hR (fun _ _ => rfl) fun _ _ => rfl)
  · obtain ⟨cur, ty, fr, h1, h2, h3, h4⟩ := H.bx id cs hid
    refine ⟨cur, ty, fr, ?_, h2, h3, fun j hj => ?_⟩
    · rw [ho.other]
      · exact h1
      · intro e1
        have := H.ex (.box id) (.tmp u) b (by simp [hb, (show st.box id = some cs from hid), e1]) hheld
        cases this
    · have hc := h4 j hj
      by_cases hx : isOwn (cs.getD j .undef) = true
      · obtain ⟨e1, r1, he⟩ := isOwn_eq hx
        rw [he] at hc ⊢
        refine ⟨hownB _ _ _ (.cell id j) hc.1 (fun b1 hb1 => ?_) (by simp), hc.2⟩
        simp only [hb, cellAt, (show st.box id = some cs from hid), Option.getD_some, hx, if_true, hc.2]
        exact hb1
      · have hx' : isOwn (cs.getD j .undef) = false := by simpa using hx
        exact CRel_of_LRel ((LRel_of_CRel hx' hc).mono hR fun _ _ => rfl)
  · rw [hhb] at h1
    obtain ⟨h2, h3, h4⟩ := H.hp h b1 h1
    exact ⟨h2, by rw [ho.size]; exact h3, h4⟩
  · obtain ⟨h2, h3⟩ := H.pb b1 h1
    exact ⟨by rw [ho.size]; exact h2, h3⟩
  · rw [ho.other b1 fun e1 => ?_]
    · exact H.keep b1 h1 h2
    · subst e1
      rcases (H.hp _ _ hheld).2.2 with h3 | h3
      · omega
      · exact h2 h3
  · exact ⟨ho.rest.1.trans H.wo.1, ho.rest.2.1.trans H.wo.2.1, ho.rest.2.2.trans H.wo.2.2⟩
  · rw [hgo]
    rw [hget] at h1
    split at h1
    · cases h1
    · exact H.al t v h1
  · rw [hget] at h1
    split at h1
    · cases h1
    · exact H.pr t id h1

theorem WT_of_head {kd : TK} {x : Dat} (h : headOk kd x = true) : WT kd x := by
  cases kd <;> cases x <;> simp only [headOk, WT] at h ⊢ <;> first | (cases h; done) | exact of_decide_eq_true h | exact Nat.eq_of_beq_eq_true h

theorem headsOk_at {T : Tys} : ∀ (ts : List TypeId) (xs : List Dat), headsOk T ts xs = true → ts.length = xs.length ∧ ∀ j, j < xs.length → WT (T (ts.getD j 0)).kind (xs.getD j .nilP)
  | [], [], _ => ⟨rfl, fun j hj => by simp at hj⟩
  | t :: ts, x :: xs, h => by
    simp only [headsOk, Bool.and_eq_true] at h
    obtain ⟨h1, h2⟩ := headsOk_at ts xs h.2
    refine ⟨by simp [h1], fun j hj => ?_⟩
    cases j with
    | zero => exact WT_of_head h.1
    | succ j => simpa using h2 j (by simpa using hj)
  | [], x :: xs, h => by cases h
  | t :: ts, [], h => by cases h

theorem toD1_rel {T : Tys} {R' : Rdr} {bl : Nat → Nat} {x : AV} {v : Value} {c : Dat} (h : LRel T R' bl x v) (hc : toD1 x = some c) : DRep T R' c v := by
  cases x <;> simp only [toD1] at hc <;> try (cases hc; done)
  case d y => cases hc; exact h
  case nils e =>
    cases hc
    have h' : v = .slice none 0 0 := h
    subst h'
    exact .lst e [] none 0 (fun _ _ => undef) (Nat.le_refl _) (fun h => absurd h (by simp)) (fun h => absurd h (by simp)) (fun i h => absurd h (by simp)) (fun i j h => absurd h (by simp)) (fun i j h => absurd h (by simp))
  case full e r =>
    cases hc
    obtain ⟨A, rfl, h2⟩ := h
    exact h2
  case dptr e off row =>
    cases ho : Nat.beq off 0 with
    | false => rw [ho] at hc; cases hc
    | true =>
      rw [ho] at hc
      cases hc
      have ho := Nat.eq_of_beq_eq_true ho
      subst ho
      obtain ⟨b, o, vs, rfl, h2, h3, h4⟩ := h
      exact .ref e row b o vs h2 h3.1 h4 (fun j hj => (h3.2 j hj).1) fun j hj => (h3.2 j hj).2

theorem toDs_len : ∀ (xs : List AV) (cs : List Dat), toDs xs = some cs → cs.length = xs.length ∧ ∀ j, j < xs.length → toD1 (xs.getD j .undef) = some (cs.getD j .nilP)
  | [], cs, h => by
    have : cs = [] := by
      have h' : some [] = some cs := h
      simpa using h'.symm
    subst this
    exact ⟨rfl, fun j hj => by simp at hj⟩
  | x :: xs, cs, h => by
    have h' : (match toD1 x, toDs xs with | some a, some b => some (a :: b) | _, _ => none) = some cs := h
    split at h'
    · rename_i c cs' h1 h2
      cases h'
      obtain ⟨h3, h4⟩ := toDs_len xs cs' h2
      refine ⟨by simp [h3], fun j hj => ?_⟩
      cases j with
      | zero => simpa using h1
      | succ j => simpa using h4 j (by simpa using hj)
    · cases h'

end Go.Ab
end

section
/-! Stores; values as data. -/
set_option autoImplicit false
set_option linter.unusedVariables false
set_option linter.unusedSimpArgs false
namespace Go.Ab
variable {P : Program} {C : Cfg} {E : Ent} {g : Gh} {st : St} {a : Act} {w : World} {o : Oper} {R : Type} {fail : R} {kp : Dat → R} {k : Eff → R} {res : R}

theorem toDs_rel {T : Tys} {R' : Rdr} {bl : Nat → Nat} {xs : List AV} {vs : Array Value} {c : List Dat} (h : CsRel T R' bl xs vs) (hc : toDs xs = some c) : c.length = vs.size ∧ ∀ j, j < c.length → DRep T R' (c.getD j .nilP) (vs.getD j undef) := by
  obtain ⟨h1, h2⟩ := toDs_len xs c hc
  exact ⟨by rw [h1]; exact h.1, fun j hj => toD1_rel (h.2 j (by omega)) (h2 j (by omega))⟩

theorem toD1_leaf {x : AV} {c : Dat} (h : toD1 x = some c) : isLeaf x = true := by
  cases x <;> first | rfl | cases h

/-- A value that is data. -/
theorem toD_rel {T : Tys} {R' : Rdr} {bl : Nat → Nat} {ot : Nat → Value} {x : AV} {v : Value} {c : List Dat} (h : VRel T R' bl ot x v) (hc : toD T x = some c) :
    c.length = v.cells.size ∧ ∀ j, j < c.length → DRep T R' (c.getD j .nilP) (v.cells.getD j undef) := by
  have one : ∀ (y : Dat), DRep T R' y v → [y].length = v.cells.size ∧ ∀ j, j < [y].length → DRep T R' ([y].getD j .nilP) (v.cells.getD j undef) := fun y hy => by
    rw [Value.cells_one hy.one]
    refine ⟨rfl, fun j hj => ?_⟩
    have : j = 0 := by simpa using hj
    subst this
    exact hy
  unfold toD at hc
  split at hc
  · rename_i xs
    obtain ⟨vs, rfl, h2⟩ := h
    exact toDs_rel h2 hc
  · rename_i t x
    obtain ⟨u, rfl, h2⟩ := h
    by_cases hx : ∃ xs, x = .agg xs
    · obtain ⟨xs, rfl⟩ := hx
      obtain ⟨vs, rfl, h3⟩ := h2
      simp only at hc
      split at hc
      · rename_i c' hc'
        cases hok : (T t).kind.isAgg && headsOk T (T t).cells c' with
        | false => rw [hok] at hc; cases hc
        | true =>
          rw [hok] at hc
          cases hc
          simp only [Bool.and_eq_true] at hok
          obtain ⟨h4, h5⟩ := toDs_rel h3 hc'
          obtain ⟨h6, h7⟩ := headsOk_at _ _ hok.2
          exact one _ (.ifc t c' (.agg vs) (.inl ⟨hok.1, vs, rfl⟩) h4 h6.symm h5 h7)
      · cases hc
    · have hc1 : (match toD1 x with
          | some c => cond (!(T t).kind.isAgg && headsOk T (T t).cells [c]) (some [Dat.ifc t [c]]) none
          | none => none) = some c := by
        cases x <;> first | exact hc | exact absurd ⟨_, rfl⟩ hx
      have h3 : LRel T R' bl x u := by
        cases x <;> first | exact h2 | exact absurd ⟨_, rfl⟩ hx
      split at hc1
      · rename_i c' hc'
        cases hok : !(T t).kind.isAgg && headsOk T (T t).cells [c'] with
        | false => rw [hok] at hc1; cases hc1
        | true =>
          rw [hok] at hc1
          cases hc1
          simp only [Bool.and_eq_true, Bool.not_eq_true'] at hok
          have h4 := toD1_rel h3 hc'
          obtain ⟨h6, h7⟩ := headsOk_at _ _ hok.2
          refine one _ (.ifc t [c'] u (.inr ⟨hok.1, h4.one⟩) (by rw [Value.cells_one h4.one]; rfl) h6.symm (fun j hj => ?_) h7)
          have : j = 0 := by simpa using hj
          subst this
          rw [Value.cells_one h4.one]
          exact h4
      · cases hc1
  · rename_i x hx1 hx2
    split at hc
    · rename_i c' hc'
      cases hc
      exact one _ (toD1_rel (leaf_rel (toD1_leaf hc') h) hc')
    · cases hc

theorem toD_own {T : Tys} {x : AV} {c : List Dat} (h : toD T x = some c) : isOwn x = false := by
  cases x <;> first | rfl | cases h

theorem DRep.ones {T : Tys} {R' : Rdr} {c : List Dat} {vs : Array Value} (h : c.length = vs.size ∧ ∀ j, j < c.length → DRep T R' (c.getD j .nilP) (vs.getD j undef)) : ∀ u ∈ vs.toList, one1 u = true := by
  intro u hu
  obtain ⟨j, hj, rfl⟩ := List.mem_iff_getElem.1 hu
  have hv : j < vs.size := by simpa using hj
  have := (h.2 j (by rw [h.1]; exact hv)).one
  simp only [Array.getD_eq_getD_getElem?, Array.getElem?_eq_getElem hv, Option.getD_some] at this
  simpa using this

theorem getD_set' {α : Type} (l : List α) (i j : Nat) (x d : α) (hi : i < l.length) : (l.set i x).getD j d = if j = i then x else l.getD j d := by
  rw [getD_set]; simp [hi]

/-- A store of a row of one's own into a variable's cell. -/
theorem next_storeOwn (hT : ∀ t, C.ty t = tyOf P t) (H : Rel C.ty E g st a w) {t : TypeId} {ad x : Operand} (hop : o.op = .store t ad x) {id off u : Nat} {cs : List AV} (hx : operand st.get ad = .ptr id off) (hb : st.box id = some cs)
    (hu : ownerOf st.get x = some u) (hlt : off < cs.length) (hsz : (C.ty t).size = 1) (hk : (C.ty t).kind ≠ .other) :
    Next1 P C.ty E st a w o { v := .undef, tw := [(u, .undef)], bw := [(id, cs.set off (st.get u))] } := by
  obtain ⟨h1, _, _⟩ := operand_rel H ad (by rw [hx]; rfl)
  rw [hx] at h1
  have he : a.eval ad = .pointer (some ⟨g.bl id, off, none⟩) := h1
  obtain ⟨e, r, o1, o2, o3⟩ := owner_rel H hu
  obtain ⟨K1, K2, K3⟩ := H.loosen o1
  rw [← o2] at K2 K3
  have hb' : (st.put u .undef).box id = some cs := by rw [box_put]; exact hb
  obtain ⟨cur, ty, fr, q1, q2, q3, q4⟩ := K1.bx id cs hb'
  have hone := o3.one
  have hcell : (a.eval x).cells = #[a.eval x] := Value.cells_one hone
  obtain ⟨w', k1, k2, k3⟩ := run_store_at (P := P) hT hk (v := a.eval x) q1 q3 (off := off) (by rw [hcell, hsz]; rfl) (by omega) (by rw [hcell]; intro v hv; simp at hv; rw [hv]; exact hone)
  have hcur : ∀ j, (cur.toList.take off ++ (a.eval x).cells.toList ++ cur.toList.drop (off + (C.ty t).size)).toArray.getD j undef = if j = off then a.eval x else cur.getD j undef := fun j => by
    rw [getD_toArray_splice cur _ off _ (by rw [hcell, hsz]; rfl) (by omega), hcell, hsz]
    by_cases hj : j = off
    · subst hj; simp
    · have : ¬ (off ≤ j ∧ j < off + 1) := by omega
      rw [if_neg this, if_neg hj]
  have N1 := K1.writeBox (cs' := cs.set off .undef) hb' (by simp) k2 (by rw [hcell, hsz]; simp; omega) (fun i hi => q3 i (by rw [hcell, hsz] at hi; simp at hi; omega)) k3.other k3.size k3.rest fun j hj => by
    rw [hcur, getD_set' _ _ _ _ _ hlt]
    by_cases hj : j = off
    · rw [if_pos hj, if_pos hj]
      exact .inl ⟨hone, fun id' hid => by cases hid⟩
    · rw [if_neg hj, if_neg hj]
      exact .inr ⟨rfl, q4 j (by simpa using (by assumption : j < (cs.set off AV.undef).length))⟩
  have hheld : Go.Ab.hb g (st.put u .undef) (.box id) = some (g.bl id) := by simp [Go.Ab.hb, hb']
  have hne : ∀ b, ownB (a.eval x) = some b → b ≠ g.bl id := fun b hb1 e1 => (K3 b hb1).no (.box id) (by rw [hheld, e1])
  have hR : ∀ b i v, rdr w g.pub b i v → rdr w' g.pub b i v := rdr_mono fun b hb1 => ⟨hb1, k3.other b fun e1 => (K1.hp _ _ hheld).1 (e1 ▸ hb1)⟩
  have hbu : ((st.put u .undef).setBox id (cs.set off .undef)).box id = some (cs.set off .undef) := by rw [box_setBox, if_pos rfl]
  have N2 := N1.cellOwn hbu (off := off) (by simpa using hlt) (by rw [getD_set' _ _ _ _ _ hlt, if_pos rfl]; rfl) (e := e) (r := r) (v := a.eval x) (by
      have h5 : off < (cur.toList.take off ++ (a.eval x).cells.toList ++ cur.toList.drop (off + (C.ty t).size)).toArray.size := by rw [hcell, hsz]; simp; omega
      have h6 := hcur off
      rw [if_pos rfl, Array.getD_eq_getD_getElem?, Array.getElem?_eq_getElem h5, Option.getD_some] at h6
      simp only [World.cell?, k2]
      rw [Array.getElem?_eq_getElem h5, h6]
      rfl)
    (K2.mono hR fun b hb1 => k3.other b (hne b hb1)) fun b hb1 => by
      have hf := K3 b hb1
      exact ⟨fun h hq => hf.no h (hb_recell g _ hb' hlt rfl h b hq).2, hf.np, by rw [k3.size]; exact hf.lt, hf.ok⟩
  rw [List.set_set] at N2
  refine .skip (w' := w') (by simp [execOp, hop, he, k1]) fun hd => ⟨_, Rel.putUndef (N2.congr (st' := ((st.put u .undef).setBox id (cs.set off (st.get u)))) (fun _ => rfl) fun i => ?_) hd⟩
  rw [o1]
  exact (setBox_setBox_box (st.put u .undef) id _ _ i).symm

theorem ev_store (hT : ∀ t, C.ty t = tyOf P t) (H : Rel C.ty E g st a w) {t : TypeId} {ad x : Operand} (hop : o.op = .store t ad x) (h : evOp C fail kp st.get st.box o k = res) (hne : res ≠ fail) : Ends P C E st a w o kp k res := by
  unfold evOp at h
  simp only [hop] at h
  split at h
  · rename_i id off hx
    split at h
    · rename_i cs hb
      split at h
      · rename_i u hu
        obtain ⟨hc, h⟩ := cond_ends h hne
        simp only [Bool.and_eq_true] at hc
        exact .of h (next_storeOwn hT H hop hx hb hu (blt_lt hc.1.1) (Nat.eq_of_beq_eq_true hc.1.2) (kind_known hc.2))
      · rename_i hu
        obtain ⟨hc, h⟩ := cond_ends h hne
        simp only [Bool.and_eq_true] at hc
        exact .of h (next_store hT H hop hx hb (owner_none hu) (ble_le hc.1.1.1) (Nat.eq_of_beq_eq_true hc.1.1.2) hc.1.2 (kind_known hc.2))
    · exact absurd h.symm hne
  · rename_i u e i off hx
    split at h
    · rename_i e' r hu
      split at h
      · rename_i c hc'
        obtain ⟨hc, hk⟩ := cond_ends h hne
        simp only [Bool.and_eq_true, decide_eq_true_eq] at hc
        obtain ⟨⟨⟨⟨⟨⟨q1, q2⟩, q3⟩, q4⟩, q5⟩, q6⟩, q7⟩ := hc
        have q7 := ble_le q7
        have q1 := Nat.eq_of_beq_eq_true q1
        subst q1
        have q3 := Nat.eq_of_beq_eq_true q3
        have q5 := blt_lt q5
        obtain ⟨h1, _, _⟩ := operand_rel H ad (by rw [hx]; rfl)
        rw [hx] at h1
        obtain ⟨b, n, cap, h4, h5⟩ := h1
        have htm := H.tm u
        rw [hu] at htm
        obtain ⟨htm, hot⟩ := htm
        have hno : isOwn (operand st.get x) = false := by
          have := toD_own hc'
          rwa [retype_own] at this
        obtain ⟨v1, v2, v3⟩ := operand_rel H x hno
        obtain ⟨d1, d2⟩ := toD_rel (retype_rel (kd := (C.ty t).kind) v1) hc'
        obtain ⟨w1, w2⟩ := headsOk_at _ _ q4
        rcases htm with ⟨rfl, _⟩ | ⟨k0, b', cap', cur, ty1, fr, vs, k1, k2, k3, k4, k5, k6, k7, k8⟩ | ⟨_, _, b', o', _, hob⟩
        · exact absurd q5 (by simp)
        rotate_left
        · exfalso
          rw [hot] at h4
          rcases hob with ⟨_, hv, _⟩ | ⟨_, _, _, _, _, _, _, hv, _⟩ <;> rw [hv] at h4 <;> cases h4
        · rw [hot, k1] at h4
          have hbb : b' = b := by simpa using (Value.slice.inj h4).1
          subst hbb
          obtain ⟨k9, k10⟩ := k8 i q5
          have hcl : c.length = (C.ty t).size := by rw [q3, w1]
          have hrl : (r.getD i []).length = (C.ty e).size := by rw [k9.1, k6]
          have hspan : i * (C.ty e).size + (C.ty e).size ≤ cur.size := by
            rw [k7, ← Nat.succ_mul]
            exact Nat.mul_le_mul_right _ (by omega)
          obtain ⟨w', z1, z2, z3⟩ := run_store_at (P := P) hT (kind_known q6) (v := a.eval x) k2 k3 (off := i * (C.ty e).size + off) (by rw [← d1, hcl]) (by omega) (DRep.ones ⟨d1, d2⟩)
          have hown : OwnRel C.ty (rdr w g.pub) w' e (r.set i ((r.getD i []).take off ++ c ++ (r.getD i []).drop (off + c.length))) (a.tmps.getD u undef) := by
            refine .inr (.inl ⟨k0, b', cap', _, ty1, fr, fun i' j => if i' = i ∧ off ≤ j ∧ j < off + (C.ty t).size then (a.eval x).cells.getD (j - off) undef else vs i' j, by rw [k1]; simp, z2, ?_, by simpa using k4, k5, k6, ?_, fun i' hi' => ⟨?_, fun j hj => ?_⟩⟩)
            · intro p hp
              refine k3 p ?_
              have hl : (a.eval x).cells.toList.length = (C.ty t).size := by rw [Array.length_toList, ← d1, hcl]
              simp only [List.size_toArray, List.length_append, List.length_take, List.length_drop, hl, Array.length_toList] at hp
              omega
            · have hl : (a.eval x).cells.toList.length = (C.ty t).size := by rw [Array.length_toList, ← d1, hcl]
              simp only [List.size_toArray, List.length_append, List.length_take, List.length_drop, hl, Array.length_toList]
              omega
            · have hi2 : i' < r.length := by simpa using hi'
              rw [getD_set' _ _ _ _ _ q5]
              by_cases hii : i' = i
              · subst hii
                rw [if_pos rfl]
                refine ⟨by simp only [List.length_append, List.length_take, List.length_drop, hrl]; omega, fun j hj => ?_⟩
                have hj2 : j < (C.ty e).size := by simp only [List.length_append, List.length_take, List.length_drop, hrl] at hj; omega
                dsimp only
                rw [getD_splice (r.getD i' []) c (r.getD i' []) off c.length rfl (by omega)]
                by_cases hjj : off ≤ j ∧ j < off + c.length
                · rw [if_pos hjj, if_pos ⟨rfl, hjj.1, by omega⟩]
                  refine ⟨d2 (j - off) (by omega), ?_⟩
                  have h2 : (C.ty e).cells.getD j 0 = (C.ty t).cells.getD (j - off) 0 := by
                    conv => rhs; rw [← q2]
                    simp only [List.getD_eq_getElem?_getD, List.getElem?_take, List.getElem?_drop]
                    rw [if_pos (by omega)]
                    congr 2
                    omega
                  rw [h2]
                  exact w2 (j - off) (by omega)
                · rw [if_neg hjj, if_neg (fun h => hjj ⟨h.2.1, by omega⟩)]
                  exact k9.2 j (by omega)
              · rw [if_neg hii]
                obtain ⟨m1, m2⟩ := (k8 i' hi2).1
                refine ⟨m1, fun j hj => ?_⟩
                dsimp only
                rw [if_neg (fun h => hii h.1)]
                exact m2 j hj
            · have hi2 : i' < r.length := by simpa using hi'
              have hj2 := (k8 i' hi2).2 j hj
              have hlt : i' * (C.ty e).size + j < cur.size := by
                rcases Nat.lt_or_ge (i' * (C.ty e).size + j) cur.size with h | h
                · exact h
                · rw [Array.getElem?_eq_none h] at hj2; cases hj2
              have hsp := getD_toArray_splice cur (a.eval x).cells.toList (i * (C.ty e).size + off) (C.ty t).size (by rw [Array.length_toList, ← d1, hcl]) (by omega) (i' * (C.ty e).size + j)
              have hlen : (cur.toList.take (i * (C.ty e).size + off) ++ (a.eval x).cells.toList ++ cur.toList.drop (i * (C.ty e).size + off + (C.ty t).size)).toArray.size = cur.size := by
                have hl : (a.eval x).cells.toList.length = (C.ty t).size := by rw [Array.length_toList, ← d1, hcl]
                simp only [List.size_toArray, List.length_append, List.length_take, List.length_drop, hl, Array.length_toList]
                omega
              rw [Array.getElem?_eq_getElem (by rw [hlen]; exact hlt)]
              rw [Array.getD_eq_getD_getElem?, Array.getElem?_eq_getElem (by rw [hlen]; exact hlt), Option.getD_some] at hsp
              rw [hsp]
              dsimp only
              by_cases hii : i' = i
              · subst hii
                by_cases hjj : off ≤ j ∧ j < off + (C.ty t).size
                · rw [if_pos (by omega), if_pos ⟨rfl, hjj⟩]
                  congr 1
                  rw [Array.getD_eq_getD_getElem?, List.getD_eq_getElem?_getD, Array.getElem?_toList]
                  congr 2
                  omega
                · rw [if_neg (by omega), if_neg (fun h => hjj h.2)]
                  rw [Array.getD_eq_getD_getElem?, hj2]; rfl
              · have hout : ¬ (i * (C.ty e).size + off ≤ i' * (C.ty e).size + j ∧ i' * (C.ty e).size + j < i * (C.ty e).size + off + (C.ty t).size) := by
                  rcases Nat.lt_or_gt_of_ne hii with h | h
                  · have := Nat.mul_le_mul_right (C.ty e).size (Nat.succ_le_of_lt h)
                    rw [Nat.succ_mul] at this
                    omega
                  · have := Nat.mul_le_mul_right (C.ty e).size (Nat.succ_le_of_lt h)
                    rw [Nat.succ_mul] at this
                    omega
                rw [if_neg hout, if_neg (fun h => hii h.1), Array.getD_eq_getD_getElem?, hj2]; rfl
          have hbu : ownB (a.tmps.getD u undef) = some b' := by rw [k1]; simp [ownB]; omega
          refine .of hk (.skip (w' := w') (by simp [execOp, hop, h5, z1]) fun hd => ⟨g, ?_⟩)
          exact Rel.putUndef (H.writeRow hu hbu z3 hown) hd
      · exact absurd h.symm hne
    · exact absurd h.symm hne
  · exact absurd h.symm hne

end Go.Ab
end

section
/-! Interface values, functions' values, assignments, parts of structs, lengths. -/
set_option autoImplicit false
set_option linter.unusedVariables false
set_option linter.unusedSimpArgs false
namespace Go.Ab
variable {P : Program} {C : Cfg} {E : Ent} {g : Gh} {st : St} {a : Act} {w : World} {o : Oper} {R : Type} {fail : R} {kp : Dat → R} {k : Eff → R} {res : R}

theorem leafs_refs {x : AV} (h : (asCells x).all isLeaf = true) : (∀ t, x.refs t = false) ∧ isOwn x = false := by
  cases x <;> first | exact ⟨fun _ => rfl, rfl⟩ | (simp [asCells, isLeaf] at h)

theorem ifc_rel {T : Tys} {R' : Rdr} {bl : Nat → Nat} {ot : Nat → Value} {t : TypeId} {x : AV} {v : Value} (h : VRel T R' bl ot x v) (hl : (asCells x).all isLeaf = true) : VRel T R' bl ot (.ifc t x) (.iface t v) := by
  cases x <;> first | exact ⟨v, rfl, h⟩ | (simp [asCells, isLeaf] at hl)

theorem ifc_ids {t : TypeId} {x : AV} (hl : (asCells x).all isLeaf = true) : idsOf (.ifc t x) = idsOf x := by
  cases x <;> first | rfl | (simp [asCells, isLeaf] at hl)

theorem known_under {T : Tys} (hT : ∀ t, T t = tyOf P t) {t : TypeId} (hk : (T t).kind.known = true) (hi : (T t).kind.isIface = false) : ∃ d, P.underlying t = some d ∧ ∀ ms, d ≠ .interface ms := by
  obtain ⟨i, h1, h2, _⟩ := tk_some hT (kind_known hk)
  cases hd : P.underlying t with
  | none => rw [hd] at h2; exact absurd h2 (kind_known hk)
  | some d =>
    refine ⟨d, rfl, fun ms h => ?_⟩
    rw [hd, h] at h2
    rw [h2] at hi
    cases hi

theorem ev_makeInterface (hT : ∀ t, C.ty t = tyOf P t) (H : Rel C.ty E g st a w) {t : TypeId} {x : Operand} (hop : o.op = .makeInterface t x) (h : evOp C fail kp st.get st.box o k = res) (hne : res ≠ fail) : Ends P C E st a w o kp k res := by
  unfold evOp at h
  simp only [hop] at h
  obtain ⟨hc, h⟩ := cond_ends h hne
  simp only [Bool.and_eq_true, Bool.not_eq_true'] at hc
  obtain ⟨⟨h1, h2⟩, h3⟩ := hc
  obtain ⟨d, hd, hni⟩ := known_under hT h2 h3
  obtain ⟨r1, r2⟩ := leafs_refs h1
  have hr : ∀ u, (view st.get x).refs u = false := fun u => by rw [← retype_refs]; exact r1 u
  have hrun : (execOp a.eval o).run P w = .ok (.value (.iface t (a.eval x))) w := by
    have : (Instr.makeInterface t (a.eval x)).run P w = .ok (.iface t (a.eval x)) w := by
      unfold Instr.makeInterface
      rw [Sem.run_bind, run_underlying hd, Result.andThen_ok]
      cases d <;> first | rfl | exact absurd rfl (hni _)
    simp [execOp, hop, this]
  exact .of h (.pub H ⟨rfl, rfl⟩ (pubs_ok st x) hrun (fun g' q1 q2 q3 => ifc_rel (retype_rel (view_rel H q1 q2 q3 x (fun p hp => hp) hr).1) h1) rfl (fun id hid => view_ids H hr id (by rw [ifc_ids h1, retype_ids] at hid; exact hid)) fun u => rfl)

theorem all_get {α : Type} {p : α → Bool} {l : List α} (h : l.all p = true) {x : α} (hx : x ∈ l) : p x = true := List.all_eq_true.1 h x hx

/-- What operands are worth, shared: cells. -/
theorem views_rel (H : Rel C.ty E g st a w) {g' : Gh} {L : List (Nat × AV)} (hpub : ∀ b, g.pub b → g'.pub b) (hbl : g'.bl = g.bl)
    (hL : ∀ p, p ∈ L → ∃ e r, p.2 = .d (.lst e r) ∧ DRep C.ty (rdr w g'.pub) (.lst e r) (a.tmps.getD p.1 undef)) (xs : List Operand) (hx : ∀ p, p ∈ pubss st.get xs → p ∈ L) (hl : (views st.get xs).all isLeaf = true) :
    CsRel C.ty (rdr w g'.pub) g'.bl (views st.get xs) (xs.map a.eval).toArray := by
  refine ⟨by simp [views], fun j hj => ?_⟩
  have hj' : j < xs.length := by simpa [views] using hj
  have h1 : (views st.get xs).getD j .undef = view st.get xs[j] := by simp [views, List.getD_eq_getElem?_getD, hj']
  have h2 : (xs.map a.eval).toArray.getD j undef = a.eval xs[j] := by simp [Array.getD_eq_getD_getElem?, hj']
  rw [h1, h2]
  have h3 : isLeaf (view st.get xs[j]) = true := all_get hl (List.mem_map_of_mem (List.getElem_mem hj'))
  exact leaf_rel h3 (view_rel H hpub hbl hL xs[j] (fun p hp => hx p (List.mem_flatMap.2 ⟨xs[j], List.getElem_mem hj', hp⟩)) (leaf_cells h3).2.2.2).1

theorem views_ids (H : Rel C.ty E g st a w) (xs : List Operand) (hl : (views st.get xs).all isLeaf = true) : ∀ id, id ∈ (views st.get xs).flatMap idL → (st.box id).isSome = true := by
  intro id hid
  obtain ⟨c, hc, hid⟩ := List.mem_flatMap.1 hid
  have h3 := all_get hl hc
  obtain ⟨x, _, rfl⟩ := List.mem_map.1 hc
  exact view_ids H (leaf_cells h3).2.2.2 id (by rw [(leaf_cells h3).2.1]; exact hid)

theorem ev_makeFunc (H : Rel C.ty E g st a w) {f : FuncId} {first caps : Array Operand} (hop : o.op = .makeFunc (.func f) first caps) (h : evOp C fail kp st.get st.box o k = res) (hne : res ≠ fail) : Ends P C E st a w o kp k res := by
  unfold evOp at h
  simp only [hop] at h
  obtain ⟨hc, h⟩ := cond_ends h hne
  simp only [Bool.and_eq_true] at hc
  have hfe : first = #[] := by simpa using hc.1
  have hrun : (execOp a.eval o).run P w = .ok (.value (.func (.func f) #[] (caps.toList.map a.eval).toArray)) w := by
    have : (caps.toList.map a.eval).toArray = caps.map a.eval := by apply Array.ext'; simp
    rw [this]
    simp [execOp, hop, Instr.makeFunc, hfe]
  refine .of h (.pub H ⟨rfl, rfl⟩ (pubss_ok st _) hrun (fun g' q1 q2 q3 => ?_) ?_ ?_ ?_)
  · have hv := views_rel H q1 q2 q3 caps.toList (fun p hp => hp) hc.2
    show VRel _ _ _ _ (mkFn f (views st.get caps.toList)) _
    unfold mkFn
    split
    · rename_i c hc'
      obtain ⟨h1, h2⟩ := toDs_rel hv hc'
      exact DRep.fn f c _ h1 h2
    · exact ⟨_, rfl, hv⟩
  · show isOwn (mkFn f (views st.get caps.toList)) = false
    unfold mkFn; split <;> rfl
  · intro id hid
    have hid : id ∈ idsOf (mkFn f (views st.get caps.toList)) := hid
    unfold mkFn at hid
    split at hid
    · cases hid
    · exact views_ids H caps.toList hc.2 id hid
  · intro u
    show (mkFn f (views st.get caps.toList)).refs u = false
    unfold mkFn; split <;> rfl

/-- A row of one's own changes its temporary. -/
theorem next_take (H : Rel C.ty E g st a w) {x : Operand} {t : Nat} (ht : ownerOf st.get x = some t) (hrun : (execOp a.eval o).run P w = .ok (.value (a.eval x)) w) : Next1 P C.ty E st a w o { v := st.get t, tw := [(t, .undef)] } :=
  .value hrun fun hd => by
    obtain ⟨e, r, o1, o2, o3⟩ := owner_rel H ht
    obtain ⟨K1, K2, K3⟩ := H.loosen o1
    rw [← o2] at K2 K3
    cases hdd : o.dst with
    | none => exact ⟨g, K1⟩
    | some d =>
      rw [hdd] at hd
      have hs := put_same a d (a.eval x) (by rw [H.ns]; exact (dstOk_some hd).1)
      refine ⟨{ g with ot := fun t => if t = d then (a.put (some d) (a.eval x)).tmps.getD d undef else g.ot t }, ?_⟩
      have := K1.putOwn (e := e) (r := r) (.put a d (a.eval x)) (by rw [hs]; exact K2) fun b hb1 => by
        rw [hs] at hb1
        exact ⟨(K3 b hb1).no, (K3 b hb1).np, (K3 b hb1).lt, (K3 b hb1).ok⟩
      rw [← o1] at this
      exact this

theorem ev_assign (H : Rel C.ty E g st a w) {x : Operand} (hop : o.op = .assign x) (h : evOp C fail kp st.get st.box o k = res) (hne : res ≠ fail) : Ends P C E st a w o kp k res := by
  have hrun : (execOp a.eval o).run P w = .ok (.value (a.eval x)) w := by simp [execOp, hop]
  unfold evOp at h
  simp only [hop] at h
  split at h
  · rename_i t ht
    split at h
    · refine .of h (next_view H (fun u => ?_) hrun)
      obtain ⟨q, rfl, ⟨e, r, h1⟩, h2⟩ := ownerOf_some ht
      refine view_refs_of (fun t' e' i off h' => ?_) u
      simp only [operand] at h'
      rcases h2 with rfl | h2
      · rw [h1] at h'; cases h'
      · rw [h2] at h'; cases h'
    · exact .of h (next_take H ht hrun)
  · rename_i ht
    exact .of h (next_copy H rfl (owner_none ht) hrun)

theorem run_len_str {w : World} {t ty : TypeId} (ht : P.underlying t = some .string) (s : ByteArray) (as : Array TypeId) (ha : as[0]? = some t) : (Builtin.len_ as ty #[.string s]).run P w = .ok (.int .i64 s.size) w := by
  simp [Builtin.len_, ha, run_underlying ht, goInt]
theorem run_len_slice {w : World} {t ty e : TypeId} (ht : P.underlying t = some (.slice e)) (A : Option Addr) (n c : Nat) (as : Array TypeId) (ha : as[0]? = some t) : (Builtin.len_ as ty #[.slice A n c]).run P w = .ok (.int .i64 n) w := by
  simp [Builtin.len_, ha, run_underlying ht, goInt]

theorem rowsOf_rel (H : Rel C.ty E g st a w) {x : Operand} {e : TypeId} {r : List (List Dat)} (h : rowsOf st.get x = some (e, r)) :
    (∃ A cap, a.eval x = .slice A r.length cap) ∧ (DRep C.ty (rdr w g.pub) (.lst e r) (a.eval x) ∨ (OwnRel C.ty (rdr w g.pub) w e r (a.eval x) ∧ isTag e = false)) := by
  have own : ∀ {v}, OwnRel C.ty (rdr w g.pub) w e r v → isTag e = false → ∃ A cap, v = .slice A r.length cap := fun {v} h hn => by
    rcases h with ⟨rfl, _, A, rfl⟩ | ⟨_, b, cap, cur, ty, fr, vs, rfl, _⟩ | ⟨h0, _⟩
    · exact ⟨A, 0, rfl⟩
    · exact ⟨_, cap, rfl⟩
    · rw [hn] at h0; cases h0
  have tag : ∀ {e' : TypeId} {r' : List (List Dat)}, cond (isTag e') none (some (e', r')) = some (e, r) → isTag e' = false ∧ e' = e ∧ r' = r := fun {e' r'} h => by
    cases hn : isTag e' with
    | true => rw [hn] at h; cases h
    | false => rw [hn] at h; cases h; exact ⟨rfl, rfl, rfl⟩
  have dd : ∀ {v}, DRep C.ty (rdr w g.pub) (.lst e r) v → ∃ A cap, v = .slice A r.length cap := fun {v} h => by
    cases h with
    | lst e rows A cap vs => exact ⟨A, cap, rfl⟩
  unfold rowsOf at h
  split at h
  · rename_i e' r' hx
    obtain ⟨hn, rfl, rfl⟩ := tag h
    cases x
    case tmp t =>
      have htm := H.tm t
      simp only [operand] at hx
      rw [hx] at htm
      exact ⟨own htm.1 hn, .inr ⟨htm.1, hn⟩⟩
    case const v => have := (ofValue_leaf v).1; simp only [operand] at hx; rw [hx] at this; cases this
    all_goals cases hx
  · rename_i e' r' hx
    cases h
    obtain ⟨h1, _, _⟩ := operand_rel H x (by rw [hx]; rfl)
    rw [hx] at h1
    obtain ⟨A, h2, h3⟩ := h1
    exact ⟨⟨A, _, h2⟩, .inl h3⟩
  · rename_i e' r' hx
    cases h
    obtain ⟨h1, _, _⟩ := operand_rel H x (by rw [hx]; rfl)
    rw [hx] at h1
    exact ⟨dd h1, .inl h1⟩
  · rename_i e' hx
    cases h
    obtain ⟨h1, _, _⟩ := operand_rel H x (by rw [hx]; rfl)
    rw [hx] at h1
    have h2 : a.eval x = .slice none 0 0 := h1
    exact ⟨⟨none, 0, h2⟩, .inl (toD1_rel (T := C.ty) (R' := rdr w g.pub) (bl := g.bl) (x := .nils e) h2 rfl)⟩
  · rename_i t hx
    split at h
    · rename_i e' r' ht
      obtain ⟨hn, rfl, rfl⟩ := tag h
      cases x
      case tmp u =>
        have htm := H.tm u
        simp only [operand] at hx
        rw [hx] at htm
        have htm' : a.eval (.tmp u) = g.ot t := htm
        have ht' := H.tm t
        rw [ht] at ht'
        rw [htm', ht'.2]
        exact ⟨own ht'.1 hn, .inr ⟨ht'.1, hn⟩⟩
      case const v => have := (ofValue_leaf v).2.1 t; simp only [operand] at hx; rw [hx] at this; simp [AV.refs] at this
      all_goals cases hx
    · cases h
  · cases h

end Go.Ab
end

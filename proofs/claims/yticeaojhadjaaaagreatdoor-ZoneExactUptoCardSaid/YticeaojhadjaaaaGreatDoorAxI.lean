/- Part 9 of the proof that this seat's laws lean on: an abstract machine over the model's code, its soundness, and what it says of this program. -/
import Derived.Test.YticeaojhadjaaaaGreatDoorAxA
import Derived.Test.YticeaojhadjaaaaGreatDoorAxH
import Derived.Tactics

section
/-! Regions in the order of their text. -/
set_option autoImplicit false
set_option linter.unusedVariables false
set_option linter.unusedSimpArgs false
namespace Go.Ab
variable {P : Program} {C : Cfg} {E : Ent} {g : Gh} {st : St} {a : Act} {w : World} {o : Oper}

/-- What is asked of the table of types and of what calls give. -/
structure Ok (P : Program) (C : Cfg) (E : Ent) : Prop where
  hT : ∀ t, C.ty t = tyOf P t
  hM : ∀ t m, C.meth t m = methOf P t m
  hbind : C.bind = bindR
  hCD : ∀ f args xs r, C.CD f args xs = some r → Good P C.ty f args xs r
  hCI : ∀ m x args xs r, C.CI m x args xs = some r → ∃ t cells f, x = .ifc t cells ∧ C.meth t m = some f ∧ C.CD f (mkVal (C.ty t).kind (coerces C.ty (C.ty t).cells 0 cells) :: args) xs = some r
  hn : E.n = C.n

theorem tmp_get {j : Nat} {ops : Array Oper} {t : Nat} (h : (ops.toList[j]?).bind (·.dst) = some t) (ht : t < a.tmps.size) : yielded ops a.tmps j = match a.tmps.getD t undef with | .bool b => some b | _ => none := by
  have h' : (ops[j]?).bind (·.dst) = some t := by rw [← h]; simp
  simp only [yielded, h', Option.bind_some]
  rw [Array.getElem?_eq_getElem ht, Array.getD_eq_getD_getElem?, Array.getElem?_eq_getElem ht]
  simp only [Option.getD_some]
  cases a.tmps[t] <;> rfl

theorem run_sound (K : Ok P C E) {r : Res} {k : St → Out} {ops : Array Oper} {rest : List Oper} {Q : Exit → Act → World → Prop} (H : Rel C.ty E g st a w)
    (h : (evOp C none (fun v => some (.panic v)) st.get st.box o fun f => cond (dstOk C.n o.dst f.v) (f.appK o.dst st k) none) = some r)
    (hnext : ∀ g' st' a' w', Rel C.ty E g' st' a' w' → k st' = some r → wpList P ops Q rest a' w')
    (hp : ∀ d pub' a' w' vv, r = .panic d → a'.defers = [] → Fr E pub' w' → DRep C.ty (rdr w' pub') d vv → Q (.panic [{ v := vv, recovered := false }]) a' w') : o.wp P a w (wpList P ops Q rest) Q := by
  rcases ev_any (P := P) K.hT K.hM K.hbind K.hCD K.hCI H h (by simp) with ⟨f, hf, hn⟩ | ⟨v, hv, hpan⟩
  · obtain ⟨hc, hf⟩ := cond_ends hf (by simp)
    rw [appK_eq] at hf
    exact hn _ _ (by rw [K.hn]; exact hc) fun g' a' w' h' => hnext g' _ a' w' h' hf
  · refine hpan _ _ fun pub' a' w' vv h0 h1 h2 => hp v pub' a' w' vv ?_ h0 h1 h2
    simpa using hv.symm

theorem skip_sound (K : Ok P C E) {r : Res} {k : St → Out} {ops : Array Oper} {rest : List Oper} {Q : Exit → Act → World → Prop} (H : Rel C.ty E g st a w)
    (h : cond (dstOk C.n o.dst (.tup [])) ((Eff.mk (.tup []) [] [] []).appK o.dst st k) none = some r)
    (hnext : ∀ g' st' a' w', Rel C.ty E g' st' a' w' → k st' = some r → wpList P ops Q rest a' w') : wpList P ops Q rest (a.put o.dst undef) w := by
  obtain ⟨hd, h⟩ := cond_ends h (by simp)
  rw [appK_eq] at h
  refine hnext g _ _ w ?_ h
  exact H.putDst (v := .tup []) (by rw [K.hn]; exact hd) ⟨#[], rfl, rfl, fun j hj => by simp at hj, fun x hx => by cases hx⟩ rfl (fun id hid => by cases hid) fun u hu => by cases hu

theorem evOper_sound (K : Ok P C E) {r : Res} {k : St → Out} {ops : Array Oper} {rest : List Oper} {Q : Exit → Act → World → Prop} (H : Rel C.ty E g st a w) (h : evOper C ops.toList o st k = some r)
    (hnext : ∀ g' st' a' w', Rel C.ty E g' st' a' w' → k st' = some r → wpList P ops Q rest a' w')
    (hp : ∀ d pub' a' w' vv, r = .panic d → a'.defers = [] → Fr E pub' w' → DRep C.ty (rdr w' pub') d vv → Q (.panic [{ v := vv, recovered := false }]) a' w') : wpList P ops Q (o :: rest) a w := by
  unfold evOper at h
  simp only at h
  unfold wpList
  split at h
  · rename_i hg
    have hw : Region.wanted o (yielded ops a.tmps) = true := by simp [Region.wanted, hg]
    rw [if_pos hw]
    exact .inl (run_sound K H h hnext hp)
  · rename_i j want hg
    split at h
    · cases h
    · rename_i t ht
      have hw0 : Region.wanted o (yielded ops a.tmps) = (yielded ops a.tmps j == some want) := by simp [Region.wanted, hg]
      split at h
      · rename_i b hb
        have htm := H.tm t
        rw [hb] at htm
        have htm' : DRep C.ty (rdr w g.pub) (.bool b) (a.tmps.getD t undef) := htm
        have hv : a.tmps.getD t undef = .bool b := by
          generalize a.tmps.getD t undef = v at htm'
          cases htm'; rfl
        have hlt : t < a.tmps.size := by
          rcases Nat.lt_or_ge t a.tmps.size with h1 | h1
          · exact h1
          · rw [Array.getD_eq_getD_getElem?, Array.getElem?_eq_none h1] at hv; cases hv
        have hy : yielded ops a.tmps j = some b := by rw [tmp_get ht hlt, hv]
        have Hb : Rel C.ty E g (st.put t (.d (.bool b))) a w := H.put (.refl a t) (by rw [hv]; exact DRep.bool b) rfl (fun id h => by cases h) (fun u h => by cases h)
        have hfin : (if want = b then (evOp C none (fun v => some (.panic v)) (st.put t (.d (.bool b))).get (st.put t (.d (.bool b))).box o fun f => cond (dstOk C.n o.dst f.v) (f.appK o.dst (st.put t (.d (.bool b))) k) none)
            else cond (dstOk C.n o.dst (.tup [])) ((Eff.mk (.tup []) [] [] []).appK o.dst (st.put t (.d (.bool b))) k) none) = some r := by
          cases b <;> cases want <;> simp only [cond_true, cond_false, putK_eq] at h <;> simpa using h
        by_cases hwb : want = b
        · rw [if_pos hwb] at hfin
          rw [if_pos (by rw [hw0, hy, hwb]; simp)]
          exact .inl (run_sound K Hb hfin hnext hp)
        · rw [if_neg hwb] at hfin
          rw [if_neg (by rw [hw0, hy]; simpa using fun e => hwb e.symm)]
          exact skip_sound K Hb hfin hnext
      · rename_i hb
        have htm := H.tm t
        rw [hb] at htm
        obtain ⟨vs, hv, _⟩ := htm
        have hy : yielded ops a.tmps j = none := by
          rcases Nat.lt_or_ge t a.tmps.size with h1 | h1
          · rw [tmp_get ht h1, hv]
          · have h' : (ops[j]?).bind (·.dst) = some t := by rw [← ht]; simp
            simp only [yielded, h', Option.bind_some, Array.getElem?_eq_none h1]
        rw [if_neg (by rw [hw0, hy]; simp)]
        exact skip_sound K H h hnext
      · cases h

theorem evOps_sound (K : Ok P C E) {r : Res} {ops : Array Oper} {Q : Exit → Act → World → Prop} (hp : ∀ d pub' a' w' vv, r = .panic d → a'.defers = [] → Fr E pub' w' → DRep C.ty (rdr w' pub') d vv → Q (.panic [{ v := vv, recovered := false }]) a' w') :
    ∀ (l : List Oper) {g : Gh} {st : St} {a : Act} {w : World} {k : St → Out}, Rel C.ty E g st a w → evOps C ops.toList l st k = some r → (∀ g' st' a' w', Rel C.ty E g' st' a' w' → k st' = some r → Q .normal a' w') → wpList P ops Q l a w
  | [], g, st, a, w, k, H, h, hQ => hQ g st a w H h
  | o :: l, g, st, a, w, k, H, h, hQ =>
    evOper_sound K H h (fun g' st' a' w' H' h' => evOps_sound K hp l H' h' hQ) hp

end Go.Ab
end

section
/-! What is kept where ways meet. -/
set_option autoImplicit false
set_option linter.unusedVariables false
set_option linter.unusedSimpArgs false
namespace Go.Ab
variable {P : Program} {C : Cfg} {E : Ent} {g : Gh} {st : St} {a : Act} {w : World}

/-- Temporaries and variables are forgotten. -/
theorem Rel.restrict {T : Tys} (H : Rel T E g st a w) {st' : St} (hg : ∀ t, st'.get t = st.get t ∨ st'.get t = .undef) (hb0 : ∀ id, st'.box id = st.box id ∨ st'.box id = none)
    (hal : ∀ t u, (st'.get t).refs u = true → isOwn (st'.get u) = true) (hpr : ∀ t id, id ∈ idsOf (st'.get t) → (st'.box id).isSome = true) (hprb : ∀ id off id', id' ∈ idL (cellAt st' id off) → (st'.box id').isSome = true)
    (hxt : ∀ i, i < E.nx → (st'.box i).isSome = true) : Rel T E g st' a w := by
  have hca : ∀ id off, cellAt st' id off = cellAt st id off ∨ cellAt st' id off = .undef := fun id off => by
    rcases hb0 id with h | h
    · left; unfold cellAt; rw [h]
    · right; unfold cellAt; rw [h]; rfl
  have hhb : ∀ h b, hb g st' h = some b → hb g st h = some b := fun h b h1 => by
    cases h <;> simp only [hb] at h1 ⊢
    case tmp t => rcases hg t with e | e <;> rw [e] at h1 <;> first | exact h1 | (simp [isOwn] at h1)
    case cell id off => rcases hca id off with e | e <;> rw [e] at h1 <;> first | exact h1 | (simp [isOwn] at h1)
    case box id => rcases hb0 id with e | e <;> rw [e] at h1 <;> first | exact h1 | (simp at h1)
  refine ⟨fun t => ?_, fun id cs h => ?_, fun h h' b h1 h2 => H.ex h h' b (hhb h b h1) (hhb h' b h2), fun h b h1 => H.hp h b (hhb h b h1), H.pb, H.p0, H.keep, H.wo, H.sz, hal, hpr, hprb, fun i hi => ⟨hxt i hi, (H.xt i hi).2⟩, H.df, H.ns⟩
  · rcases hg t with e | e <;> rw [e]
    · exact H.tm t
    · exact TRel_undef
  · rcases hb0 id with e | e
    · rw [e] at h; exact H.bx id cs h
    · rw [e] at h; cases h

theorem tag_some {b : Bool} {x v : AV} (h : cond b none (some x) = some v) : b = false ∧ x = v := by
  cases b
  · cases h; exact ⟨rfl, rfl⟩
  · cases h

theorem Rel.reformT {T : Tys} (H : Rel T E g st a w) {t f : Nat} {v : AV} (h : reform f (st.get t) = some v) : ∃ g', Rel T E g' (st.put t v) a w := by
  have htm := H.tm t
  unfold reform at h
  split at h
  · rename_i e he
    obtain ⟨hn, rfl⟩ := tag_some h
    rw [he] at htm
    have hv : a.tmps.getD t undef = .slice none 0 0 := htm
    exact ⟨_, H.putOwn (e := e) (r := []) (.refl a t) (.inl ⟨rfl, hn, none, hv⟩) fun b hb1 => by rw [hv] at hb1; simp [ownB] at hb1⟩
  · rename_i e he
    cases h
    rw [he] at htm
    exact ⟨g, H.put (.refl a t) (toD1_rel (T := T) (R' := rdr w g.pub) (bl := g.bl) (x := .nils e) htm rfl) rfl (fun id h => by cases h) (fun u h => by cases h)⟩
  · rename_i e r he
    obtain ⟨hn, rfl⟩ := tag_some h
    obtain ⟨g', h1, _⟩ := H.pubT he hn
    exact ⟨g', h1⟩
  · rename_i e r he
    cases h
    rw [he] at htm
    exact ⟨g, H.put (.refl a t) (toD1_rel (T := T) (R' := rdr w g.pub) (bl := g.bl) (x := .full e r) htm rfl) rfl (fun id h => by cases h) (fun u h => by cases h)⟩
  · cases h

theorem Rel.reformC {T : Tys} (H : Rel T E g st a w) {id : Nat} {cs : List AV} (hb : st.box id = some cs) {off f : Nat} (ho : off < cs.length) {v : AV} (h : reform f (cs.getD off .undef) = some v) : ∃ g', Rel T E g' (st.setBox id (cs.set off v)) a w := by
  obtain ⟨x, hx, hcr⟩ := box_cell' H hb ho
  unfold reform at h
  split at h
  · rename_i e he
    obtain ⟨hn, rfl⟩ := tag_some h
    rw [he] at hcr
    have hv : x = .slice none 0 0 := hcr
    exact ⟨_, H.cellOwn hb ho (by rw [he]; rfl) hx (.inl ⟨rfl, hn, none, hv⟩) fun b hb1 => by rw [hv] at hb1; simp [ownB] at hb1⟩
  · rename_i e he
    cases h
    rw [he] at hcr
    exact ⟨g, H.recell hb ho (fun v' hv' => by
      rw [hx] at hv'
      cases hv'
      exact toD1_rel (T := T) (R' := rdr w g.pub) (bl := g.bl) (x := .nils e) hcr rfl) fun i hi => by cases hi⟩
  · rename_i e r he
    obtain ⟨hn, rfl⟩ := tag_some h
    obtain ⟨g', h1, _⟩ := H.pubC hb ho he hn hx
    exact ⟨g', h1⟩
  · rename_i e r he
    cases h
    rw [he] at hcr
    exact ⟨g, H.recell hb ho (fun v' hv' => by
      rw [hx] at hv'
      cases hv'
      exact toD1_rel (T := T) (R' := rdr w g.pub) (bl := g.bl) (x := .full e r) hcr rfl) fun i hi => by cases hi⟩
  · cases h

theorem reformTs_rel {T : Tys} : ∀ (l : List (Nat × Nat)) {g : Gh} {st : St}, Rel T E g st a w → ∃ g', Rel T E g' (reformTs l st) a w
  | [], g, st, H => ⟨g, H⟩
  | p :: l, g, st, H => by
    unfold reformTs
    split
    · rename_i v hv
      obtain ⟨g', H'⟩ := H.reformT hv
      exact reformTs_rel l H'
    · exact reformTs_rel l H

theorem reformCs_rel {T : Tys} (id : Nat) : ∀ (n off f : Nat) {g : Gh} {st : St}, Rel T E g st a w → ∃ g', Rel T E g' (reformCs id n off f st) a w
  | 0, off, f, g, st, H => ⟨g, H⟩
  | n + 1, off, f, g, st, H => by
    unfold reformCs
    split
    · rename_i cs hcs
      split
      · rename_i v hv
        cases hlt : Nat.blt off cs.length with
        | false => rw [hlt] at hv; cases hv
        | true =>
          rw [hlt, cond_true] at hv
          obtain ⟨g', H'⟩ := H.reformC hcs (by simpa using hlt) hv
          exact reformCs_rel id n _ _ H'
      · exact reformCs_rel id n _ _ H
    · exact ⟨g, H⟩

theorem reformBs_rel {T : Tys} : ∀ (l : List (Nat × Nat)) {g : Gh} {st : St}, Rel T E g st a w → ∃ g', Rel T E g' (reformBs l st) a w
  | [], g, st, H => ⟨g, H⟩
  | p :: l, g, st, H => by
    unfold reformBs
    obtain ⟨g', H'⟩ := reformCs_rel p.1 ((st.box p.1).getD []).length 0 p.2 H
    exact reformBs_rel l H'

theorem getA_keep (f : Nat → AV) (t : Nat) : ∀ l : List (Nat × Nat), getA t (l.map fun p => (p.1, f p.1)) = if (l.map (·.1)).any (Nat.beq t) = true then f t else .undef
  | [] => rfl
  | p :: l => by
    rw [List.map_cons, getA_cons, getA_keep f t l, List.map_cons, List.any_cons]
    by_cases h : t = p.1
    · rw [if_pos h, ← h, Nat.beq_refl]; simp
    · rw [if_neg h, nbeq_false h]; rfl

theorem getB_filter (q : Nat → Bool) (id : Nat) : ∀ l : List (Nat × List AV), getB id (l.filter fun p => q p.1) = if q id = true then getB id l else none
  | [] => by rw [List.filter_nil, getB_nil]; split <;> rfl
  | (i, cs) :: l => by
    rw [List.filter_cons]
    show getB id (if q i = true then _ else _) = _
    by_cases hi : id = i
    · subst hi
      cases hq : q id with
      | true => simp [getB_cons, hq]
      | false => simp only [hq, Bool.false_eq_true, if_false]; rw [getB_filter q id l, hq]; simp
    · cases hq : q i with
      | true => rw [if_pos rfl, getB_cons, getB_cons, if_neg hi, if_neg hi, getB_filter q id l]
      | false => rw [if_neg (by simp), getB_filter q id l, getB_cons, if_neg hi]

theorem keepT_cases (ts : List Nat) (v : AV) : keepT ts v = v ∨ keepT ts v = .undef := by
  unfold keepT
  split
  · cases ts.any _ <;> simp
  · cases ts.any _ <;> simp
  · exact .inl rfl

theorem keepT_refs {ts : List Nat} {v : AV} {u : Nat} (h : (keepT ts v).refs u = true) : ts.any (Nat.beq u) = true ∧ v.refs u = true := by
  unfold keepT at h
  split at h
  · rename_i t
    cases ht : ts.any (Nat.beq t) with
    | true =>
      rw [ht] at h
      have e : u = t := Nat.eq_of_beq_eq_true h
      subst e; exact ⟨ht, h⟩
    | false => rw [ht] at h; cases h
  · rename_i t e i o
    cases ht : ts.any (Nat.beq t) with
    | true =>
      rw [ht] at h
      have e : u = t := Nat.eq_of_beq_eq_true h
      subst e; exact ⟨ht, h⟩
    | false => rw [ht] at h; cases h
  · rename_i h1 h2
    cases v <;> first | cases h; done | exact absurd rfl (h1 _) | exact absurd rfl (h2 _ _ _ _)

theorem keepT_own {ts : List Nat} {v : AV} (h : isOwn v = true) : keepT ts v = v := by cases v <;> first | cases h; done | rfl

theorem getB_mem {id : Nat} {cs : List AV} : ∀ {l : List (Nat × List AV)}, getB id l = some cs → (id, cs) ∈ l
  | [], h => by cases h
  | (i, c) :: l, h => by
    rw [getB_cons] at h
    split at h
    · rename_i e; cases h; subst e; exact List.mem_cons_self
    · exact List.mem_cons_of_mem _ (getB_mem h)

theorem getA_mem {t : Nat} : ∀ {l : List (Nat × AV)}, getA t l = .undef ∨ (t, getA t l) ∈ l
  | [] => .inl rfl
  | (i, c) :: l => by
    rw [getA_cons]
    split
    · rename_i e; subst e; exact .inr List.mem_cons_self
    · rcases getA_mem (t := t) (l := l) with h | h
      · exact .inl h
      · exact .inr (List.mem_cons_of_mem _ h)

theorem keepSt_box (l : List (Nat × Nat)) (st : St) (id : Nat) : (keepSt l st).box id =
    if (Nat.blt id 1000 || (reach st.box 6 (addIds (idsOfs ((keepTs l st).map (·.2))) (extIds st.boxes))).any (Nat.beq id)) = true then st.box id else none := by
  generalize hq : (reach st.box 6 (addIds (idsOfs ((keepTs l st).map (·.2))) (extIds st.boxes))) = q
  have : (keepSt l st).box id = getB id (st.boxes.filter fun p => (fun i => Nat.blt i 1000 || q.any (Nat.beq i)) p.1) := by rw [← hq]; rfl
  exact this.trans (getB_filter (fun i => Nat.blt i 1000 || q.any (Nat.beq i)) id st.boxes)

theorem keepSt_rel {T : Tys} (H : Rel T E g st a w) (hnx : E.nx ≤ 1000) {l : List (Nat × Nat)} (hc : closedSt (keepSt l st) = true) : Rel T E g (keepSt l st) a w := by
  have hget : ∀ t, (keepSt l st).get t = if (l.map (·.1)).any (Nat.beq t) = true then keepT (l.map (·.1)) (st.get t) else .undef := fun t =>
    getA_keep (fun t => keepT (List.map (fun x : Nat × Nat => x.1) l) (st.get t)) t l
  have hg : ∀ t, (keepSt l st).get t = st.get t ∨ (keepSt l st).get t = .undef := fun t => by
    rw [hget]
    split
    · exact keepT_cases _ _
    · exact .inr rfl
  have hbx : ∀ id, (keepSt l st).box id = st.box id ∨ (keepSt l st).box id = none := fun id => by
    rw [keepSt_box]
    split
    · exact .inl rfl
    · exact .inr rfl
  simp only [closedSt, Bool.and_eq_true, List.all_eq_true] at hc
  refine H.restrict hg hbx (fun t u h => ?_) (fun t id h => ?_) (fun id off id' h => ?_) fun i hi => ?_
  · rw [hget] at h
    split at h
    · rename_i ht
      obtain ⟨h1, h2⟩ := keepT_refs h
      have := H.al t u h2
      rw [hget, if_pos h1, keepT_own this]
      exact this
    · cases h
  · rcases getA_mem (t := t) (l := (keepSt l st).tmps) with h1 | h1
    · rw [show (keepSt l st).get t = .undef from h1] at h; cases h
    · exact hc.2 _ h1 id h
  · unfold cellAt at h
    cases hb : (keepSt l st).box id with
    | none => rw [hb] at h; simp [idL] at h
    | some cs =>
      rw [hb, Option.getD_some] at h
      refine hc.1 _ (getB_mem hb) id' (List.mem_flatMap.2 ⟨cs.getD off .undef, ?_, h⟩)
      rcases Nat.lt_or_ge off cs.length with ho | ho
      · exact mem_of_getD ho
      · rw [List.getD_eq_getElem?_getD, List.getElem?_eq_none ho] at h; cases h
  · have := (H.xt i hi).1
    have hi : Nat.blt i 1000 = true := by simp; omega
    rw [keepSt_box, if_pos (by rw [hi, Bool.true_or])]
    exact this

theorem norm_rel {T : Tys} (H : Rel T E g st a w) (hnx : E.nx ≤ 1000) {l : List (Nat × Nat) × List (Nat × Nat)} (hc : closedSt (norm l st) = true) : ∃ g', Rel T E g' (norm l st) a w := by
  obtain ⟨g1, H1⟩ := reformTs_rel l.1 H
  obtain ⟨g2, H2⟩ := reformBs_rel l.2 H1
  exact ⟨g2, keepSt_rel H2 hnx hc⟩

theorem forceSt_eq {R : Type} (st : St) (k : St → R) : forceSt st k = k st := by
  cases st; unfold forceSt; simp only [forceT_eq, forceB_eq]

theorem goPt_cases {p : Nat} {st : St} {other : Out} {r : Res} (h : goPt C p st other = some r) :
    (∃ l, C.live p = some l ∧ closedSt (norm l st) = true ∧ C.CC p (norm l st) = some r) ∨ (C.live p = none ∧ other = some r) := by
  unfold goPt at h
  split at h
  · rename_i l hl
    rw [forceSt_eq] at h
    cases hc : closedSt (norm l st) with
    | true => rw [hc] at h; exact .inl ⟨l, hl, hc, h⟩
    | false => rw [hc] at h; cases h
  · rename_i hl
    exact .inr ⟨hl, h⟩

end Go.Ab
end

section
/-! Code, from a place on to its function's end. -/
set_option autoImplicit false
set_option linter.unusedVariables false
set_option linter.unusedSimpArgs false
namespace Go.Ab
variable {P : Program} {C : Cfg} {E : Ent} {g : Gh} {st : St} {a : Act} {w : World}

/-- The rest of a function, todo `k`, ends as told. -/
def Fin (P : Program) (b : Frame) (R : Ending → World → Prop) (k : List Item) (a : Act) (w : World) : Prop :=
  ∀ cs, ∃ e w' fr, R e w' ∧ Comes P (lone (b.at a k) cs w) (lone fr cs w') e ∧ fr.fn = b.fn ∧ fr.leaving P w' e

theorem Fin.step {b : Frame} {R : Ending → World → Prop} {k k' : List Item} {a a' : Act} {w w' : World} (hs : ∀ cs, step P (lone (b.at a k) cs w) = .next (lone (b.at a' k') cs w')) (h : Fin P b R k' a' w') : Fin P b R k a w := fun cs => by
  obtain ⟨e, w2, fr, h1, h2, h3⟩ := h cs
  exact ⟨e, w2, fr, h1, Comes.of_steps (.one (hs cs)) h2, h3⟩

/-- How a piece of code may be left, `k` being what follows. -/
def FinX (P : Program) (fn : Func) (b : Frame) (R : Ending → World → Prop) (k : List Item) : Exit → Act → World → Prop
  | .normal, a, w => Fin P b R k a w
  | .exit id, a, w => ∃ k', exitTo id k = some k' ∧ Fin P b R k' a w
  | .ret, a, w => a.defers = [] ∧ ∃ v, (results fn a.tmps).run P w = .ok v w ∧ R (.returned v) w
  | .panic chain, a, w => a.defers = [] ∧ R (.panicked chain) w
  | _, _, _ => False

theorem fin_of_arrives {fn : Func} {b : Frame} {R : Ending → World → Prop} {k : List Item} (hf : P.funcs[b.fn]? = some fn) (hk : b.kind = .normal) {todo : List Item} {a : Act} {w : World}
    (h : ∀ cs, ∃ e a' w', FinX P fn b R k e a' w' ∧ Arrives P (lone (b.at a todo) cs w) b k cs e a' w') : Fin P b R todo a w := fun cs => by
  obtain ⟨e, a', w', h1, h2⟩ := h cs
  cases e with
  | normal =>
    obtain ⟨e, w2, fr, q1, q2, q3⟩ := h1 cs
    exact ⟨e, w2, fr, q1, Comes.of_steps h2 q2, q3⟩
  | exit id =>
    obtain ⟨k', hk', h1⟩ := h1
    obtain ⟨e, w2, fr, q1, q2, q3⟩ := h1 cs
    exact ⟨e, w2, fr, q1, Comes.of_steps (h2 k' hk') q2, q3⟩
  | ret =>
    obtain ⟨hd, v, hr, hR⟩ := h1
    obtain ⟨todo', hs⟩ := h2
    exact ⟨.returned v, w', _, hR, hs, rfl, rfl, hd, hk, fn, hf, hr⟩
  | panic chain =>
    obtain ⟨hd, hR⟩ := h1
    obtain ⟨todo', hs⟩ := h2
    exact ⟨.panicked chain, w', _, hR, hs, rfl, rfl, hd, fn, hf⟩
  | goto l => exact h1.elim
  | outgrown => exact h1.elim

theorem fin_of_wp {fn : Func} {b : Frame} {R : Ending → World → Prop} {k : List Item} (hf : P.funcs[b.fn]? = some fn) (hk : b.kind = .normal) {c : Code} (h : c.wp P (FinX P fn b R k) a w) : Fin P b R (.code c :: k) a w :=
  fin_of_arrives hf hk fun cs => h b k cs

/-- Places in a function's body: the code there, and what follows. -/
inductive At (body : Code) : Nat → Code → List Item → Prop
  | root : At body 1 body []
  | seqL {p : Nat} {x y : Code} {k : List Item} (h : At body p (.seq x y) k) : At body (2 * p) x (.code y :: k)
  | seqR {p : Nat} {x y : Code} {k : List Item} (h : At body p (.seq x y) k) : At body (2 * p + 1) y k
  | condT {p : Nat} {c : Operand} {x y : Code} {k : List Item} (h : At body p (.cond c x y) k) : At body (2 * p) x k
  | condF {p : Nat} {c : Operand} {x y : Code} {k : List Item} (h : At body p (.cond c x y) k) : At body (2 * p + 1) y k
  | block {p id : Nat} {x : Code} {k : List Item} (h : At body p (.block id x) k) : At body (2 * p) x (.inBlock id :: k)
  | loop {p : Nat} {x : Code} {k : List Item} (h : At body p (.loop x) k) : At body (2 * p) x (.inLoop x :: k)
  | scope {p : Nat} {x : Code} {k : List Item} (h : At body p (.scope x) k) : At body (2 * p) x (.inScope x :: k)

theorem At.pos {body : Code} {p : Nat} {c : Code} {k : List Item} (h : At body p c k) : 1 ≤ p := by
  induction h <;> omega

theorem At.unique {body : Code} {p : Nat} {c : Code} {k : List Item} (h : At body p c k) : ∀ {p' : Nat} {c' : Code} {k' : List Item}, At body p' c' k' → p = p' → c = c' ∧ k = k' := by
  induction h with
  | root => intro p' c' k' h' e; cases h' <;> first | exact ⟨rfl, rfl⟩ | (rename_i h1; have := h1.pos; exfalso; omega)
  | seqL h ih => intro p' c' k' h' e; have hp := h.pos; cases h' <;> first | (exfalso; omega) | (rename_i h1; obtain ⟨e1, e2⟩ := ih h1 (by omega); cases e1; exact ⟨rfl, by rw [e2]⟩) | (rename_i h1; obtain ⟨e1, e2⟩ := ih h1 (by omega); cases e1; done)
  | seqR h ih => intro p' c' k' h' e; have hp := h.pos; cases h' <;> first | (exfalso; omega) | (rename_i h1; obtain ⟨e1, e2⟩ := ih h1 (by omega); cases e1; exact ⟨rfl, by rw [e2]⟩) | (rename_i h1; obtain ⟨e1, e2⟩ := ih h1 (by omega); cases e1; done)
  | condT h ih => intro p' c' k' h' e; have hp := h.pos; cases h' <;> first | (exfalso; omega) | (rename_i h1; obtain ⟨e1, e2⟩ := ih h1 (by omega); cases e1; exact ⟨rfl, by rw [e2]⟩) | (rename_i h1; obtain ⟨e1, e2⟩ := ih h1 (by omega); cases e1; done)
  | condF h ih => intro p' c' k' h' e; have hp := h.pos; cases h' <;> first | (exfalso; omega) | (rename_i h1; obtain ⟨e1, e2⟩ := ih h1 (by omega); cases e1; exact ⟨rfl, by rw [e2]⟩) | (rename_i h1; obtain ⟨e1, e2⟩ := ih h1 (by omega); cases e1; done)
  | block h ih => intro p' c' k' h' e; have hp := h.pos; cases h' <;> first | (exfalso; omega) | (rename_i h1; obtain ⟨e1, e2⟩ := ih h1 (by omega); cases e1; exact ⟨rfl, by rw [e2]⟩) | (rename_i h1; obtain ⟨e1, e2⟩ := ih h1 (by omega); cases e1; done)
  | loop h ih => intro p' c' k' h' e; have hp := h.pos; cases h' <;> first | (exfalso; omega) | (rename_i h1; obtain ⟨e1, e2⟩ := ih h1 (by omega); cases e1; exact ⟨rfl, by rw [e2]⟩) | (rename_i h1; obtain ⟨e1, e2⟩ := ih h1 (by omega); cases e1; done)
  | scope h ih => intro p' c' k' h' e; have hp := h.pos; cases h' <;> first | (exfalso; omega) | (rename_i h1; obtain ⟨e1, e2⟩ := ih h1 (by omega); cases e1; exact ⟨rfl, by rw [e2]⟩) | (rename_i h1; obtain ⟨e1, e2⟩ := ih h1 (by omega); cases e1; done)

end Go.Ab
end

section
set_option autoImplicit false
set_option linter.unusedVariables false
set_option linter.unusedSimpArgs false
namespace Go.Ab
abbrev One := Option (Eff ⊕ Dat)
noncomputable def One.elim {R : Type} (x : One) (fail : R) (kp : Dat → R) (k : Eff → R) : R :=
  match x with
  | none => fail
  | some (.inl f) => k f
  | some (.inr v) => kp v
noncomputable def ev1 (C : Cfg) (get : Nat → AV) (box : Nat → Option (List AV)) (o : Oper) : One := evOp C (R := One) none (fun v => some (.inr v)) get box o (fun f => some (.inl f))

theorem elim_none {R : Type} (fail : R) (kp : Dat → R) (k : Eff → R) : One.elim none fail kp k = fail := rfl
theorem elim_inl {R : Type} (f : Eff) (fail : R) (kp : Dat → R) (k : Eff → R) : One.elim (some (.inl f)) fail kp k = k f := rfl
theorem elim_inr {R : Type} (v : Dat) (fail : R) (kp : Dat → R) (k : Eff → R) : One.elim (some (.inr v)) fail kp k = kp v := rfl
theorem elim_cond {R : Type} (b : Bool) (x y : One) (fail : R) (kp : Dat → R) (k : Eff → R) : (cond b x y).elim fail kp k = cond b (x.elim fail kp k) (y.elim fail kp k) := by cases b <;> rfl

theorem atIndex_elim {R : Type} {fail : R} {kp : Dat → R} {k : Eff → R} (i : AV) (n : Nat) (kk : Nat → One) : (atIndex (R := One) none i n kk).elim fail kp k = atIndex fail i n fun j => (kk j).elim fail kp k := by
  unfold atIndex; split
  · rw [elim_cond]; rfl
  · rfl
theorem bound_elim {R : Type} {fail : R} {kp : Dat → R} {k : Eff → R} (x : Option AV) (d n : Nat) (kk : Nat → One) : (bound (R := One) none x d n kk).elim fail kp k = bound fail x d n fun j => (kk j).elim fail kp k := by
  unfold bound; split
  · rfl
  · rw [elim_cond]; rfl
  · rfl
theorem binInt_elim {R : Type} {fail : R} {kp : Dat → R} {k : Eff → R} (op : BinOp) (ik : IntKind) (a b : Int) : (binInt (R := One) none (fun f => some (.inl f)) op ik a b).elim fail kp k = binInt fail k op ik a b := by
  unfold binInt; split <;> first | rfl | (rw [elim_cond]; rfl)
theorem binStr_elim {R : Type} {fail : R} {kp : Dat → R} {k : Eff → R} (op : BinOp) (a b : List UInt8) : (binStr (R := One) none (fun f => some (.inl f)) op a b).elim fail kp k = binStr fail k op a b := by
  unfold binStr; split <;> first | rfl | (rw [elim_cond]; rfl)
theorem binAny_elim {R : Type} {fail : R} {kp : Dat → R} {k : Eff → R} (kd : TK) (op : BinOp) (x y : AV) : (binAny (R := One) none (fun f => some (.inl f)) kd op x y).elim fail kp k = binAny fail k kd op x y := by
  unfold binAny; split
  · rw [elim_cond, binInt_elim]; rfl
  · rw [binStr_elim]
  · split <;> rfl
  · rfl
theorem evCallG_elim {C : Cfg} (hb : C.bind = bindR) {R : Type} {fail : R} {kp : Dat → R} {k : Eff → R} (box : Nat → Option (List AV)) (fl : Nat) (t : TypeId) (D : List AV → List (List AV) → Option Res) (args : List AV) (tw : List (Nat × AV)) :
    (evCallG C (R := One) none (fun v => some (.inr v)) box fl t D args tw (fun f => some (.inl f))).elim fail kp k = evCallG C fail kp box fl t D args tw k := by
  unfold evCallG
  simp only [hb]
  rw [elim_cond]
  congr 1
  unfold bindR
  split
  · rw [elim_cond]
    congr 1
    unfold evBack
    rw [elim_cond, elim_cond]
    rfl
  · rfl
  · rfl

theorem evCall_elim {C : Cfg} (hb : C.bind = bindR) {R : Type} {fail : R} {kp : Dat → R} {k : Eff → R} (box : Nat → Option (List AV)) (fl : Nat) (t : TypeId) (f : FuncId) (args : List AV) (tw : List (Nat × AV)) :
    (evCall C (R := One) none (fun v => some (.inr v)) box fl t f args tw (fun f => some (.inl f))).elim fail kp k = evCall C fail kp box fl t f args tw k := evCallG_elim hb box fl t (C.CD f) args tw

theorem evCallC_elim {C : Cfg} (hb : C.bind = bindR) {R : Type} {fail : R} {kp : Dat → R} {k : Eff → R} (box : Nat → Option (List AV)) (fl : Nat) (t : TypeId) (D : List AV → List (List AV) → Option Res) (args : List AV) (cs : List Dat) (tw : List (Nat × AV)) :
    (evCallC C (R := One) none (fun v => some (.inr v)) box fl t D args cs tw (fun f => some (.inl f))).elim fail kp k = evCallC C fail kp box fl t D args cs tw k := by
  rw [evCallC_eq, evCallC_eq, evCallG_elim hb]

theorem evBuiltin_elim {C : Cfg} {R : Type} {fail : R} {kp : Dat → R} {k : Eff → R} (get : Nat → AV) (b : Builtin) (args : List Operand) (ts : List TypeId) :
    (evBuiltin C (R := One) none get b args ts (fun f => some (.inl f))).elim fail kp k = evBuiltin C fail get b args ts k := by
  unfold evBuiltin
  repeat' (with_reducible (first | exact elim_none _ _ _ | exact elim_inl _ _ _ _ | (rw [elim_cond]; congr 1) | split))

set_option maxHeartbeats 4000000 in
theorem ev_free {C : Cfg} (hb : C.bind = bindR) {R : Type} {fail : R} {kp : Dat → R} {k : Eff → R} (get : Nat → AV) (box : Nat → Option (List AV)) (o : Oper) :
    evOp C fail kp get box o k = (ev1 C get box o).elim fail kp k := by
  symm
  unfold ev1
  cases hop : o.op <;> unfold evOp <;> simp only [hop]
  all_goals repeat' (with_reducible (first | exact elim_none _ _ _ | exact elim_inl _ _ _ _ | exact elim_inr _ _ _ _ | (rw [evCall_elim hb]; done) | (rw [evCallG_elim hb]; done) | (rw [evCallC_elim hb]; done) | (rw [evBuiltin_elim]; done) | (rw [binAny_elim]; done) | (rw [atIndex_elim]; simp only [elim_inl]; done) | (rw [elim_cond]; congr 1) | (rw [bound_elim]; congr 1; funext _) | split))
end Go.Ab
end

section
/-! What an operation reads. -/
set_option autoImplicit false
set_option linter.unusedVariables false
set_option linter.unusedSimpArgs false
namespace Go.Ab.Cg

/-- Two states look alike to an operand. -/
def AgreeX (get get' : Nat → AV) (x : Operand) : Prop := ∀ t, x = .tmp t → get' t = get t ∧ ∀ u, u ∈ (get t).tgt → get' u = get u

theorem operand_congr {get get' : Nat → AV} {x : Operand} (h : AgreeX get get' x) : operand get' x = operand get x := by
  cases x <;> first | rfl | exact (h _ rfl).1

theorem alias_congr {get get' : Nat → AV} {x : Operand} (h : AgreeX get get' x) {t : Nat} (hx : operand get x = .alias t) : get' t = get t := by
  cases x
  case tmp u =>
    have hx : get u = .alias t := hx
    exact (h u rfl).2 t (by rw [hx]; simp [AV.tgt])
  case const v => exfalso; revert hx; show ofValue v = _ → _; unfold ofValue; split <;> intro h <;> cases h
  all_goals cases hx

theorem eptr_congr {get get' : Nat → AV} {x : Operand} (h : AgreeX get get' x) {t e i o : Nat} (hx : operand get x = .eptr t e i o) : get' t = get t := by
  cases x
  case tmp u =>
    have hx : get u = .eptr t e i o := hx
    exact (h u rfl).2 t (by rw [hx]; simp [AV.tgt])
  case const v => exfalso; revert hx; show ofValue v = _ → _; unfold ofValue; split <;> intro h <;> cases h
  all_goals cases hx

theorem view_congr {get get' : Nat → AV} {x : Operand} (h : AgreeX get get' x) : view get' x = view get x := by
  unfold view
  rw [operand_congr h]
  split
  · rfl
  · rename_i t ht
    rw [alias_congr h ht]
  · rfl

theorem pubs_congr {get get' : Nat → AV} {x : Operand} (h : AgreeX get get' x) : pubs get' x = pubs get x := by
  cases x
  case tmp t =>
    obtain ⟨h1, h2⟩ := h t rfl
    unfold pubs
    simp only [h1]
    split
    · rfl
    · rename_i u hu
      rw [h2 u (by rw [hu]; simp [AV.tgt])]
    · rfl
  all_goals rfl

theorem ownTmp_congr {get get' : Nat → AV} {x : Operand} (h : AgreeX get get' x) : ownTmp get' x = ownTmp get x := by
  cases x
  case tmp t => unfold ownTmp; simp only [(h t rfl).1]
  all_goals rfl

theorem ownerOf_congr {get get' : Nat → AV} {x : Operand} (h : AgreeX get get' x) : ownerOf get' x = ownerOf get x := by
  cases x
  case tmp t =>
    obtain ⟨h1, h2⟩ := h t rfl
    unfold ownerOf
    simp only [h1]
    split
    · rfl
    · rename_i u hu
      rw [h2 u (by rw [hu]; simp [AV.tgt])]
    · rfl
  all_goals rfl

theorem owner_get {get get' : Nat → AV} {x : Operand} (h : AgreeX get get' x) {t : Nat} (ht : ownerOf get x = some t) : get' t = get t := by
  cases x
  case tmp u =>
    obtain ⟨h1, h2⟩ := h u rfl
    unfold ownerOf at ht
    simp only at ht
    split at ht
    · cases ht; exact h1
    · rename_i v hv
      split at ht
      · cases ht; exact h2 _ (by rw [hv]; simp [AV.tgt])
      · cases ht
    · cases ht
  all_goals cases ht

theorem rowsOf_congr {get get' : Nat → AV} {x : Operand} (h : AgreeX get get' x) : rowsOf get' x = rowsOf get x := by
  unfold rowsOf
  rw [operand_congr h]
  split <;> try rfl
  rename_i t ht
  rw [alias_congr h ht]

theorem srcRows_congr {T : Tys} {e : TypeId} {get get' : Nat → AV} {x : Operand} (h : AgreeX get get' x) : srcRows T e get' x = srcRows T e get x := by
  unfold srcRows
  rw [operand_congr h, rowsOf_congr h]

theorem views_congr {get get' : Nat → AV} {xs : List Operand} (h : ∀ x ∈ xs, AgreeX get get' x) : views get' xs = views get xs :=
  List.map_congr_left fun x hx => view_congr (h x hx)

theorem pubss_congr {get get' : Nat → AV} : ∀ {xs : List Operand}, (∀ x ∈ xs, AgreeX get get' x) → pubss get' xs = pubss get xs
  | [], _ => rfl
  | x :: xs, h => by
    have ih := pubss_congr (xs := xs) fun y hy => h y (List.mem_cons_of_mem _ hy)
    unfold pubss at ih ⊢
    rw [List.flatMap_cons, List.flatMap_cons, pubs_congr (h x List.mem_cons_self), ih]

theorem parts_congr {get get' : Nat → AV} {ps : List (Nat × Operand)} (F : Nat → AV → AV) (h : ∀ x ∈ ps.map (·.2), AgreeX get get' x) : (ps.map fun p => (p.1, F p.1 (view get' p.2))) = ps.map fun p => (p.1, F p.1 (view get p.2)) :=
  List.map_congr_left fun p hp => by rw [view_congr (h p.2 (List.mem_map_of_mem hp))]

/-! ### The variables that are reached -/
theorem mem_addId {x id : Nat} : ∀ {l : List Nat}, x ∈ addId id l ↔ x = id ∨ x ∈ l
  | [] => by simp [addId]
  | y :: l => by
    unfold addId
    by_cases h : id = y
    · subst h; rw [Nat.beq_refl, cond_true]; simp
    · rw [show Nat.beq id y = false from Bool.eq_false_iff.2 fun e => h (Nat.eq_of_beq_eq_true e), cond_false, List.mem_cons, mem_addId, List.mem_cons]
      constructor
      · rintro (h | h | h) <;> simp [h]
      · rintro (h | h | h) <;> simp [h]

theorem mem_addIds {x : Nat} : ∀ {l acc : List Nat}, x ∈ addIds l acc ↔ x ∈ l ∨ x ∈ acc
  | [], acc => by simp [addIds]
  | y :: l, acc => by
    unfold addIds
    rw [mem_addIds, mem_addId, List.mem_cons]
    constructor
    · rintro (h | h | h) <;> simp [h]
    · rintro ((h | h) | h) <;> simp [h]

noncomputable def nextIds (box : Nat → Option (List AV)) (acc : List Nat) : List Nat := acc.flatMap fun id => match box id with | some cs => idsOfs cs | none => []

theorem reach_sub {box : Nat → Option (List AV)} : ∀ {n : Nat} {acc : List Nat} {x : Nat}, x ∈ acc → x ∈ reach box n acc
  | 0, _, _, h => h
  | n + 1, acc, x, h => reach_sub (n := n) (mem_addIds.2 (.inr h))

theorem reach_mono {box : Nat → Option (List AV)} : ∀ {n : Nat} {acc acc' : List Nat}, (∀ x ∈ acc, x ∈ acc') → ∀ x ∈ reach box n acc, x ∈ reach box n acc'
  | 0, _, _, h, x, hx => h x hx
  | n + 1, acc, acc', h, x, hx => by
    refine reach_mono (n := n) (fun y hy => ?_) x hx
    rcases mem_addIds.1 hy with hy | hy
    · refine mem_addIds.2 (.inl ?_)
      obtain ⟨id, hid, hy⟩ := List.mem_flatMap.1 hy
      exact List.mem_flatMap.2 ⟨id, h id hid, hy⟩
    · exact mem_addIds.2 (.inr (h y hy))

theorem flatMap_congr' {α β : Type} {f g : α → List β} : ∀ {l : List α}, (∀ x ∈ l, f x = g x) → l.flatMap f = l.flatMap g
  | [], _ => rfl
  | x :: l, h => by rw [List.flatMap_cons, List.flatMap_cons, h x List.mem_cons_self, flatMap_congr' fun y hy => h y (List.mem_cons_of_mem _ hy)]

theorem reach_congr {box box' : Nat → Option (List AV)} : ∀ {n : Nat} {acc : List Nat}, (∀ x ∈ reach box n acc, box' x = box x) → reach box' n acc = reach box n acc
  | 0, _, _ => rfl
  | n + 1, acc, h => by
    have e : nextIds box' acc = nextIds box acc :=
      flatMap_congr' fun id hid => by
        have hb := h id (by
          show id ∈ reach box n (addIds _ acc)
          exact reach_sub (mem_addIds.2 (.inr hid)))
        simp only [hb]
    show reach box' n (addIds (nextIds box' acc) acc) = reach box n (addIds (nextIds box acc) acc)
    rw [e]
    exact reach_congr h

theorem view_ids {get : Nat → AV} (x : Operand) : ∀ id, id ∈ idsOf (view get x) → id ∈ idsOf (operand get x) := fun id h => by
  have hc : ∀ (b : Bool) (e : TypeId) (r : List (List Dat)), idsOf (cond b AV.undef (.d (.lst e r))) = [] := fun b e r => by cases b <;> rfl
  unfold view at h
  split at h
  · rw [hc] at h; cases h
  · split at h
    · rw [hc] at h; cases h
    · cases h
  · exact h

/-- Two states look alike to an operation. -/
structure Agree (o : Oper) (get get' : Nat → AV) (box box' : Nat → Option (List AV)) : Prop where
  tm : ∀ t, t ∈ withTgts get (opTmps o) → get' t = get t
  bx : ∀ id, id ∈ opBoxes get box o → box' id = box id

theorem Agree.x {o : Oper} {get get' : Nat → AV} {box box' : Nat → Option (List AV)} (A : Agree o get get' box box') {x : Operand} (hx : x ∈ o.op.operands.toList) : AgreeX get get' x := fun t e => by
  subst e
  have ht : t ∈ opTmps o := List.mem_filterMap.2 ⟨.tmp t, hx, rfl⟩
  exact ⟨A.tm t (List.mem_append_left _ ht), fun u hu => A.tm u (List.mem_append_right _ (List.mem_flatMap.2 ⟨t, ht, hu⟩))⟩

theorem operand_ids {get : Nat → AV} {x : Operand} {id : Nat} (h : id ∈ idsX (operand get x)) : ∃ t, x = .tmp t ∧ id ∈ idsX (get t) := by
  cases x
  case tmp t => exact ⟨t, rfl, h⟩
  case const v =>
    exfalso
    revert h
    show id ∈ idsX (ofValue v) → _
    unfold ofValue
    split <;> intro h <;> cases h
  all_goals cases h

theorem Agree.ids {o : Oper} {get get' : Nat → AV} {box box' : Nat → Option (List AV)} (A : Agree o get get' box box') {acc : List Nat} (h : ∀ id ∈ acc, ∃ x ∈ o.op.operands.toList, id ∈ idsX (operand get x)) : ∀ id ∈ reach box 4 (addIds acc []), box' id = box id := fun id hid => by
  refine A.bx id (List.mem_append_right _ ?_)
  refine reach_mono (fun y hy => ?_) id hid
  rcases mem_addIds.1 hy with hy | hy
  · obtain ⟨x, hx, hy⟩ := h y hy
    obtain ⟨t, rfl, hy⟩ := operand_ids hy
    exact mem_addIds.2 (.inl (List.mem_flatMap.2 ⟨t, List.mem_filterMap.2 ⟨.tmp t, hx, rfl⟩, hy⟩))
  · cases hy

theorem Agree.box {o : Oper} {get get' : Nat → AV} {box box' : Nat → Option (List AV)} (A : Agree o get get' box box') {x : Operand} (hx : x ∈ o.op.operands.toList) {id off : Nat} (h : operand get x = .ptr id off) : box' id = box id :=
  A.ids (acc := [id]) (fun i hi => ⟨x, hx, by rw [h]; simpa [idsX, idsOf, idL] using hi⟩) id (reach_sub (mem_addIds.2 (.inl (by simp))))

theorem evCallG_congr {C : Cfg} {R : Type} {fail : R} {kp : Dat → R} {k : Eff → R} {box box' : Nat → Option (List AV)} {fl : Nat} {t : TypeId} {D : List AV → List (List AV) → Option Res} {args : List AV} {tw : List (Nat × AV)}
    (h : ∀ id ∈ reach box 4 (addIds (idsOfs args) []), box' id = box id) : evCallG C fail kp box' fl t D args tw k = evCallG C fail kp box fl t D args tw k := by
  unfold evCallG
  rw [reach_congr h]
  have e : ((reach box 4 (addIds (idsOfs args) [])).map fun id => (box' id).getD []) = (reach box 4 (addIds (idsOfs args) [])).map fun id => (box id).getD [] :=
    List.map_congr_left fun id hid => by rw [h id hid]
  simp only [e]

theorem evCall_congr {C : Cfg} {R : Type} {fail : R} {kp : Dat → R} {k : Eff → R} {box box' : Nat → Option (List AV)} {fl : Nat} {t : TypeId} {f : FuncId} {args : List AV} {tw : List (Nat × AV)}
    (h : ∀ id ∈ reach box 4 (addIds (idsOfs args) []), box' id = box id) : evCall C fail kp box' fl t f args tw k = evCall C fail kp box fl t f args tw k := evCallG_congr h

theorem objRows_congr {get get' : Nat → AV} {x : Operand} {e : TypeId} (h : AgreeX get get' x) : objRows get' x e = objRows get x e := by
  unfold objRows
  rw [ownerOf_congr h]
  split
  · rename_i u hu
    rw [owner_get h hu]
  · rfl

theorem evBuiltin_congr {C : Cfg} {R : Type} {fail : R} {k : Eff → R} {get get' : Nat → AV} {b : Builtin} {args : List Operand} {ts : List TypeId} (h : ∀ x ∈ args, AgreeX get get' x) :
    evBuiltin C fail get' b args ts k = evBuiltin C fail get b args ts k := by
  unfold evBuiltin
  split
  · rename_i x t _
    have hx := h x (by simp)
    rw [operand_congr hx, rowsOf_congr hx]
  · rename_i _ x y
    rw [view_congr (h x (by simp)), view_congr (h y (by simp))]
  · rename_i _ x y
    rw [view_congr (h x (by simp)), view_congr (h y (by simp))]
  · rename_i s x t tx _
    have hs := h s (by simp)
    have hx := h x (by simp)
    split
    · congr 1
      rw [srcRows_congr hx, ownerOf_congr hs, operand_congr hs]
      split
      · split
        · rename_i u hu
          rw [owner_get hs hu]
        · rfl
      · rfl
    · rfl
  · rfl

set_option maxHeartbeats 1000000 in
theorem ev_congr {C : Cfg} {R : Type} {fail : R} {kp : Dat → R} {k : Eff → R} {get get' : Nat → AV} {box box' : Nat → Option (List AV)} {o : Oper} (A : Agree o get get' box box') :
    evOp C fail kp get' box' o k = evOp C fail kp get box o k := by
  have hx := @Agree.x _ _ _ _ _ A
  have hbx := @Agree.box _ _ _ _ _ A
  have hids := @Agree.ids _ _ _ _ _ A
  have hd : ∀ d, o.dst = some d → box' (boxId d) = box (boxId d) := fun d e => A.bx _ (List.mem_append_left _ (by simp [dstL, e]))
  cases hop : o.op <;> rw [hop] at hx hbx hids <;> unfold evOp <;> simp only [hop]
  case move x =>
    have h := hx (x := x) (by simp [Op.operands])
    rw [ownTmp_congr h, view_congr h, pubs_congr h, operand_congr h]
  case assign x =>
    have h := hx (x := x) (by simp [Op.operands])
    rw [ownerOf_congr h, view_congr h, pubs_congr h, operand_congr h]
    split
    · rename_i t ht
      rw [owner_get h ht]
    · rfl
  case pick c a b =>
    rw [operand_congr (hx (x := c) (by simp [Op.operands])), operand_congr (hx (x := a) (by simp [Op.operands])), operand_congr (hx (x := b) (by simp [Op.operands]))]
  case alloc t =>
    split
    · rename_i d hdd
      rw [hd d hdd]
    · rfl
  case box t x =>
    have h := hx (x := x) (by simp [Op.operands])
    rw [ownerOf_congr h, operand_congr h, view_congr h, pubss_congr (xs := [x]) fun y hy => by rw [List.mem_singleton.1 hy]; exact h]
    split
    · rename_i d hdd
      rw [hd d hdd]
      congr 1
      split
      · split
        · rename_i t ht
          rw [owner_get h ht]
        · rfl
      · rfl
    · rfl
  case build t ps =>
    have h : ∀ x ∈ ps.toList.map (·.2), AgreeX get get' x := fun x hx' => hx (by simpa [Op.operands] using hx')
    rw [parts_congr (fun i v => retype (C.ty ((C.ty t).fields.getD i (0, 0)).2).kind v) h, pubss_congr h]
  case buildSlice t n ps =>
    have h : ∀ x ∈ ps.toList.map (·.2), AgreeX get get' x := fun x hx' => hx (by simpa [Op.operands] using hx')
    split
    · rename_i e _
      rw [parts_congr (fun i v => retype (C.ty e).kind v) h, pubss_congr h]
    · rfl
  case nilCheck x => rw [operand_congr (hx (x := x) (by simp [Op.operands]))]
  case fieldAddr s x f => rw [operand_congr (hx (x := x) (by simp [Op.operands]))]
  case load t x =>
    have h := hx (x := x) (by simp [Op.operands])
    rw [operand_congr h]
    split
    · rename_i id off he
      rw [hbx (x := x) (by simp [Op.operands]) he]
    · rfl
    · rename_i u e i off he
      rw [eptr_congr h he]
    · rfl
  case store t a x =>
    have ha := hx (x := a) (by simp [Op.operands])
    have h := hx (x := x) (by simp [Op.operands])
    rw [operand_congr ha, ownerOf_congr h, operand_congr h]
    split
    · rename_i id off he
      rw [hbx (x := a) (by simp [Op.operands]) he]
      split
      · split
        · rename_i u hu
          rw [owner_get h hu]
        · rfl
      · rfl
    · rename_i u e i off he
      rw [eptr_congr ha he]
    · rfl
  case binOp op t x y _ =>
    have h1 := hx (x := x) (by simp [Op.operands])
    have h2 := hx (x := y) (by simp [Op.operands])
    rw [view_congr h1, view_congr h2]
    split
    · rename_i p hp
      have : operand get' p.1 = operand get p.1 := by
        unfold nilSide at hp
        split at hp <;> cases hp <;> first | exact operand_congr h1 | exact operand_congr h2
      rw [this]
    · rfl
  case unOp op t x => rw [operand_congr (hx (x := x) (by simp [Op.operands]))]
  case convert s t x =>
    have h1 := hx (x := x) (by simp [Op.operands])
    rw [operand_congr h1, rowsOf_congr h1]
  case makeMap t r => cases r <;> rfl
  case lookup t m i q =>
    have h1 := hx (x := m) (by simp [Op.operands])
    have h2 := hx (x := i) (by simp [Op.operands])
    rw [view_congr h2]
    simp only [objRows_congr h1]
  case mapUpdate t m i x =>
    have h1 := hx (x := m) (by simp [Op.operands])
    have h2 := hx (x := i) (by simp [Op.operands])
    have h3 := hx (x := x) (by simp [Op.operands])
    rw [view_congr h2, operand_congr h3]
    simp only [objRows_congr h1]
  case insert t m i x =>
    have h1 := hx (x := m) (by simp [Op.operands])
    have h2 := hx (x := i) (by simp [Op.operands])
    have h3 := hx (x := x) (by simp [Op.operands])
    rw [view_congr h2, operand_congr h3]
    simp only [objRows_congr h1]
  case range t x => rw [view_congr (hx (x := x) (by simp [Op.operands]))]
  case next x q =>
    have h1 := hx (x := x) (by simp [Op.operands])
    cases q
    · rfl
    · simp only [objRows_congr h1]
  case makeInterface t x =>
    have h := hx (x := x) (by simp [Op.operands])
    rw [view_congr h, pubs_congr h]
  case makeFunc fn first caps =>
    have h : ∀ x ∈ caps.toList, AgreeX get get' x := fun x hx' => hx (by simp only [Op.operands, Array.toList_append, List.mem_append]; exact .inr hx')
    cases fn <;> first | rfl | (simp only; rw [views_congr h, pubss_congr h])
  case indexAddr t x i =>
    have h := hx (x := x) (by simp [Op.operands])
    have hi := hx (x := i) (by simp [Op.operands])
    rw [ownerOf_congr h, operand_congr h, view_congr hi]
    split
    · split
      · rename_i u hu
        rw [owner_get h hu]
      · rfl
    · rfl
  case index t x i =>
    rw [operand_congr (hx (x := x) (by simp [Op.operands])), view_congr (hx (x := i) (by simp [Op.operands]))]
  case slice t x lo hi mx =>
    have h := hx (x := x) (by simp [Op.operands])
    have hlo : ∀ l, lo = some l → AgreeX get get' l := fun l e => hx (by simp [Op.operands, e])
    have hhi : ∀ l, hi = some l → AgreeX get get' l := fun l e => hx (by simp [Op.operands, e])
    have hmx : ∀ l, mx = some l → AgreeX get get' l := fun l e => hx (by simp [Op.operands, e])
    have e1 : lo.map (view get') = lo.map (view get) := by cases lo with | none => rfl | some l => simp [view_congr (hlo l rfl)]
    have e2 : hi.map (view get') = hi.map (view get) := by cases hi with | none => rfl | some l => simp [view_congr (hhi l rfl)]
    rw [view_congr h, pubs_congr h, e1, e2]
    cases mx with
    | none => rfl
    | some m => simp only [view_congr (hmx m rfl)]
  case field s x f => rw [operand_congr (hx (x := x) (by simp [Op.operands]))]
  case extract x i => rw [operand_congr (hx (x := x) (by simp [Op.operands]))]
  case typeAssert x _ t ok => rw [operand_congr (hx (x := x) (by simp [Op.operands]))]
  case panic x => rw [view_congr (hx (x := x) (by simp [Op.operands]))]
  case call c =>
    obtain ⟨callee, args, ats⟩ := c
    cases callee with
    | value f =>
      have hf := hx (x := f) (by simp [Op.operands, Call.operands])
      have ha : ∀ x ∈ args.toList, AgreeX get get' x := fun x hx' => hx (by simp [Op.operands, Call.operands, List.mem_cons]; exact .inr (by simpa using hx'))
      simp only
      rw [operand_congr hf, views_congr ha, pubss_congr ha]
      have hva : ∀ id ∈ idsOfs (views get args.toList), ∃ x ∈ (Op.call ⟨.value f, args, ats⟩).operands.toList, id ∈ idsX (operand get x) := fun id hid => by
        obtain ⟨v, hv, hid⟩ := List.mem_flatMap.1 hid
        obtain ⟨x, hx', rfl⟩ := List.mem_map.1 hv
        exact ⟨x, by simp [Op.operands, Call.operands]; exact .inr (by simpa using hx'), List.mem_append_left _ (view_ids x id hid)⟩
      split
      · rename_i g caps hg
        refine evCall_congr (hids fun id hid => ?_)
        unfold idsOfs at hid
        rw [List.flatMap_append, List.mem_append] at hid
        rcases hid with hid | hid
        · exact hva id hid
        · refine ⟨f, by simp [Op.operands, Call.operands], ?_⟩
          rw [hg]
          exact List.mem_append_right _ hid
      · rename_i y hy
        refine congrArg (fun z => cond y.isFn z fail) ?_
        rw [evCallC_eq, evCallC_eq]
        refine evCallG_congr (hids fun id hid => ?_)
        unfold idsOfs at hid
        rw [idss_cap] at hid
        exact hva id hid
      · rfl
    | builtin b =>
      simp only
      exact evBuiltin_congr fun x hx' => hx (by simpa [Op.operands, Call.operands] using hx')
    | invoke rv m =>
      have hf := hx (x := rv) (by simp [Op.operands, Call.operands])
      have ha : ∀ x ∈ args.toList, AgreeX get get' x := fun x hx' => hx (by simp [Op.operands, Call.operands, List.mem_cons]; exact .inr (by simpa using hx'))
      simp only
      rw [operand_congr hf, views_congr ha, pubss_congr ha]
      have hva : ∀ id ∈ idsOfs (views get args.toList), ∃ x ∈ (Op.call ⟨.invoke rv m, args, ats⟩).operands.toList, id ∈ idsX (operand get x) := fun id hid => by
        obtain ⟨v, hv, hid⟩ := List.mem_flatMap.1 hid
        obtain ⟨x, hx', rfl⟩ := List.mem_map.1 hv
        exact ⟨x, by simp [Op.operands, Call.operands]; exact .inr (by simpa using hx'), List.mem_append_left _ (view_ids x id hid)⟩
      split
      · rename_i t y hy
        split
        · refine evCall_congr (hids fun id hid => ?_)
          rcases List.mem_append.1 (by simpa [idsOfs] using hid : id ∈ idsOf y ++ idsOfs (views get args.toList)) with hid | hid
          · refine ⟨rv, by simp [Op.operands, Call.operands], ?_⟩
            rw [hy]
            exact List.mem_append_right _ hid
          · exact hva id hid
        · rfl
      · exact evCallG_congr (hids hva)
      · rfl

end Go.Ab.Cg
end

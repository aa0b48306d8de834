/- Part 8 of the proof that this seat's laws lean on: an abstract machine over the model's code, its soundness, and what it says of this program. -/
import Derived.Test.YticeaojhadjaaaaGreatDoorAxG
import Derived.Laws.BytesString

section
/-! Conversions. -/
set_option autoImplicit false
set_option linter.unusedVariables false
set_option linter.unusedSimpArgs false
namespace Go.Ab
variable {P : Program} {C : Cfg} {E : Ent} {g : Gh} {st : St} {a : Act} {w : World} {o : Oper} {R : Type} {fail : R} {kp : Dat → R} {k : Eff → R} {res : R}

theorem foldl_bytes : ∀ (ns : List Int) (r : ByteArray), ns.foldl (fun r n => r.push (UInt8.ofNat n.toNat)) r = ⟨r.data ++ (ns.map fun n => UInt8.ofNat n.toNat).toArray⟩
  | [], r => by simp
  | n :: ns, r => by
    rw [List.foldl_cons, foldl_bytes ns]
    congr 1
    simp [ByteArray.push]

theorem next_bytes (hT : ∀ t, C.ty t = tyOf P t) (H : Rel C.ty E g st a w) {s t e : TypeId} {x : Operand} (hop : o.op = .convert s t x) (h2 : P.underlying s = some (.slice e)) (h3 : P.underlying t = some .string)
    {p : TypeId × List (List Dat)} (hp : rowsOf st.get x = some p) (hc : (isU8 C.ty e && (Nat.beq p.1 e || p.2.isEmpty)) = true) : Next1 P C.ty E st a w o { v := .d (.str (bytesOf p.2)) } := by
  obtain ⟨e', r⟩ := p
  simp only [isU8, Bool.and_eq_true, Bool.or_eq_true, decide_eq_true_eq] at hc
  obtain ⟨⟨⟨hk, hsz⟩, hcl⟩, hr⟩ := hc
  have hsz := Nat.eq_of_beq_eq_true hsz
  have hk' : (C.ty e).kind = .int .u8 := by
    cases hkk : (C.ty e).kind with
    | int k => rw [hkk] at hk; cases k <;> first | rfl | (cases hk)
    | _ => rw [hkk] at hk; cases hk
  have he : P.underlying e = some (.int .u8) := by
    obtain ⟨_, _, h5, _⟩ := tk_some hT (t := e) (by rw [hk']; simp)
    exact tk_int (h5.symm.trans hk')
  obtain ⟨⟨A, cap, hv⟩, hrel⟩ := rowsOf_rel H hp
  have hload : ∀ ad, A = some ad → (loadCells ad r.length).run P w = .ok ((r.map fun row => (row.headD .nilP).i).map (Value.int .u8)).toArray w := by
    intro ad had
    subst had
    by_cases hr0 : r = []
    · subst hr0
      simp [loadCells, loadCellsFrom]
    · have hee : e' = e := by
        rcases hr with hr | hr
        · exact Nat.eq_of_beq_eq_true hr
        · exact absurd (List.isEmpty_iff.1 hr) hr0
      subst hee
      have fin : ∀ (news : Array Value) (vs : Nat → Nat → Value), Rows C.ty (rdr w g.pub) e' r news vs → news = ((r.map fun row => (row.headD .nilP).i).map (Value.int .u8)).toArray := by
        intro news vs ⟨r1, r2, r3⟩
        apply Array.ext_getElem?
        intro i
        by_cases hi : i < r.length
        · obtain ⟨q1, q2⟩ := r2 i hi
          have h0 := q2 0 (by rw [q1, hcl]; simp)
          rw [hcl, List.getD_cons_zero, hk'] at h0
          obtain ⟨d1, d2⟩ := h0
          have r30 := r3 i 0 hi (by omega)
          rw [hsz, Nat.mul_one, Nat.add_zero] at r30
          rw [r30]
          have hrow : r.getD i [] = r[i] := by rw [List.getD_eq_getElem?_getD, List.getElem?_eq_getElem hi]; rfl
          rw [hrow] at d1 d2
          have hh : r[i].headD .nilP = r[i].getD 0 .nilP := by cases r[i] <;> rfl
          simp only [List.map_map, List.getElem?_toArray, List.getElem?_map, List.getElem?_eq_getElem hi, Option.map_some, Function.comp, hh]
          generalize r[i].getD 0 .nilP = dd at d1 d2
          cases dd <;> simp only [WT] at d2
          subst d2
          generalize vs i 0 = vv at d1
          cases d1
          rfl
        · rw [Array.getElem?_eq_none (by rw [r1, hsz]; omega), Array.getElem?_eq_none (by simp; omega)]
      rcases hrel with h4 | ⟨h4, h5⟩
      · obtain ⟨A', cap', news, vs, q1, q2, q3, q4⟩ := drep_rows (P := P) (w := w) (rdr w g.pub) (fun b i v hv => hv.2) (by omega) h4
        rw [hv] at q1
        obtain ⟨rfl, _, rfl⟩ := Value.slice.inj q1
        have := q4 w rfl cap
        simp only [Builtin.firstCells, hsz, Nat.mul_one] at this
        rw [this, fin news vs q3]
      · obtain ⟨A', cap', news, vs, q1, q2, q3, q4⟩ := own_rows (P := P) (rdr w g.pub) (by omega) h4 h5
        rw [hv] at q1
        obtain ⟨rfl, _, rfl⟩ := Value.slice.inj q1
        have := q4 w rfl cap
        simp only [Builtin.firstCells, hsz, Nat.mul_one] at this
        rw [this, fin news vs q3]
  have hrun : (convert s t (.slice A r.length cap)).run P w = .ok (.string ⟨(bytesOf r).toArray⟩) w := by
    rw [run_convert_bytes_string w s t e A r.length cap h2 he h3]
    cases A with
    | some ad =>
      rw [run_bytesToString w ad r.length cap _ (hload ad rfl), foldl_bytes]
      simp [bytesOf, ByteArray.empty, ByteArray.emptyWithCapacity, Function.comp_def]
      rfl
    | none =>
      have hr0 : r = [] := by
        rcases hrel with h4 | ⟨h4, h5⟩
        · by_cases h0 : r = []
          · exact h0
          · rw [hv] at h4
            cases h4 with
            | lst e rows A cap vs hcap hsz ha hl hr ht =>
              obtain ⟨b, o', hA, _⟩ := ha (List.length_pos_iff.2 h0)
              cases hA
        · rcases h4 with ⟨h0, _⟩ | ⟨_, b, cap', cur, ty, fr, vs, h6, _⟩ | ⟨h0, _⟩
          · exact h0
          · rw [hv] at h6; cases h6
          · rw [h5] at h0; cases h0
      subst hr0
      simp [Conv.bytesToString, bytesOf]
      rfl
  exact .data H rfl (x := .string ⟨(bytesOf r).toArray⟩) (by simp [execOp, hop, hv, hrun]) (.str _)

theorem ev_convert (hT : ∀ t, C.ty t = tyOf P t) (H : Rel C.ty E g st a w) {s t : TypeId} {x : Operand} (hop : o.op = .convert s t x) (h : evOp C fail kp st.get st.box o k = res) (hne : res ≠ fail) : Ends P C E st a w o kp k res := by
  unfold evOp at h
  simp only [hop] at h
  have hty : ∀ t, (C.ty t).kind ≠ .other → (C.ty t).kind = tkOf (P.underlying t) := fun t ht => by
    obtain ⟨_, _, h5, _⟩ := tk_some hT ht
    exact h5
  split at h
  · rename_i js ik jk n hs ht hx
    have h1 : a.eval x = .int jk n := by
      have h2 := (operand_rel H x (by rw [hx]; rfl)).1
      rw [hx] at h2
      exact VRel_int h2
    have h2 := tk_int ((hty s (by rw [hs]; simp)).symm.trans hs)
    have h3 := tk_int ((hty t (by rw [ht]; simp)).symm.trans ht)
    exact .of h (.data H rfl (x := .int ik (ik.wrap n)) (by simp [execOp, hop, h1, convert, run_underlying h2, run_underlying h3, Conv.intToInt]) (.int _ _))
  · rename_i l hs ht hx
    have h2 := tk_string ((hty s (by rw [hs]; simp)).symm.trans hs)
    have h3 := tk_string ((hty t (by rw [ht]; simp)).symm.trans ht)
    exact .of h (.data H rfl (x := .string ⟨l.toArray⟩) (by simp [execOp, hop, eval_str H hx, convert, run_underlying h2, run_underlying h3]) (.str _))
  · rename_i e hs ht
    have h2 := tk_slice ((hty s (by rw [hs]; simp)).symm.trans hs)
    have h3 := tk_string ((hty t (by rw [ht]; simp)).symm.trans ht)
    split at h
    · rename_i p hp
      obtain ⟨hc, h⟩ := cond_ends h hne
      exact .of h (next_bytes hT H hop h2 h3 hp hc)
    · exact absurd h.symm hne
  · exact absurd h.symm hne

end Go.Ab
end

section
/-! Objects of the call's own: maps, strings that are ranged over. -/
set_option autoImplicit false
set_option linter.unusedVariables false
set_option linter.unusedSimpArgs false
namespace Go.Ab
variable {P : Program} {C : Cfg} {E : Ent} {g : Gh} {st : St} {a : Act} {w : World} {o : Oper} {R : Type} {fail : R} {kp : Dat → R} {k : Eff → R} {res : R}

theorem isTag_map (t : TypeId) : isTag (mapTag t) = true := by unfold isTag mapTag; exact Nat.ble_eq_true_of_le (by omega)
theorem isTag_iter : isTag iterTag = true := rfl
theorem run_getObj {b : Nat} {ob : Obj} {w : World} (h : w.heap[b]? = some ob) (hc : ∀ c e f, ob ≠ .cells c e f) : (getObj b).run P w = .ok ob w := by
  cases ob <;> first | exact absurd rfl (hc _ _ _) | simp [getObj, Sem.run, h]
theorem run_setObj {b : Nat} {ob0 : Obj} {w : World} (h : w.heap[b]? = some ob0) (hc : ∀ c e f, ob0 ≠ .cells c e f) (ob : Obj) : (setObj b ob).run P w = .ok () { w with heap := w.heap.setIfInBounds b ob } := by
  cases ob0 <;> first | exact absurd rfl (hc _ _ _) | simp [setObj, Sem.run, h]
theorem run_newObj (ob : Obj) (w : World) : (newObj ob).run P w = .ok w.heap.size (w.alloc ob) := rfl
theorem alloc_push (ob : Obj) (w : World) : w.alloc ob = { w with heap := w.heap.push ob } := rfl

theorem next_newObj (H : Rel C.ty E g st a w) {ob : Obj} {e : TypeId} {rows : List (List Dat)} {v : Value} (hrun : (execOp a.eval o).run P w = .ok (.value v) { w with heap := w.heap.push ob })
    (ht : isTag e = true) (hk : (C.ty e).kind = .other) (hv : ownB v = some w.heap.size) (ho : ∀ R', ObjRel C.ty R' e rows v w.heap.size ob) : Next1 P C.ty E st a w o { v := .own e rows } :=
  .value hrun fun hdst => by
    obtain ⟨N1, N2, N3⟩ := H.allocAny (w' := { w with heap := w.heap.push ob }) rfl ⟨rfl, rfl, rfl⟩
    exact N1.putFresh hdst (.inr (.inr ⟨ht, hk, w.heap.size, ob, by simp, ho _⟩)) fun b hb => by
      rw [hv] at hb
      cases hb
      exact N2

theorem ev_makeMap (hT : ∀ t, C.ty t = tyOf P t) (H : Rel C.ty E g st a w) {t : TypeId} {r : Option Operand} (hop : o.op = .makeMap t r) (h : evOp C fail kp st.get st.box o k = res) (hne : res ≠ fail) : Ends P C E st a w o kp k res := by
  cases r with
  | some r => unfold evOp at h; simp only [hop] at h; exact absurd h.symm hne
  | none =>
    unfold evOp at h
    simp only [hop] at h
    split at h
    · rename_i kt lt h1 h2
      exact .of h (next_newObj H (ob := .map #[] 0) (v := .map (some w.heap.size)) (by rw [← alloc_push]; simp [execOp, hop, Instr.makeMap, run_newObj]) (isTag_map t) h2 rfl fun R' => .inr ⟨t, kt, lt, #[], 0, rfl, h1, rfl, rfl, trivial⟩)
    · exact absurd h.symm hne

theorem ev_range (hT : ∀ t, C.ty t = tyOf P t) (H : Rel C.ty E g st a w) {t : TypeId} {x : Operand} (hop : o.op = .range t x) (h : evOp C fail kp st.get st.box o k = res) (hne : res ≠ fail) : Ends P C E st a w o kp k res := by
  unfold evOp at h
  simp only [hop] at h
  split at h
  · rename_i s hk ht hx
    have hty : P.underlying t = some .string := by
      obtain ⟨_, _, h5, _⟩ := tk_some hT (t := t) (by rw [hk]; simp)
      rw [hk] at h5
      exact tk_string h5.symm
    have hv := view_str H hx
    exact .of h (next_newObj H (ob := .stringIter ⟨s.toArray⟩ 0) (v := .pointer (some ⟨w.heap.size, 0, none⟩)) (by rw [← alloc_push]; simp [execOp, hop, Instr.range, run_underlying hty, hv, run_newObj]) isTag_iter ht rfl fun R' => .inl ⟨rfl, rfl, s, 0, rfl, rfl⟩)
  · exact absurd h.symm hne

/-- An object of the call's own, told by its rows. -/
theorem objRows_rel (H : Rel C.ty E g st a w) {x : Operand} {e : TypeId} (he : isTag e = true) {u : Nat} {rows : List (List Dat)} (h : objRows st.get x e = some (u, rows)) :
    st.get u = .own e rows ∧ a.eval x = a.tmps.getD u undef ∧ ∃ b ob, w.heap[b]? = some ob ∧ ObjRel C.ty (rdr w g.pub) e rows (a.eval x) b ob := by
  unfold objRows at h
  split at h
  · rename_i u' hu
    obtain ⟨e1, r1, o1, o2, o3⟩ := owner_rel H hu
    rw [o1] at h
    simp only at h
    cases hb : Nat.beq e1 e with
    | false => rw [hb] at h; cases h
    | true =>
      rw [hb, cond_true] at h
      cases h
      have := Nat.eq_of_beq_eq_true hb
      subst this
      refine ⟨o1, o2, ?_⟩
      rcases o3 with ⟨_, hn, _⟩ | ⟨hn, _⟩ | ⟨_, _, b, ob, h2, h3⟩
      · rw [he] at hn; cases hn
      · rw [he] at hn; cases hn
      · exact ⟨b, ob, h2, h3⟩
  · cases h

theorem OneRow.setObj (w : World) (b : Nat) (ob : Obj) : OneRow w { w with heap := w.heap.setIfInBounds b ob } b :=
  ⟨fun b' h => by simp [Array.getElem?_setIfInBounds, Ne.symm h], by simp, rfl, rfl, rfl⟩

theorem next_setObj (H : Rel C.ty E g st a w) {u b : Nat} {e : TypeId} {rows rows' : List (List Dat)} {ob ob' : Obj} {x : Operand} {f : Eff} {y : Value} (hu : st.get u = .own e rows) (hx : a.eval x = a.tmps.getD u undef) (hk : isTag e = true ∧ (C.ty e).kind = .other) (hb : w.heap[b]? = some ob) (hv : ownB (a.eval x) = some b)
    (hf : f = { v := f.v, uw := [(u, .own e rows')] }) (hrun : (execOp a.eval o).run P w = .ok (.value y) { w with heap := w.heap.setIfInBounds b ob' } ∨ ((execOp a.eval o).run P w = .ok .skip { w with heap := w.heap.setIfInBounds b ob' } ∧ y = undef))
    (hob : ObjRel C.ty (rdr w g.pub) e rows' (a.eval x) b ob')
    (hval : VRel C.ty (rdr { w with heap := w.heap.setIfInBounds b ob' } g.pub) g.bl g.ot f.v y) (hno : isOwn f.v = false) (hid : idsOf f.v = []) (hrf : ∀ u, f.v.refs u = false) : Next1 P C.ty E st a w o f := by
  have hlt : b < w.heap.size := by
    rcases Nat.lt_or_ge b w.heap.size with h | h
    · exact h
    · rw [Array.getElem?_eq_none h] at hb; cases hb
  have hheld : Go.Ab.hb g st (.tmp u) = some b := by
    have := H.tm u
    rw [hu] at this
    simp only [Go.Ab.hb, hu, isOwn, if_true]
    rw [this.2, ← hx]; exact hv
  have hR : ∀ b' i v, rdr w g.pub b' i v → rdr { w with heap := w.heap.setIfInBounds b ob' } g.pub b' i v := rdr_mono fun b' hb' => ⟨hb', (OneRow.setObj w b ob').other b' fun e1 => (H.hp _ _ hheld).1 (e1 ▸ hb')⟩
  have N1 := H.writeRow hu (b := b) (by rw [← hx]; exact hv) (e' := e) (r' := rows') (OneRow.setObj w b ob') (.inr (.inr ⟨hk.1, hk.2, b, ob', by simp [hlt], by rw [← hx]; exact hob⟩))
  have goal : dstOk E.n o.dst f.v = true → ∃ g', Rel C.ty E g' (f.app o.dst st) (a.put o.dst y) { w with heap := w.heap.setIfInBounds b ob' } := fun hdst => by
    refine ⟨g, ?_⟩
    have := N1.putDst (x := y) hdst hval hno (fun id h => by rw [hid] at h; cases h) fun u h => by rw [hrf] at h; cases h
    rw [hf]
    exact this
  rcases hrun with hrun | ⟨hrun, hy⟩
  · exact .value hrun goal
  · subst hy; exact .skip hrun goal

theorem ev_next (hT : ∀ t, C.ty t = tyOf P t) (H : Rel C.ty E g st a w) {x : Operand} {q : Bool} (hop : o.op = .next x q) (h : evOp C fail kp st.get st.box o k = res) (hne : res ≠ fail) : Ends P C E st a w o kp k res := by
  cases q with
  | false => unfold evOp at h; simp only [hop] at h; exact absurd h.symm hne
  | true =>
    unfold evOp at h
    simp only [hop] at h
    split at h
    · rename_i u s ik p ho
      obtain ⟨o1, o2, b, ob, o3, o4⟩ := objRows_rel H isTag_iter ho
      have hkk : (C.ty iterTag).kind = .other := by
        have htm := H.tm u
        rw [o1] at htm
        rcases htm.1 with ⟨_, hn, _⟩ | ⟨hn, _⟩ | ⟨_, h2, _⟩
        · exact absurd hn (by rw [isTag_iter]; simp)
        · exact absurd hn (by rw [isTag_iter]; simp)
        · exact h2
      rcases o4 with ⟨_, hv, s', i, hr, rfl⟩ | ⟨t, kt, lt, es, cl, he, _⟩
      rotate_left
      · exact absurd he (by unfold iterTag mapTag; exact fun h => by have h : (1000000 : Nat) = 1000001 + (show Nat from t) := h; omega)
      · simp only [List.cons.injEq, Dat.str.injEq, Dat.int.injEq, and_true] at hr
        obtain ⟨rfl, rfl, rfl⟩ := hr
        have hget : (getObj b).run P w = .ok (.stringIter ⟨s.toArray⟩ i) w := run_getObj o3 (fun _ _ _ h => by cases h)
        have hset := run_setObj (P := P) o3 (fun _ _ _ h => by cases h) (.stringIter ⟨s.toArray⟩ (i + decW s i))
        by_cases hp : (i : Int) < (s.length : Int)
        · rw [decide_eq_true hp, cond_true] at h
          have hp' : i < (⟨s.toArray⟩ : ByteArray).size := by
            show i < s.toArray.size
            simp; omega
          refine .of h (next_setObj H (y := .tuple #[.bool true, .int .i64 i, .int .i32 (decR s i)]) (ob' := .stringIter ⟨s.toArray⟩ (i + decW s i)) o1 o2 ⟨isTag_iter, hkk⟩ o3 (by rw [hv]; rfl) rfl (.inl ?_) (.inl ⟨rfl, hv, s, i + decW s i, by simp, rfl⟩) ?_ rfl rfl fun u => rfl)
          · simp only [decW] at hset
            simp [execOp, hop, hv, Instr.next, hget, hp', hset, decR, decW, goInt]
          · refine ⟨_, rfl, rfl, fun j hj => ?_, fun x hx => ?_⟩
            · have : j = 0 ∨ j = 1 ∨ j = 2 := by simp at hj; omega
              rcases this with rfl | rfl | rfl
              · exact DRep.bool _
              · exact DRep.int _ _
              · exact DRep.int _ _
            · simp at hx
              rcases hx with rfl | rfl | rfl <;> rfl
        · rw [decide_eq_false hp, cond_false] at h
          have hp' : ¬ i < (⟨s.toArray⟩ : ByteArray).size := by
            show ¬ i < s.toArray.size
            simp; omega
          refine .of h (.plain H ⟨rfl, rfl, rfl⟩ (x := .tuple #[.bool false]) (by simp [execOp, hop, hv, Instr.next, hget, hp']) ⟨_, rfl, rfl, fun j hj => ?_, fun x hx => ?_⟩ rfl (fun id h => by cases h) fun u h => by cases h)
          · have : j = 0 := by simpa using hj
            subst this
            exact DRep.bool _
          · simp at hx
            rw [hx]; rfl
    · exact absurd h.symm hne

end Go.Ab
end

section
/-! Panics; all operations but calls. -/
set_option autoImplicit false
set_option linter.unusedVariables false
set_option linter.unusedSimpArgs false
namespace Go.Ab
variable {P : Program} {C : Cfg} {E : Ent} {g : Gh} {st : St} {a : Act} {w : World} {o : Oper} {R : Type} {fail : R} {kp : Dat → R} {k : Eff → R} {res : R}

theorem ev_panic (H : Rel C.ty E g st a w) {x : Operand} (hop : o.op = .panic x) (h : evOp C fail kp st.get st.box o k = res) (hne : res ≠ fail) : Ends P C E st a w o kp k res := by
  unfold evOp at h
  simp only [hop] at h
  obtain ⟨g1, h1, h2, h3, h4, h5, h6⟩ := H.pubAll (pubs st.get x) (pubs_ok st x)
  have key : ∀ v, kp v = res → (∃ t y, a.eval x = .iface t y) → DRep C.ty (rdr w g1.pub) v (a.eval x) → Ends P C E st a w o kp k res := fun v hk ⟨t, y, hev⟩ hd => by
    refine .inr ⟨v, hk, fun K Q hQ => ?_⟩
    have hrun : (execOp a.eval o).run P w = .halt (.panic (a.eval x)) w := by
      rw [hev]
      simp [execOp, hop, hev, Instr.panic]
    unfold Oper.wp
    rw [hrun]
    exact hQ _ _ _ _ H.df h1.fr hd
  split at h
  · rename_i t y hx
    have hv1 := (view_rel H h2 h3 h5 x (fun p hp => hp) (fun u => by rw [hx]; rfl)).1
    rw [hx] at hv1
    split at h
    · rename_i v hv
      obtain ⟨d1, d2⟩ := toD_rel hv1 hv
      obtain ⟨u, hu, _⟩ := hv1
      have d3 := d2 0 (by simp)
      simp only [List.getD_cons_zero] at d3
      refine key v h ⟨t, u, hu⟩ ?_
      rw [hu] at d3 ⊢
      exact d3
    · exact absurd h.symm hne
  · rename_i v hx
    obtain ⟨hi, h⟩ := cond_ends h hne
    have hv1 := (view_rel H h2 h3 h5 x (fun p hp => hp) (fun u => by rw [hx]; rfl)).1
    rw [hx] at hv1
    have d4 : DRep C.ty (rdr w g1.pub) v (a.eval x) := hv1
    refine key v h ?_ d4
    generalize a.eval x = vx at d4
    cases d4 <;> first | exact ⟨_, _, rfl⟩ | (exact absurd hi (by simp [Dat.isIfc]))
  · exact absurd h.symm hne

/-- Is the operation a call of a function's value, or one on a map or another object? -/
def isCall : Op → Bool
  | .call ⟨.value _, _, _⟩ => true
  | .call ⟨.invoke _ _, _, _⟩ => true
  | .makeMap _ _ => true
  | .lookup _ _ _ _ => true
  | .mapUpdate _ _ _ _ => true
  | .insert _ _ _ _ => true
  | .range _ _ => true
  | .next _ _ => true
  | _ => false

/-- All operations but calls. -/
theorem ev_op (hT : ∀ t, C.ty t = tyOf P t) (H : Rel C.ty E g st a w) (hnc : isCall o.op = false) (h : evOp C fail kp st.get st.box o k = res) (hne : res ≠ fail) : Ends P C E st a w o kp k res := by
  have hf : ∀ {z : R}, z = res → z = fail → Ends P C E st a w o kp k res := fun h1 h2 => absurd (h1.symm.trans h2) hne
  cases hop : o.op
  case move x => exact ev_move H hop h hne
  case assign x => exact ev_assign H hop h hne
  case pick c x y => exact ev_pick H hop h hne
  case alloc t => exact ev_alloc hT H hop h hne
  case box t x => exact ev_box H hop h hne
  case build t ps => exact ev_build hT H hop h hne
  case buildSlice t l ps => exact ev_buildSlice hT H hop h hne
  case nilCheck x => exact ev_nilCheck H hop h hne
  case fieldAddr s x f => exact ev_fieldAddr hT H hop h hne
  case load t x => exact ev_load hT H hop h hne
  case store t ad x => exact ev_store hT H hop h hne
  case binOp op t x y yt => exact ev_binOp hT H hop h hne
  case unOp op t x => exact ev_unOp H hop h hne
  case convert s t x => exact ev_convert hT H hop h hne
  case makeInterface t x => exact ev_makeInterface hT H hop h hne
  case makeFunc f first caps =>
    cases f
    case func f => exact ev_makeFunc H hop h hne
    all_goals (refine hf h ?_; unfold evOp; simp only [hop])
  case indexAddr t x i => exact ev_indexAddr hT H hop h hne
  case index t x i => exact ev_index hT H hop h hne
  case slice t x lo hi mx => exact ev_slice hT H hop h hne
  case field s x f => exact ev_field hT H hop h hne
  case extract x i => exact ev_extract H hop h hne
  case typeAssert x xt t ok => exact ev_typeAssert hT H hop h hne
  case panic x => exact ev_panic H hop h hne
  case call c =>
    obtain ⟨callee, args, ats⟩ := c
    cases callee
    case builtin b =>
      refine ev_builtin hT H hop ?_ hne
      rw [← h]
      unfold evOp
      simp only [hop]
    case value f => rw [hop] at hnc; cases hnc
    case invoke r m => rw [hop] at hnc; cases hnc
  all_goals first | (rw [hop] at hnc; cases hnc; done) | (refine hf h ?_; unfold evOp; simp only [hop])

end Go.Ab
end

section
/-! Calls: what is handed on. -/
set_option autoImplicit false
set_option linter.unusedVariables false
set_option linter.unusedSimpArgs false
namespace Go.Ab
variable {P : Program} {C : Cfg} {E : Ent} {g : Gh} {st : St} {a : Act} {w : World} {o : Oper} {R : Type} {fail : R} {kp : Dat → R} {k : Eff → R} {res : R}

/-! ### lists of pairs -/
theorem getA_numbered : ∀ (vs : List AV) (i t : Nat), getA t (numbered i vs) = if i ≤ t ∧ t < i + vs.length then vs.getD (t - i) .undef else .undef
  | [], i, t => by rw [if_neg (by simp only [List.length_nil]; omega)]; rfl
  | v :: vs, i, t => by
    simp only [numbered, getA_cons, getA_numbered vs (i + 1) t, List.length_cons]
    by_cases h : t = i
    · subst h
      rw [if_pos rfl, if_pos (by omega)]; simp
    · rw [if_neg h]
      by_cases h2 : i + 1 ≤ t ∧ t < i + 1 + vs.length
      · rw [if_pos h2, if_pos (by omega)]
        have : t - i = (t - (i + 1)) + 1 := by omega
        rw [this, List.getD_cons_succ]
      · rw [if_neg h2, if_neg (by omega)]

theorem getB_from : ∀ (xs : List (List AV)) (i id : Nat), getB id (boxesFrom i xs) = if i ≤ id ∧ id < i + xs.length then some (xs.getD (id - i) []) else none
  | [], i, t => by rw [if_neg (by simp only [List.length_nil]; omega)]; rfl
  | v :: vs, i, t => by
    simp only [boxesFrom, getB_cons, getB_from vs (i + 1) t, List.length_cons]
    by_cases h : t = i
    · subst h
      rw [if_pos rfl, if_pos (by omega)]; simp
    · rw [if_neg h]
      by_cases h2 : i + 1 ≤ t ∧ t < i + 1 + vs.length
      · rw [if_pos h2, if_pos (by omega)]
        have : t - i = (t - (i + 1)) + 1 := by omega
        rw [this, List.getD_cons_succ]
      · rw [if_neg h2, if_neg (by omega)]

/-- Where a variable stands among those that are handed on. -/
theorem indexIn_some {id : Nat} : ∀ (ids : List Nat) (n i : Nat), indexIn id ids n = some i → n ≤ i ∧ i < n + ids.length ∧ ids.getD (i - n) 0 = id
  | [], n, i, h => by cases h
  | x :: ids, n, i, h => by
    have h' : cond (Nat.beq id x) (some n) (indexIn id ids (n + 1)) = some i := h
    cases hb : Nat.beq id x with
    | true =>
      rw [hb] at h'
      cases h'
      exact ⟨Nat.le_refl _, by simp, by simp [Nat.eq_of_beq_eq_true hb]⟩
    | false =>
      rw [hb] at h'
      obtain ⟨h1, h2, h3⟩ := indexIn_some ids (n + 1) i h'
      refine ⟨by omega, by simp; omega, ?_⟩
      have : i - n = (i - (n + 1)) + 1 := by omega
      rw [this, List.getD_cons_succ]
      exact h3

/-- A cell, its variables numbered anew. -/
theorem renameL_rel {T : Tys} {R' : Rdr} {bl bl' : Nat → Nat} {ids : List Nat} (hbl : ∀ i, i < ids.length → bl' i = bl (ids.getD i 0)) {x : AV} {v : Value} (h : LRel T R' bl x v) : LRel T R' bl' (renameL ids x) v ∧ (∀ id ∈ idL (renameL ids x), id < ids.length) := by
  cases x <;> simp only [renameL]
  case d y => exact ⟨h, fun id hid => by cases hid⟩
  case nils e => exact ⟨toD1_rel (x := .nils e) (bl := bl) h rfl, fun id hid => by cases hid⟩
  case full e r => exact ⟨toD1_rel (x := .full e r) (bl := bl) h rfl, fun id hid => by cases hid⟩
  case ptr id off =>
    cases hi : indexIn id ids 0 with
    | none => exact ⟨LRel.one h, fun id hid => by cases hid⟩
    | some i =>
      obtain ⟨h1, h2, h3⟩ := indexIn_some ids 0 i hi
      simp only [Nat.zero_add, Nat.sub_zero] at h2 h3
      refine ⟨?_, fun id' hid => ?_⟩
      · have h' : v = .pointer (some ⟨bl id, off, none⟩) := h
        show v = .pointer (some ⟨bl' i, off, none⟩)
        rw [hbl i h2, h3]; exact h'
      · have : id' = i := by simpa [idL] using hid
        rw [this]; exact h2
  case dptr e o r => exact ⟨h, fun id hid => by cases hid⟩
  case undef => exact ⟨h, fun id hid => by cases hid⟩
  all_goals exact (h : False).elim

theorem renameLs_rel {T : Tys} {R' : Rdr} {bl bl' : Nat → Nat} {ids : List Nat} (hbl : ∀ i, i < ids.length → bl' i = bl (ids.getD i 0)) {xs : List AV} {vs : Array Value} (h : CsRel T R' bl xs vs) : CsRel T R' bl' (xs.map (renameL ids)) vs ∧ (∀ id ∈ (xs.map (renameL ids)).flatMap idL, id < ids.length) := by
  refine ⟨⟨by simp [h.1], fun j hj => ?_⟩, fun id hid => ?_⟩
  · have hj' : j < xs.length := by simpa using hj
    have := (renameL_rel hbl (h.2 j hj')).1
    have e : (xs.map (renameL ids)).getD j .undef = renameL ids (xs.getD j .undef) := by simp [List.getD_eq_getElem?_getD, hj']
    rw [e]; exact this
  · obtain ⟨c, hc, hid⟩ := List.mem_flatMap.1 hid
    obtain ⟨x, hx, rfl⟩ := List.mem_map.1 hc
    obtain ⟨j, hj, rfl⟩ := List.mem_iff_getElem.1 hx
    have h2 := h.2 j hj
    rw [List.getD_eq_getElem?_getD, List.getElem?_eq_getElem hj, Option.getD_some] at h2
    exact (renameL_rel hbl h2).2 id hid

theorem renameL_leaf (ids : List Nat) (x : AV) (hx : isOwn x = false) : isOwn (renameL ids x) = false ∧ (∀ t, (renameL ids x).refs t = false) ∧ idsOf (renameL ids x) = idL (renameL ids x) := by
  cases x <;> simp only [renameL] <;> first | exact ⟨rfl, fun _ => rfl, rfl⟩ | skip
  case own e r => cases hx
  case ptr id off => split <;> exact ⟨rfl, fun _ => rfl, rfl⟩

/-- A value that is handed on. -/
theorem rename_rel {T : Tys} {R' : Rdr} {bl bl' : Nat → Nat} {ot ot' : Nat → Value} {ids : List Nat} (hbl : ∀ i, i < ids.length → bl' i = bl (ids.getD i 0)) {x : AV} {v : Value} (hn : isOwn x = false) (h : VRel T R' bl ot x v) :
    VRel T R' bl' ot' (rename ids x) v ∧ isOwn (rename ids x) = false ∧ (∀ t, (rename ids x).refs t = false) ∧ (∀ id ∈ idsOf (rename ids x), id < ids.length) := by
  have leaf : ∀ y, LRel T R' bl y v → isOwn y = false → rename ids x = renameL ids y → VRel T R' bl' ot' (rename ids x) v ∧ isOwn (rename ids x) = false ∧ (∀ t, (rename ids x).refs t = false) ∧ (∀ id ∈ idsOf (rename ids x), id < ids.length) := fun y hy hny e => by
    rw [e]
    obtain ⟨h1, h2⟩ := renameL_rel hbl hy
    obtain ⟨h3, h4, h5⟩ := renameL_leaf ids y hny
    exact ⟨(VRel_of_L h1).1, h3, h4, fun id hid => h2 id (by rw [← h5]; exact hid)⟩
  have none_ : rename ids x = .undef → VRel T R' bl' ot' (rename ids x) v ∧ isOwn (rename ids x) = false ∧ (∀ t, (rename ids x).refs t = false) ∧ (∀ id ∈ idsOf (rename ids x), id < ids.length) := fun e => by
    rw [e]
    exact ⟨trivial, rfl, fun _ => rfl, fun id hid => by cases hid⟩
  cases x
  case agg xs =>
    obtain ⟨vs, rfl, h2⟩ := h
    obtain ⟨h3, h4⟩ := renameLs_rel hbl h2
    exact ⟨⟨vs, rfl, h3⟩, rfl, fun _ => rfl, h4⟩
  case fn f xs =>
    obtain ⟨vs, rfl, h2⟩ := h
    obtain ⟨h3, h4⟩ := renameLs_rel hbl h2
    exact ⟨⟨vs, rfl, h3⟩, rfl, fun _ => rfl, h4⟩
  case ifc t x =>
    obtain ⟨u, rfl, h2⟩ := h
    have leaf2 : LRel T R' bl x u → isOwn x = false → rename ids (.ifc t x) = .ifc t (renameL ids x) → (∀ xs, renameL ids x ≠ .agg xs) → VRel T R' bl' ot' (rename ids (.ifc t x)) (.iface t u) ∧ isOwn (rename ids (.ifc t x)) = false ∧ (∀ t', (rename ids (.ifc t x)).refs t' = false) ∧ (∀ id ∈ idsOf (rename ids (.ifc t x)), id < ids.length) := fun hl hno e hag => by
      obtain ⟨h3, h4⟩ := renameL_rel hbl hl
      rw [e]
      refine ⟨⟨u, rfl, ?_⟩, rfl, fun _ => rfl, fun id hid => ?_⟩
      · generalize renameL ids x = y at h3 hag
        cases y <;> first | exact h3 | exact absurd rfl (hag _)
      · refine h4 id ?_
        generalize renameL ids x = y at hid hag
        cases y <;> first | exact hid | exact absurd rfl (hag _)
    cases x
    case agg xs =>
      obtain ⟨vs, rfl, h3⟩ := h2
      obtain ⟨h4, h5⟩ := renameLs_rel hbl h3
      exact ⟨⟨_, rfl, vs, rfl, h4⟩, rfl, fun _ => rfl, h5⟩
    case ptr id off => exact leaf2 h2 rfl rfl fun xs => by simp only [renameL]; split <;> simp
    case d y => exact leaf2 h2 rfl rfl fun xs => by simp [renameL]
    case nils e => exact leaf2 h2 rfl rfl fun xs => by simp [renameL]
    case full e r => exact leaf2 h2 rfl rfl fun xs => by simp [renameL]
    case dptr e o' r => exact leaf2 h2 rfl rfl fun xs => by simp [renameL]
    case undef => exact leaf2 h2 rfl rfl fun xs => by simp [renameL]
    all_goals exact (h2 : False).elim
  case d y => exact leaf (.d y) h rfl rfl
  case nils e => exact leaf (.nils e) h rfl rfl
  case full e r => exact leaf (.full e r) h rfl rfl
  case ptr id off => exact leaf (.ptr id off) h rfl rfl
  case dptr e o' r => exact leaf (.dptr e o' r) h rfl rfl
  case own e r => cases hn
  all_goals exact none_ rfl

/-! ### the callee's begin -/
/-- What a call may write. -/
def Handed (g : Gh) (st : St) (ids : List Nat) (b : Nat) : Prop :=
  (∃ id, id ∈ ids ∧ hb g st (.box id) = some b) ∨ (∃ id off, id ∈ ids ∧ hb g st (.cell id off) = some b)

def subE (w : World) (g : Gh) (st : St) (ids : List Nat) (n : Nat) : Ent :=
  { w0 := w, pub0 := g.pub, W := Handed g st ids, nx := ids.length, xb := fun i => g.bl (ids.getD i 0), n := n }

def subG (g : Gh) (ids : List Nat) : Gh :=
  { pub := g.pub, bl := fun i => g.bl (ids.getD i 0), ot := fun _ => undef, oc := fun i j => g.oc (ids.getD i 0) j }

noncomputable def subXs (st : St) (ids : List Nat) : List (List AV) := (ids.map fun id => (st.box id).getD []).map (renames ids)

noncomputable def subSt (st : St) (ids : List Nat) (args : List AV) : St := ⟨numbered 0 (renames ids args), boxesFrom 0 (subXs st ids)⟩

def subA (vals : Array Value) (n : Nat) : Act := { tmps := vals ++ Array.replicate (n - vals.size) undef, defers := [] }

theorem subSt_box (st : St) (ids : List Nat) (args : List AV) (i : Nat) : (subSt st ids args).box i = if i < ids.length then some (renames ids ((st.box (ids.getD i 0)).getD [])) else none := by
  show getB i (boxesFrom 0 (subXs st ids)) = _
  rw [getB_from]
  simp only [subXs, List.length_map, Nat.zero_le, true_and, Nat.zero_add, Nat.sub_zero]
  by_cases h : i < ids.length
  · rw [if_pos h, if_pos h]
    simp [List.getD_eq_getElem?_getD, h]
  · rw [if_neg h, if_neg h]

theorem subSt_get (st : St) (ids : List Nat) (args : List AV) (t : Nat) : (subSt st ids args).get t = if t < args.length then rename ids (args.getD t .undef) else .undef := by
  show getA t (numbered 0 (renames ids args)) = _
  rw [getA_numbered]
  simp only [renames, List.length_map, Nat.zero_le, true_and, Nat.zero_add, Nat.sub_zero]
  by_cases h : t < args.length
  · rw [if_pos h, if_pos h]
    simp [List.getD_eq_getElem?_getD, h]
  · rw [if_neg h, if_neg h]

theorem subSt_cell (st : St) (ids : List Nat) (args : List AV) (i off : Nat) : cellAt (subSt st ids args) i off = if i < ids.length then rename ids (cellAt st (ids.getD i 0) off) else .undef := by
  unfold cellAt
  rw [subSt_box]
  by_cases h : i < ids.length
  · rw [if_pos h, if_pos h]
    simp only [Option.getD_some, renames, List.getD_eq_getElem?_getD, List.getElem?_map]
    cases ((st.box (ids[i]?.getD 0)).getD [])[off]? <;> rfl
  · rw [if_neg h, if_neg h]; rfl

/-- A variable's cell, handed on. -/
theorem rename_cell {T : Tys} {ids : List Nat} {id i off : Nat} (hid : ids.getD i 0 = id) {x : AV} {v : Value} (h : CRel T w g id off x v) :
    CRel T w (subG g ids) i off (rename ids x) v ∧ isOwn (rename ids x) = isOwn x ∧ (∀ j ∈ idL (rename ids x), j < ids.length) := by
  by_cases hx : isOwn x = true
  · obtain ⟨e, r, rfl⟩ := isOwn_eq hx
    refine ⟨⟨h.1, ?_⟩, rfl, fun j hj => by cases hj⟩
    show g.oc (ids.getD i 0) off = v
    rw [hid]
    exact h.2
  · have hx' : isOwn x = false := by simpa using hx
    have hl := LRel_of_CRel hx' h
    obtain ⟨h1, h2⟩ := renameL_rel (bl' := (subG g ids).bl) (ids := ids) (fun i _ => rfl) hl
    have e : rename ids x = renameL ids x := by cases x <;> first | rfl | exact (hl : False).elim
    rw [e, (renameL_leaf ids x hx').1, hx']
    exact ⟨CRel_of_LRel h1, rfl, h2⟩

theorem rename_own (ids : List Nat) (x : AV) (h : isOwn (rename ids x) = true) : isOwn x = true := by
  cases x <;> first | rfl | (simp [rename, renameL, isOwn] at h; done) | skip
  case ptr id off =>
    simp only [rename, renameL] at h
    split at h <;> cases h
  case ifc t x =>
    cases x <;> simp [rename, isOwn] at h

theorem hb_sub {T : Tys} (H : Rel T E g st a w) {ids : List Nat} (his : ∀ id ∈ ids, (st.box id).isSome = true) {args : List AV} (hno : ∀ x ∈ args, isOwn x = false) {n : Nat} (h : Hd) (b : Nat) (hh : hb (subG g ids) (subSt st ids args) h = some b) :
    (∃ i, h = .box i ∧ i < ids.length ∧ hb g st (.box (ids.getD i 0)) = some b) ∨ (∃ i off, h = .cell i off ∧ i < ids.length ∧ hb g st (.cell (ids.getD i 0) off) = some b) := by
  cases h <;> simp only [hb] at hh
  case tmp t =>
    split at hh
    · rename_i h1
      rw [subSt_get] at h1
      split at h1
      · rename_i h2
        have := rename_own _ _ h1
        rw [hno _ (mem_of_getD h2)] at this
        cases this
      · cases h1
    · cases hh
  case box i =>
    rw [subSt_box] at hh
    by_cases hi : i < ids.length
    · left
      rw [if_pos hi] at hh
      refine ⟨i, rfl, hi, ?_⟩
      simp only [hb, his _ (mem_of_getD hi), if_true]
      simpa [subG] using hh
    · rw [if_neg hi] at hh; cases hh
  case cell i off =>
    rw [subSt_cell] at hh
    by_cases hi : i < ids.length
    · right
      rw [if_pos hi] at hh
      split at hh
      · rename_i h1
        refine ⟨i, off, rfl, hi, ?_⟩
        simp only [hb, rename_own _ _ h1, if_true]
        exact hh
      · cases hh
    · rw [if_neg hi] at hh; cases hh

/-- The callee's begin: what is handed on stands as the callee sees it. -/
theorem Rel.sub {T : Tys} (H : Rel T E g st a w) {ids : List Nat} (hnd : ids.Nodup) (his : ∀ id ∈ ids, (st.box id).isSome = true) {args : List AV} {vals : Array Value} {n : Nat}
    (hl : args.length = vals.size) (hle : vals.size ≤ n) (hno : ∀ x ∈ args, isOwn x = false) (hv : ∀ i, i < args.length → VRel T (rdr w g.pub) g.bl g.ot (args.getD i .undef) (vals.getD i undef)) :
    Rel T (subE w g st ids n) (subG g ids) (subSt st ids args) (subA vals n) w := by
  have hinj : ∀ i j, i < ids.length → j < ids.length → ids.getD i 0 = ids.getD j 0 → i = j := fun i j hi hj e => by
    rw [List.getD_eq_getElem?_getD, List.getD_eq_getElem?_getD, List.getElem?_eq_getElem hi, List.getElem?_eq_getElem hj] at e
    exact (List.getElem_inj hnd).1 (by simpa using e)
  have harg : ∀ i, i < args.length → VRel T (rdr w g.pub) (subG g ids).bl (subG g ids).ot (rename ids (args.getD i .undef)) (vals.getD i undef) ∧ isOwn (rename ids (args.getD i .undef)) = false ∧ (∀ t, (rename ids (args.getD i .undef)).refs t = false) ∧ (∀ id ∈ idsOf (rename ids (args.getD i .undef)), id < ids.length) := fun i hi =>
    rename_rel (fun i _ => rfl) (hno _ (mem_of_getD hi)) (hv i hi)
  have hsome : ∀ i, i < ids.length → ((subSt st ids args).box i).isSome = true := fun i hi => by rw [subSt_box, if_pos hi]; rfl
  have hW : ∀ h b, hb (subG g ids) (subSt st ids args) h = some b → ∃ h', hb g st h' = some b ∧ Handed g st ids b := fun h b hh => by
    rcases hb_sub H his hno (n := n) h b hh with ⟨i, _, hi, h1⟩ | ⟨i, off, _, hi, h1⟩
    · exact ⟨_, h1, .inl ⟨_, mem_of_getD hi, h1⟩⟩
    · exact ⟨_, h1, .inr ⟨_, off, mem_of_getD hi, h1⟩⟩
  refine ⟨fun t => ?_, fun i cs hi => ?_, fun h h' b h1 h2 => ?_, fun h b h1 => ?_, fun b h1 => ⟨(H.pb b h1).1, fun _ => .inl h1⟩, fun b h1 => h1, fun b _ _ => rfl, ⟨rfl, rfl, rfl⟩, Nat.le_refl _, fun t u h1 => ?_, fun t id h1 => ?_, fun i off id' h1 => ?_, fun i hi => ⟨hsome i hi, rfl⟩, rfl, ?_⟩
  · rw [subSt_get]
    by_cases ht : t < args.length
    · rw [if_pos ht]
      obtain ⟨h1, h2, _⟩ := harg t ht
      have e : (subA vals n).tmps.getD t undef = vals.getD t undef := by
        have ht' : t < vals.size := by omega
        simp [subA, Array.getD_eq_getD_getElem?, Array.getElem?_append, ht']
      rw [e]
      exact TRel_of_VRel h2 h1
    · rw [if_neg ht]; exact TRel_undef
  · rw [subSt_box] at hi
    by_cases hil : i < ids.length
    · rw [if_pos hil] at hi
      cases hi
      have hs := his _ (mem_of_getD (d := 0) hil)
      obtain ⟨cs, hcs⟩ := Option.isSome_iff_exists.1 hs
      obtain ⟨cur, ty, fr, h1, h2, h3, h4⟩ := H.bx _ cs hcs
      rw [hcs]
      refine ⟨cur, ty, fr, h1, by simp [renames, h2], h3, fun j hj => ?_⟩
      have hj' : j < cs.length := by simpa [renames] using hj
      have := (rename_cell (ids := ids) (i := i) rfl (h4 j hj')).1
      have e : (renames ids ((some cs).getD [])).getD j .undef = rename ids (cs.getD j .undef) := by simp [renames, List.getD_eq_getElem?_getD, hj']
      rw [e]
      exact this
    · rw [if_neg hil] at hi; cases hi
  · rcases hb_sub H his hno (n := n) h b h1 with ⟨i, rfl, hi, h3⟩ | ⟨i, off, rfl, hi, h3⟩ <;> rcases hb_sub H his hno (n := n) h' b h2 with ⟨j, rfl, hj, h4⟩ | ⟨j, off', rfl, hj, h4⟩
    · have := H.ex _ _ _ h3 h4
      injection this with this
      rw [hinj i j hi hj this]
    · have := H.ex _ _ _ h3 h4
      cases this
    · have := H.ex _ _ _ h3 h4
      cases this
    · have := H.ex _ _ _ h3 h4
      injection this with h5 h6
      rw [hinj i j hi hj h5, h6]
  · obtain ⟨h', h2, h3⟩ := hW h b h1
    obtain ⟨h4, h5, h6⟩ := H.hp h' b h2
    exact ⟨h4, h5, .inr h3⟩
  · rw [subSt_get] at h1
    split at h1
    · rename_i ht; rw [(harg t ht).2.2.1] at h1; cases h1
    · cases h1
  · rw [subSt_get] at h1
    split at h1
    · rename_i ht; exact hsome _ ((harg t ht).2.2.2 id h1)
    · cases h1
  · rw [subSt_cell] at h1
    split at h1
    · rename_i hi
      have hs := his _ (mem_of_getD (d := 0) hi)
      obtain ⟨cs, hcs⟩ := Option.isSome_iff_exists.1 hs
      have hc : cellAt st (ids.getD i 0) off = cs.getD off .undef := by unfold cellAt; rw [hcs]; rfl
      rw [hc] at h1
      by_cases ho : off < cs.length
      · obtain ⟨cur, ty, fr, q1, q2, q3, q4⟩ := H.bx _ cs hcs
        exact hsome _ ((rename_cell (ids := ids) (i := i) rfl (q4 off ho)).2.2 id' h1)
      · rw [List.getD_eq_getElem?_getD, List.getElem?_eq_none (Nat.le_of_not_lt ho)] at h1
        cases h1
    · cases h1
  · show (subA vals n).tmps.size = n
    simp [subA]; omega

end Go.Ab
end

section
/-! Calls: what comes back. -/
set_option autoImplicit false
set_option linter.unusedVariables false
set_option linter.unusedSimpArgs false
namespace Go.Ab
variable {P : Program} {C : Cfg} {E : Ent} {g : Gh} {st : St} {a : Act} {w : World} {o : Oper} {R : Type} {fail : R} {kp : Dat → R} {k : Eff → R} {res : R}

/-- A cell that comes back (z: as the caller sees it; y: as the callee sees it). -/
def Back (ids : List Nat) (z y : AV) : Prop :=
  (idL y = [] ∧ z = y) ∨ ∃ i off, y = .ptr i off ∧ z = .ptr (ids.getD i 0) off ∧ i < ids.length

noncomputable def endSt (rv : AV) (ys : List (List AV)) : St := ⟨[(0, rv)], boxesFrom 0 ys⟩

theorem endSt_get (rv : AV) (ys : List (List AV)) (t : Nat) : (endSt rv ys).get t = if t = 0 then rv else .undef := getA_cons t 0 rv []
theorem endSt_box (rv : AV) (ys : List (List AV)) (i : Nat) : (endSt rv ys).box i = if i < ys.length then some (ys.getD i []) else none := by
  show getB i (boxesFrom 0 ys) = _
  rw [getB_from]
  simp

/-- What is held after the call. -/
noncomputable def afterG (g g' : Gh) (ids : List Nat) : Gh :=
  { pub := g'.pub, bl := g.bl, ot := g.ot, oc := fun id off => match indexIn id ids 0 with | some i => g'.oc i off | none => g.oc id off }

theorem indexIn_mem {id : Nat} : ∀ (ids : List Nat) (n : Nat), id ∈ ids → ∃ i, indexIn id ids n = some i
  | x :: ids, n, h => by
    show ∃ i, cond (Nat.beq id x) (some n) (indexIn id ids (n + 1)) = some i
    cases hb : Nat.beq id x with
    | true => exact ⟨n, rfl⟩
    | false =>
      rcases List.mem_cons.1 h with rfl | h
      · rw [Nat.beq_refl] at hb; cases hb
      · exact indexIn_mem ids (n + 1) h
theorem indexIn_none {id : Nat} : ∀ (ids : List Nat) (n : Nat), id ∉ ids → indexIn id ids n = none
  | [], n, h => rfl
  | x :: ids, n, h => by
    show cond (Nat.beq id x) (some n) (indexIn id ids (n + 1)) = none
    rw [nbeq_false (fun e => h (by rw [e]; exact List.mem_cons_self)), cond_false]
    exact indexIn_none ids (n + 1) fun h' => h (List.mem_cons_of_mem _ h')

theorem Rel.glue {T : Tys} (H : Rel T E g st a w) {ids : List Nat} (hnd : ids.Nodup) (his : ∀ id ∈ ids, (st.box id).isSome = true) {n : Nat} {rv : AV} {ys zs : List (List AV)} {g' : Gh} {aE : Act} {w' : World}
    (K : Rel T { subE w g st ids n with n := 1 } g' (endSt rv ys) aE w') (hy : ys.length = ids.length) (hrv : rv = .undef ∨ isOwn rv = true)
    (hz : ∀ i, i < ids.length → (zs.getD i []).length = (ys.getD i []).length ∧ ∀ j, j < (ys.getD i []).length → Back ids ((zs.getD i []).getD j .undef) ((ys.getD i []).getD j .undef))
    {st' : St} (hg : ∀ t, st'.get t = st.get t) (hb1 : ∀ i, i < ids.length → st'.box (ids.getD i 0) = some (zs.getD i [])) (hb2 : ∀ id, id ∉ ids → st'.box id = st.box id) :
    Rel T E (afterG g g' ids) st' a w' ∧ (∀ b, g.pub b → g'.pub b) ∧ (∀ b i v, rdr w g.pub b i v → rdr w' g'.pub b i v) ∧ (∀ b, hb g' (endSt rv ys) (.tmp 0) = some b → Free E (afterG g g' ids) st' w' b) := by
  have hinj : ∀ i j, i < ids.length → j < ids.length → ids.getD i 0 = ids.getD j 0 → i = j := fun i j hi hj e => by
    rw [List.getD_eq_getElem?_getD, List.getD_eq_getElem?_getD, List.getElem?_eq_getElem hi, List.getElem?_eq_getElem hj] at e
    exact (List.getElem_inj hnd).1 (by simpa using e)
  have hidx : ∀ id, id ∈ ids → ∃ i, i < ids.length ∧ ids.getD i 0 = id ∧ indexIn id ids 0 = some i := fun id hid => by
    obtain ⟨i, hi⟩ := indexIn_mem ids 0 hid
    obtain ⟨h1, h2, h3⟩ := indexIn_some ids 0 i hi
    exact ⟨i, by omega, by simpa using h3, hi⟩
  have hH : ∀ b, Handed g st ids b → ∃ h, hb g st h = some b ∧ ((∃ id, id ∈ ids ∧ h = .box id) ∨ ∃ id off, id ∈ ids ∧ h = .cell id off) := fun b h => by
    rcases h with ⟨id, h1, h2⟩ | ⟨id, off, h1, h2⟩
    · exact ⟨_, h2, .inl ⟨id, h1, rfl⟩⟩
    · exact ⟨_, h2, .inr ⟨id, off, h1, rfl⟩⟩
  -- what the caller holds that was not handed on
  have hold : ∀ h b, hb g st h = some b → (∀ id, id ∈ ids → h ≠ .box id) → (∀ id off, id ∈ ids → h ≠ .cell id off) → ¬ Handed g st ids b := fun h b h1 h2 h3 h4 => by
    obtain ⟨h', h5, h6⟩ := hH b h4
    have := H.ex _ _ _ h1 h5
    subst this
    rcases h6 with ⟨id, q1, q2⟩ | ⟨id, off, q1, q2⟩
    · exact h2 id q1 q2
    · exact h3 id off q1 q2
  have hsame : ∀ b, b < w.heap.size → ¬ Handed g st ids b → w'.heap[b]? = w.heap[b]? := fun b h1 h2 => K.keep b h1 h2
  have hpubH : ∀ b, g.pub b → ¬ Handed g st ids b := fun b h1 h2 => by
    obtain ⟨h', h5, _⟩ := hH b h2
    exact (H.hp _ _ h5).1 h1
  have hR : ∀ b i v, rdr w g.pub b i v → rdr w' g'.pub b i v := rdr_mono fun b hb => ⟨K.p0 b hb, hsame b (H.pb b hb).1 (hpubH b hb)⟩
  have hbsome : ∀ id, (st.box id).isSome = true → (st'.box id).isSome = true := fun id h => by
    by_cases hid : id ∈ ids
    · obtain ⟨i, h1, h2, _⟩ := hidx id hid
      rw [← h2, hb1 i h1]; rfl
    · rw [hb2 id hid]; exact h
  have hoc1 : ∀ i off, i < ids.length → (afterG g g' ids).oc (ids.getD i 0) off = g'.oc i off := fun i off hi => by
    obtain ⟨j, h1, h2, h3⟩ := hidx _ (mem_of_getD (d := 0) hi)
    have := hinj j i h1 hi h2
    subst this
    simp only [afterG, h3]
  have hoc2 : ∀ id off, id ∉ ids → (afterG g g' ids).oc id off = g.oc id off := fun id off hid => by simp only [afterG, indexIn_none ids 0 hid]
  have hbl : ∀ i, i < ids.length → g'.bl i = g.bl (ids.getD i 0) := fun i hi => (K.xt i hi).2
  have hbE : ∀ i, i < ids.length → (endSt rv ys).box i = some (ys.getD i []) := fun i hi => by rw [endSt_box, if_pos (by omega)]
  have hownZ : ∀ i j, i < ids.length → isOwn ((zs.getD i []).getD j .undef) = true → isOwn ((ys.getD i []).getD j .undef) = true := fun i j hi ho => by
    obtain ⟨z1, z2⟩ := hz i hi
    by_cases hj : j < (ys.getD i []).length
    · rcases z2 j hj with ⟨_, h2⟩ | ⟨i', off, _, h2, _⟩
      · rw [← h2]; exact ho
      · rw [h2] at ho; cases ho
    · rw [List.getD_eq_getElem?_getD, List.getElem?_eq_none (by omega)] at ho
      cases ho
  -- who holds what, now
  have hhb : ∀ h b, hb (afterG g g' ids) st' h = some b → (hb g st h = some b ∧ (∀ id, id ∈ ids → h ≠ .box id) ∧ (∀ id off, id ∈ ids → h ≠ .cell id off)) ∨
      (∃ h', hb g' (endSt rv ys) h' = some b ∧ ((∃ i, i < ids.length ∧ h' = .box i ∧ h = .box (ids.getD i 0)) ∨ ∃ i off, i < ids.length ∧ h' = .cell i off ∧ h = .cell (ids.getD i 0) off)) := fun h b h1 => by
    cases h <;> simp only [hb] at h1
    case tmp t =>
      left
      rw [hg] at h1
      exact ⟨h1, (fun _ _ h => by cases h), (fun _ _ _ h => by cases h)⟩
    case box id =>
      by_cases hid : id ∈ ids
      · right
        obtain ⟨i, q1, q2, q3⟩ := hidx id hid
        subst q2
        rw [hb1 i q1] at h1
        refine ⟨.box i, ?_, .inl ⟨i, q1, rfl, rfl⟩⟩
        simp only [hb, hbE i q1]
        rw [hbl i q1]
        exact h1
      · left
        rw [hb2 id hid] at h1
        refine ⟨h1, fun id' h2 h3 => ?_, fun _ _ _ h => by cases h⟩
        injection h3 with h3
        exact hid (h3 ▸ h2)
    case cell id off =>
      by_cases hid : id ∈ ids
      · right
        obtain ⟨i, q1, q2, q3⟩ := hidx id hid
        subst q2
        have hc : cellAt st' (ids.getD i 0) off = (zs.getD i []).getD off .undef := by unfold cellAt; rw [hb1 i q1]; rfl
        rw [hc] at h1
        split at h1
        · rename_i ho
          refine ⟨.cell i off, ?_, .inr ⟨i, off, q1, rfl, rfl⟩⟩
          have hc' : cellAt (endSt rv ys) i off = (ys.getD i []).getD off .undef := by unfold cellAt; rw [hbE i q1]; rfl
          simp only [hb, hc', hownZ i off q1 ho, if_true]
          rw [← hoc1 i off q1]
          exact h1
        · cases h1
      · left
        have hc : cellAt st' id off = cellAt st id off := by unfold cellAt; rw [hb2 id hid]
        rw [hc, hoc2 id off hid] at h1
        refine ⟨h1, (fun _ _ h => by cases h), fun id' off' h2 h3 => ?_⟩
        injection h3 with h3 h4
        exact hid (h3 ▸ h2)
  have hnew : ∀ h b, hb g' (endSt rv ys) h = some b → w.heap.size ≤ b ∨ Handed g st ids b := fun h b h1 => (K.hp h b h1).2.2
  have hsz := K.sz
  have hsz' : w.heap.size ≤ w'.heap.size := hsz
  have hHE : ∀ b, Handed g st ids b → E.w0.heap.size ≤ b ∨ E.W b := fun b h => by
    obtain ⟨h', h5, _⟩ := hH b h
    exact (H.hp _ _ h5).2.2
  refine ⟨⟨fun t => ?_, fun id cs hid1 => ?_, fun h h' b h1 h2 => ?_, fun h b h1 => ?_, fun b h1 => ?_, fun b h1 => K.p0 b (H.p0 b h1), fun b h1 h2 => ?_, ?_, Nat.le_trans H.sz hsz', fun t u h1 => ?_, fun t id h1 => ?_, fun id off id' h1 => ?_, fun i hi => ⟨hbsome i (H.xt i hi).1, (H.xt i hi).2⟩, H.df, H.ns⟩, K.p0, hR, fun b h1 => ?_⟩
  · rw [hg]
    have htm := H.tm t
    by_cases hx : isOwn (st.get t) = true
    · obtain ⟨e, r, he⟩ := isOwn_eq hx
      rw [he] at htm ⊢
      refine ⟨htm.1.mono hR fun b hb1 => ?_, htm.2⟩
      have hh : hb g st (.tmp t) = some b := by simp only [hb, hx, if_true, htm.2]; exact hb1
      exact hsame b (H.hp _ _ hh).2.1 (hold _ _ hh (fun _ _ h => by cases h) fun _ _ _ h => by cases h)
    · have hx' : isOwn (st.get t) = false := by simpa using hx
      have := (VRel_of_TRel hx' htm).mono (R' := rdr w' g'.pub) (bl' := g.bl) (ot' := g.ot) hR (fun _ _ => rfl) fun _ _ => rfl
      exact TRel_of_VRel (g := afterG g g' ids) hx' this
  · by_cases hid : id ∈ ids
    · obtain ⟨i, q1, q2, q3⟩ := hidx id hid
      subst q2
      rw [hb1 i q1] at hid1
      cases hid1
      obtain ⟨cur, ty, fr, k1, k2, k3, k4⟩ := K.bx i _ (hbE i q1)
      obtain ⟨z1, z2⟩ := hz i q1
      refine ⟨cur, ty, fr, by rw [show (afterG g g' ids).bl (ids.getD i 0) = g'.bl i from (hbl i q1).symm]; exact k1, by omega, k3, fun j hj => ?_⟩
      have hj' : j < (ys.getD i []).length := by omega
      have hc := k4 j hj'
      rcases z2 j hj' with ⟨e1, e2⟩ | ⟨i', off, e1, e2, e3⟩
      · rw [e2]
        by_cases hx : isOwn ((ys.getD i []).getD j .undef) = true
        · obtain ⟨e, r, he⟩ := isOwn_eq hx
          rw [he] at hc ⊢
          exact ⟨hc.1, by rw [hoc1 i j q1]; exact hc.2⟩
        · have hx' : isOwn ((ys.getD i []).getD j .undef) = false := by simpa using hx
          have := (LRel_of_CRel hx' hc).mono (bl' := g.bl) (fun _ _ _ h => h) (fun id hid => by rw [e1] at hid; cases hid)
          exact CRel_of_LRel (g := afterG g g' ids) this
      · rw [e2]
        rw [e1] at hc
        have hc' : cur.getD j undef = .pointer (some ⟨g'.bl i', off, none⟩) := hc
        show cur.getD j undef = .pointer (some ⟨g.bl (ids.getD i' 0), off, none⟩)
        rw [hc', hbl i' e3]
    · rw [hb2 id hid] at hid1
      obtain ⟨cur, ty, fr, k1, k2, k3, k4⟩ := H.bx id cs hid1
      have hh : hb g st (.box id) = some (g.bl id) := by simp [hb, hid1]
      refine ⟨cur, ty, fr, ?_, k2, k3, fun j hj => ?_⟩
      · show w'.heap[g.bl id]? = _
        rw [hsame _ (H.hp _ _ hh).2.1 (hold _ _ hh (fun id' h2 h3 => by injection h3 with h3; exact hid (h3 ▸ h2)) fun _ _ _ h => by cases h)]
        exact k1
      · have hc := k4 j hj
        by_cases hx : isOwn (cs.getD j .undef) = true
        · obtain ⟨e, r, he⟩ := isOwn_eq hx
          have hcell : hb g st (.cell id j) = ownB (g.oc id j) := by simp only [hb, cellAt, hid1, Option.getD_some, hx, if_true]
          rw [he] at hc ⊢
          refine ⟨hc.1.mono hR fun b hb3 => ?_, by rw [hoc2 id j hid]; exact hc.2⟩
          have hh2 : hb g st (.cell id j) = some b := by rw [hcell, hc.2]; exact hb3
          exact hsame b (H.hp _ _ hh2).2.1 (hold _ _ hh2 (fun _ _ h => by cases h) fun id' off' h2 h3 => by injection h3 with h3 h4; exact hid (h3 ▸ h2))
        · have hx' : isOwn (cs.getD j .undef) = false := by simpa using hx
          have := (LRel_of_CRel hx' hc).mono (R' := rdr w' g'.pub) (bl' := g.bl) hR fun _ _ => rfl
          exact CRel_of_LRel (g := afterG g g' ids) this
  · rcases hhb h b h1 with ⟨p1, p2, p3⟩ | ⟨h3, p1, p2⟩ <;> rcases hhb h' b h2 with ⟨r1, r2, r3⟩ | ⟨h4, r1, r2⟩
    · exact H.ex _ _ _ p1 r1
    · exact absurd ((hnew _ _ r1).resolve_left (Nat.not_le_of_lt (H.hp _ _ p1).2.1)) (hold _ _ p1 p2 p3)
    · exact absurd ((hnew _ _ p1).resolve_left (Nat.not_le_of_lt (H.hp _ _ r1).2.1)) (hold _ _ r1 r2 r3)
    · have := K.ex _ _ _ p1 r1
      subst this
      rcases p2 with ⟨i, i1, i2, i3⟩ | ⟨i, off, i1, i2, i3⟩ <;> rcases r2 with ⟨j, j1, j2, j3⟩ | ⟨j, off', j1, j2, j3⟩
      · rw [i2] at j2; injection j2 with j2; rw [i3, j3, j2]
      · rw [i2] at j2; cases j2
      · rw [i2] at j2; cases j2
      · rw [i2] at j2; injection j2 with j2 j4; rw [i3, j3, j2, j4]
  · rcases hhb h b h1 with ⟨p1, p2, p3⟩ | ⟨h3, p1, p2⟩
    · obtain ⟨q1, q2, q3⟩ := H.hp _ _ p1
      refine ⟨fun h => ?_, Nat.lt_of_lt_of_le q2 hsz', q3⟩
      rcases (K.pb b h).2 q2 with h4 | h4
      · exact q1 h4
      · exact hold _ _ p1 p2 p3 h4
    · obtain ⟨q1, q2, q3⟩ := K.hp _ _ p1
      refine ⟨q1, q2, ?_⟩
      rcases q3 with q3 | q3
      · exact .inl (Nat.le_trans H.sz q3)
      · exact hHE b q3
  · obtain ⟨q1, q2⟩ := K.pb b h1
    refine ⟨q1, fun h2 => ?_⟩
    rcases q2 (Nat.lt_of_lt_of_le h2 H.sz) with h3 | h3
    · exact (H.pb b h3).2 h2
    · rcases hHE b h3 with h4 | h4
      · omega
      · exact .inr h4
  · rw [hsame b (Nat.lt_of_lt_of_le h1 H.sz) fun h3 => ?_]
    · exact H.keep b h1 h2
    · rcases hHE b h3 with h4 | h4
      · omega
      · exact h2 h4
  · have := K.wo
    exact ⟨this.1.trans H.wo.1, this.2.1.trans H.wo.2.1, this.2.2.trans H.wo.2.2⟩
  · rw [hg] at h1 ⊢; exact H.al t u h1
  · rw [hg] at h1; exact hbsome id (H.pr t id h1)
  · by_cases hid : id ∈ ids
    · obtain ⟨i, q1, q2, q3⟩ := hidx id hid
      subst q2
      have hc : cellAt st' (ids.getD i 0) off = (zs.getD i []).getD off .undef := by unfold cellAt; rw [hb1 i q1]; rfl
      rw [hc] at h1
      obtain ⟨z1, z2⟩ := hz i q1
      by_cases hj : off < (ys.getD i []).length
      · rcases z2 off hj with ⟨e1, e2⟩ | ⟨i', off', e1, e2, e3⟩
        · rw [e2, e1] at h1; cases h1
        · rw [e2] at h1
          have : id' = ids.getD i' 0 := by simpa [idL] using h1
          rw [this, hb1 i' e3]; rfl
      · rw [List.getD_eq_getElem?_getD, List.getElem?_eq_none (by omega)] at h1
        cases h1
    · have hc : cellAt st' id off = cellAt st id off := by unfold cellAt; rw [hb2 id hid]
      rw [hc] at h1
      exact hbsome id' (H.prb id off id' h1)
  · obtain ⟨q1, q2, q3⟩ := K.hp _ _ h1
    refine ⟨fun h h2 => ?_, q1, q2, ?_⟩
    · rcases hhb h b h2 with ⟨p1, p2, p3⟩ | ⟨h3, p1, p2⟩
      · exact absurd ((hnew _ _ h1).resolve_left (Nat.not_le_of_lt (H.hp _ _ p1).2.1)) (hold _ _ p1 p2 p3)
      · have := K.ex _ _ _ p1 h1
        rcases p2 with ⟨i, i1, i2, i3⟩ | ⟨i, off, i1, i2, i3⟩
        · rw [i2] at this; cases this
        · rw [i2] at this; cases this
    · rcases q3 with q3 | q3
      · exact .inl (Nat.le_trans H.sz q3)
      · exact hHE b q3

end Go.Ab
end

section
/-! Calls: contracts. -/
set_option autoImplicit false
set_option linter.unusedVariables false
set_option linter.unusedSimpArgs false
namespace Go.Ab
variable {P : Program} {C : Cfg} {E : Ent} {g : Gh} {st : St} {a : Act} {w : World} {o : Oper} {R : Type} {fail : R} {kp : Dat → R} {k : Eff → R} {res : R}

/-- A result of a type. -/
def TV (T : Tys) (R' : Rdr) (t : TypeId) (rs : List Dat) (v : Value) : Prop :=
  rs.length = (T t).cells.length ∧ v.cells.size = rs.length ∧ (∀ j, j < rs.length → DRep T R' (rs.getD j .nilP) (v.cells.getD j undef) ∧ WT (T ((T t).cells.getD j 0)).kind (rs.getD j .nilP)) ∧
    (((T t).kind.isAgg = true ∧ ∃ cs, v = .agg cs) ∨ ((T t).kind.isAgg = false ∧ one1 v = true))

def TVs (T : Tys) (R' : Rdr) : List TypeId → Nat → List Dat → List Value → Prop
  | [], _, _, [] => True
  | t :: ts, j, rs, v :: vs => TV T R' t ((rs.drop j).take (T t).cells.length) v ∧ TVs T R' ts (j + (T t).cells.length) rs vs
  | _, _, _, _ => False

def ResRel (T : Tys) (R' : Rdr) (ts : List TypeId) (rs : List Dat) (v : Value) : Prop :=
  (∃ t, ts = [t] ∧ TV T R' t rs v) ∨ (ts.length ≠ 1 ∧ ∃ vs, v = .tuple vs ∧ TVs T R' ts 0 rs vs.toList)

noncomputable def backCell (x : AV) (y : Dat × Bool) : AV :=
  match x with
  | .ptr i o => .ptr i o
  | _ => match y with
    | (.lst e r, true) => .own e r
    | (d, _) => .d d

noncomputable def endCells (x : List AV) (y : List (Dat × Bool)) : List AV := List.zipWith backCell x y

/-- Whose rows may be a result's of a type. -/
def OwnTy (T : Tys) (t e : TypeId) : Prop := ((T t).kind = .slice e ∧ isTag e = false) ∨ (∃ k l, (T t).kind = .map k l ∧ e = mapTag t)

/-- A call's end: returned. -/
def EndR (T : Tys) (E : Ent) (xs : List (List AV)) (own : Bool) (ts : List TypeId) (rs : List Dat) (ys : List (List (Dat × Bool))) (v : Value) (w' : World) : Prop :=
  ∃ g' rv, Rel T { E with n := 1 } g' (endSt rv (List.zipWith endCells xs ys)) ⟨#[v], []⟩ w' ∧ xs.length = ys.length ∧ (∀ i, i < xs.length → (xs.getD i []).length = (ys.getD i []).length) ∧
    ((own = true ∧ ∃ t e rows, ts = [t] ∧ OwnTy T t e ∧ rs = [.lst e rows] ∧ rv = .own e rows) ∨ (own = false ∧ rv = .undef ∧ ResRel T (rdr w' g'.pub) ts rs v))

/-- A call's end: panicked. -/
def EndP (T : Tys) (E : Ent) (d : Dat) (chain : List PanicEntry) (w' : World) : Prop :=
  ∃ pub' vv, Fr E pub' w' ∧ DRep T (rdr w' pub') d vv ∧ chain = [{ v := vv, recovered := false }]

def Post (T : Tys) (E : Ent) (xs : List (List AV)) (r : Res) : Ending → World → Prop
  | .returned v, w' => match r with
    | .ret own ts rs ys => EndR T E xs own ts rs ys v w'
    | .panic _ => False
  | .panicked chain, w' => match r with
    | .panic d => EndP T E d chain w'
    | .ret _ _ _ _ => False
  | .outgrown, _ => False

/-- What a function keeps to. -/
def Good (P : Program) (T : Tys) (f : FuncId) (args : List AV) (xs : List (List AV)) (r : Res) : Prop :=
  ∃ fn, P.funcs[f]? = some fn ∧ fn.name ≠ "runtime.NumGoroutine" ∧ fn.body.isSome = true ∧ args.length ≤ fn.ntmps ∧
    ∀ (E : Ent) (g : Gh) (w : World) (vals : Array Value), E.w0 = w → E.nx = xs.length → E.n = fn.ntmps → vals.size = args.length →
      Rel T E g ⟨numbered 0 args, boxesFrom 0 xs⟩ (subA vals fn.ntmps) w → Calls P f vals w (Post T E xs r)

theorem TV.mk {T : Tys} {R' : Rdr} {bl : Nat → Nat} {t : TypeId} {rs all : List Dat} {j : Nat} {v : Value} (h : TV T R' t rs v) (hj : rs = (all.drop j).take (T t).cells.length) : MRel T R' bl (mkVal (T t).kind (coerces T (T t).cells j all)) v ∧ idsOf (mkVal (T t).kind (coerces T (T t).cells j all)) = [] := by
  obtain ⟨h1, h2, h3, h4⟩ := h
  have hcl : (coerces T (T t).cells j all).length = (T t).cells.length := coerces_length _ _ _ _
  have hcs : CsRel T R' bl (coerces T (T t).cells j all) v.cells := by
    refine ⟨by rw [hcl, h2, h1], fun i hi => ?_⟩
    rw [hcl] at hi
    rw [coerces_getD _ _ _ _ _ hi]
    obtain ⟨d1, d2⟩ := h3 i (by omega)
    have e : rs.getD i .nilP = all.getD (j + i) .nilP := by
      rw [hj]
      simp only [List.getD_eq_getElem?_getD, List.getElem?_take, List.getElem?_drop]
      rw [if_pos hi]
    rw [e] at d1 d2
    exact coerce_rel d2 d1
  refine mkVal_data ?_ hcs fun c hc => (coerces_leaf T _ _ _ c hc).2.1
  rcases h4 with h4 | h4
  · exact .inl h4
  · right
    refine ⟨h4.1, h4.2, ?_⟩
    rw [hcl, ← h1, ← h2, Value.cells_one h4.2]
    rfl

theorem TVs.mk {T : Tys} {R' : Rdr} {bl : Nat → Nat} {all : List Dat} : ∀ (ts : List TypeId) (j : Nat) (vs : List Value), TVs T R' ts j all vs →
    (resTup T ts j all).length = vs.length ∧ (∀ i, i < vs.length → MRel T R' bl ((resTup T ts j all).getD i .undef) (vs.getD i undef)) ∧ ∀ x ∈ resTup T ts j all, idsOf x = []
  | [], j, [], _ => ⟨rfl, fun i hi => by simp at hi, fun x hx => by cases hx⟩
  | t :: ts, j, v :: vs, h => by
    obtain ⟨h1, h2⟩ := h
    obtain ⟨h3, h4, h5⟩ := TVs.mk (bl := bl) ts _ vs h2
    obtain ⟨m1, m2⟩ := h1.mk (bl := bl) rfl
    refine ⟨by simp [resTup, h3], fun i hi => ?_, fun x hx => ?_⟩
    · cases i with
      | zero => exact m1
      | succ i => simpa [resTup] using h4 i (by simpa using hi)
    · rcases List.mem_cons.1 hx with rfl | hx
      · exact m2
      · exact h5 x hx
  | [], j, v :: vs, h => h.elim
  | t :: ts, j, [], h => h.elim

/-- A call's result, as the caller takes it (no row of its own). -/
theorem resVal_rel {T : Tys} (hT : ∀ t, T t = tyOf P t) {R' : Rdr} {bl : Nat → Nat} {ot : Nat → Value} {t : TypeId} {rs : List Dat} {v : Value} (hk : (T t).kind ≠ .other) (h : ResRel T R' (resTys T t) rs v) :
    VRel T R' bl ot (resVal T false t rs) v ∧ isOwn (resVal T false t rs) = false ∧ idsOf (resVal T false t rs) = [] ∧ ∀ u, (resVal T false t rs).refs u = false := by
  have one : ∀ t', [t] = [t'] → TV T R' t' rs v → (∀ ts, (T t).kind ≠ .tuple ts) → VRel T R' bl ot (resVal T false t rs) v ∧ isOwn (resVal T false t rs) = false ∧ idsOf (resVal T false t rs) = [] ∧ ∀ u, (resVal T false t rs).refs u = false := fun t' e htv hnt => by
    have e : t = t' := by simpa using e
    subst e
    by_cases hs : ∃ e, (T t).kind = .slice e
    · obtain ⟨e, hs⟩ := hs
      have hr : resVal T false t rs = .d (.lst e (rs.getD 0 .nilP).l) := by unfold resVal; rw [hs]; rfl
      rw [hr]
      obtain ⟨h1, h2, h3, h4⟩ := htv
      have hc := tk_nonagg hT hk (by rw [hs]; rfl) hnt
      rw [hc] at h1
      obtain ⟨d1, d2⟩ := h3 0 (by rw [h1]; simp)
      rw [hc] at d2
      simp only [List.getD_cons_zero] at d2
      rw [hs] at d2
      have hone : one1 v = true := by
        rcases h4 with h4 | h4
        · rw [hs] at h4; cases h4.1
        · exact h4.2
      rw [Value.cells_one hone] at d1
      have d1' : DRep T R' (rs.getD 0 .nilP) v := d1
      generalize rs.getD 0 .nilP = x at d1' d2
      cases x <;> simp only [WT] at d2
      subst d2
      exact ⟨d1', rfl, rfl, fun _ => rfl⟩
    · by_cases hm : ∃ k l, (T t).kind = .map k l
      · obtain ⟨k, l, hm⟩ := hm
        have hr : resVal T false t rs = .undef := by unfold resVal; rw [hm]; rfl
        rw [hr]
        exact ⟨trivial, rfl, rfl, fun _ => rfl⟩
      have hr : resVal T false t rs = mkVal (T t).kind (coerces T (T t).cells 0 rs) := by
        unfold resVal
        cases hkk : (T t).kind
        case tuple ts => exact absurd hkk (hnt _)
        case slice e => exact (hs ⟨_, hkk⟩).elim
        case map k l => exact (hm ⟨_, _, hkk⟩).elim
        all_goals rfl
      rw [hr]
      obtain ⟨m1, m2⟩ := htv.mk (bl := bl) (all := rs) (j := 0) (by rw [List.drop_zero, ← htv.1, List.take_length])
      obtain ⟨q1, q2, q3⟩ := VRel_of_M (ot := ot) m1
      exact ⟨q1, q2, m2, q3⟩
  by_cases hts : ∃ ts, (T t).kind = .tuple ts
  · obtain ⟨ts, hts⟩ := hts
    have hrt : resTys T t = ts := by unfold resTys; rw [hts]
    rw [hrt] at h
    rcases h with ⟨t', ht', htv⟩ | ⟨hl, vs, rfl, h2⟩
    · subst ht'
      have hr : resVal T false t rs = .undef := by unfold resVal; rw [hts]
      rw [hr]
      exact ⟨trivial, rfl, rfl, fun _ => rfl⟩
    · have hr : resVal T false t rs = .tup (resTup T ts 0 rs) := by
        unfold resVal; rw [hts]
        match ts, hl with
        | [], _ => rfl
        | _ :: _ :: _, _ => rfl
      rw [hr]
      obtain ⟨m1, m2, m3⟩ := TVs.mk (bl := bl) ts 0 vs.toList h2
      refine ⟨⟨vs, rfl, by simpa using m1, fun j hj => ?_, m3⟩, rfl, rfl, fun _ => rfl⟩
      have := m2 j (by rw [← m1]; exact hj)
      simpa [Array.getD_eq_getD_getElem?, List.getD_eq_getElem?_getD] using this
  · have hnt : ∀ ts, (T t).kind ≠ .tuple ts := fun ts h0 => hts ⟨ts, h0⟩
    have hrt : resTys T t = [t] := by unfold resTys; split <;> first | rfl | (rename_i h0; exact absurd h0 (hnt _))
    rw [hrt] at h
    rcases h with ⟨t', ht', htv⟩ | ⟨h1, _⟩
    · exact one t' ht' htv hnt
    · exact absurd rfl h1

end Go.Ab
end

section
/-! Calls: the variables that are handed on; what they hold behind the call. -/
set_option autoImplicit false
set_option linter.unusedVariables false
set_option linter.unusedSimpArgs false
namespace Go.Ab
variable {P : Program} {C : Cfg} {E : Ent} {g : Gh} {st : St} {a : Act} {w : World} {o : Oper} {R : Type} {fail : R} {kp : Dat → R} {k : Eff → R} {res : R}

theorem addId_mem {id x : Nat} : ∀ (l : List Nat), x ∈ addId id l → x = id ∨ x ∈ l
  | [], h => by
    have h' : x ∈ [id] := h
    simpa using h'
  | y :: l, h => by
    have h' : x ∈ cond (Nat.beq id y) (y :: l) (y :: addId id l) := h
    cases hb : Nat.beq id y with
    | true => rw [hb] at h'; exact .inr h'
    | false =>
      rw [hb] at h'
      rcases List.mem_cons.1 h' with rfl | h'
      · exact .inr List.mem_cons_self
      · rcases addId_mem l h' with h' | h'
        · exact .inl h'
        · exact .inr (List.mem_cons_of_mem _ h')

theorem addId_nodup {id : Nat} : ∀ (l : List Nat), l.Nodup → (addId id l).Nodup
  | [], _ => by show ([id] : List Nat).Nodup; simp
  | y :: l, h => by
    show (cond (Nat.beq id y) (y :: l) (y :: addId id l)).Nodup
    cases hb : Nat.beq id y with
    | true => exact h
    | false =>
      have h1 := List.nodup_cons.1 h
      refine List.nodup_cons.2 ⟨fun h2 => ?_, addId_nodup l h1.2⟩
      rcases addId_mem l h2 with h3 | h3
      · rw [h3, Nat.beq_refl] at hb; cases hb
      · exact h1.1 h3

theorem addIds_mem {x : Nat} : ∀ (l acc : List Nat), x ∈ addIds l acc → x ∈ l ∨ x ∈ acc
  | [], acc, h => .inr h
  | y :: l, acc, h => by
    rcases addIds_mem l (addId y acc) h with h1 | h1
    · exact .inl (List.mem_cons_of_mem _ h1)
    · rcases addId_mem acc h1 with h2 | h2
      · exact .inl (by rw [h2]; exact List.mem_cons_self)
      · exact .inr h2

theorem addIds_nodup : ∀ (l acc : List Nat), acc.Nodup → (addIds l acc).Nodup
  | [], acc, h => h
  | y :: l, acc, h => addIds_nodup l _ (addId_nodup acc h)

theorem reach_nodup (box : Nat → Option (List AV)) : ∀ (n : Nat) (acc : List Nat), acc.Nodup → (reach box n acc).Nodup
  | 0, acc, h => h
  | n + 1, acc, h => reach_nodup box n _ (addIds_nodup _ acc h)

theorem reach_some {T : Tys} (H : Rel T E g st a w) : ∀ (n : Nat) (acc : List Nat), (∀ id ∈ acc, (st.box id).isSome = true) → ∀ id ∈ reach st.box n acc, (st.box id).isSome = true
  | 0, acc, h => h
  | n + 1, acc, h => by
    refine reach_some H n _ fun id hid => ?_
    rcases addIds_mem _ acc hid with h1 | h1
    · obtain ⟨id', h2, h3⟩ := List.mem_flatMap.1 h1
      cases hb : st.box id' with
      | none => rw [hb] at h3; cases h3
      | some cs =>
        rw [hb] at h3
        obtain ⟨c, hc, h4⟩ := List.mem_flatMap.1 h3
        obtain ⟨j, hj, rfl⟩ := List.mem_iff_getElem.1 hc
        obtain ⟨cur, ty, fr, q1, q2, q3, q4⟩ := H.bx id' cs hb
        have hcr := q4 j hj
        rw [List.getD_eq_getElem?_getD, List.getElem?_eq_getElem hj, Option.getD_some] at hcr
        refine H.prb id' j id ?_
        have : cellAt st id' j = cs[j] := by simp [cellAt, hb, hj]
        rw [this]
        by_cases ho : isOwn cs[j] = true
        · rw [own_ids ho] at h4; cases h4
        · have ho' : isOwn cs[j] = false := by simpa using ho
          rw [← (VRel_of_L (ot := g.ot) (LRel_of_CRel ho' hcr)).2.2.2]
          exact h4
    · exact h id h1

theorem get_boxAll : ∀ (l : List (Nat × List AV)) (st : St) (t : Nat), (boxAll l st).get t = st.get t
  | [], st, t => rfl
  | p :: l, st, t => get_boxAll l _ t

theorem box_boxAll_not : ∀ (l : List (Nat × List AV)) (st : St) (id : Nat), (∀ p ∈ l, p.1 ≠ id) → (boxAll l st).box id = st.box id
  | [], st, id, _ => rfl
  | p :: l, st, id, h => by
    show (boxAll l (st.setBox p.1 p.2)).box id = _
    rw [box_boxAll_not l _ id fun q hq => h q (List.mem_cons_of_mem _ hq), box_setBox, if_neg fun e => h p List.mem_cons_self e.symm]

theorem backs_fst {new : List (List (Dat × Bool))} : ∀ (n : Nat) (ids : List Nat) (olds : List (List AV)) (p : Nat × List AV), p ∈ backs new n ids olds → p.1 ∈ ids
  | n, [], olds, p, h => by cases olds <;> cases h
  | n, id :: ids, [], p, h => by cases h
  | n, id :: ids, o :: os, p, h => by
    rcases List.mem_cons.1 h with rfl | h
    · exact List.mem_cons_self
    · exact List.mem_cons_of_mem _ (backs_fst (n + 1) ids os p h)

theorem box_backs {new : List (List (Dat × Bool))} : ∀ (n : Nat) (ids : List Nat) (olds : List (List AV)) (st : St), ids.Nodup → olds.length = ids.length → ∀ i, i < ids.length →
    (boxAll (backs new n ids olds) st).box (ids.getD i 0) = some (back new (n + i) 0 (olds.getD i []))
  | n, [], olds, st, _, _, i, hi => by simp at hi
  | n, id :: ids, [], st, _, hl, i, hi => by simp at hl
  | n, id :: ids, o :: os, st, hnd, hl, i, hi => by
    obtain ⟨h1, h2⟩ := List.nodup_cons.1 hnd
    show (boxAll (backs new (n + 1) ids os) (st.setBox id (back new n 0 o))).box _ = _
    cases i with
    | zero =>
      simp only [List.getD_cons_zero, Nat.add_zero]
      rw [box_boxAll_not _ _ _ fun p hp e => h1 (by rw [← e]; exact backs_fst _ _ _ _ hp), box_setBox, if_pos rfl]
    | succ i =>
      simp only [List.getD_cons_succ]
      rw [box_backs (n + 1) ids os _ h2 (by simpa using hl) i (by simpa using hi)]
      congr 2
      omega

theorem back_len (new : List (List (Dat × Bool))) (i : Nat) : ∀ (j : Nat) (xs : List AV), (back new i j xs).length = xs.length
  | j, [] => rfl
  | j, x :: xs => by simp [back, back_len new i (j + 1) xs]

theorem closedIn_mem {ids : List Nat} {olds : List (List AV)} (h : closedIn ids olds = true) {o : List AV} (ho : o ∈ olds) {id : Nat} (hid : id ∈ idsOfs o) : id ∈ ids := by
  have h1 := all_get (all_get h ho) hid
  obtain ⟨x, hx, h2⟩ := List.any_eq_true.1 h1
  rw [Nat.eq_of_beq_eq_true h2]; exact hx

theorem backOk_nil (x : AV) (xs : List AV) : backOk (x :: xs) [] = false := by
  cases x with
  | d y => cases y <;> rfl
  | _ => rfl

/-- A variable's cells behind the call. -/
theorem back_rel {ids : List Nat} {new : List (List (Dat × Bool))} {i : Nat} : ∀ (xs : List AV) (ys : List (Dat × Bool)) (j : Nat), backOk xs ys = true → (∀ q, q < ys.length → xat new i (j + q) = (ys.getD q (.nilP, false)).1) → (∀ id ∈ idsOfs xs, id ∈ ids) →
    xs.length = ys.length ∧ ∀ q, q < xs.length → Back ids ((back new i j xs).getD q .undef) ((endCells (renames ids xs) ys).getD q .undef)
  | [], [], j, _, _, _ => ⟨rfl, fun q hq => by simp at hq⟩
  | [], y :: ys, j, h, _, _ => by cases h
  | x :: xs, [], j, h, _, _ => by
    rw [backOk_nil] at h
    cases h
  | x :: xs, (y, fl) :: ys, j, h, hx, hid => by
    have hx0 : xat new i j = y := by simpa using hx 0 (by simp)
    have hrest : backOk xs ys = true → xs.length = ys.length ∧ ∀ q, q < xs.length → Back ids ((back new i (j + 1) xs).getD q .undef) ((endCells (renames ids xs) ys).getD q .undef) := fun h' =>
      back_rel xs ys (j + 1) h' (fun q hq => by have := hx (q + 1) (by simpa using hq); rw [show j + 1 + q = j + (q + 1) by omega]; simpa using this) fun id hid' => hid id (by simp only [idsOfs, List.flatMap_cons, List.mem_append]; exact .inr hid')
    have fin : ∀ z, back new i j (x :: xs) = z :: back new i (j + 1) xs → Back ids z (backCell (rename ids x) (y, fl)) → backOk xs ys = true → (x :: xs).length = ((y, fl) :: ys).length ∧ ∀ q, q < (x :: xs).length → Back ids ((back new i j (x :: xs)).getD q .undef) ((endCells (renames ids (x :: xs)) ((y, fl) :: ys)).getD q .undef) := fun z hz hb h' => by
      obtain ⟨h1, h2⟩ := hrest h'
      refine ⟨by simp [h1], fun q hq => ?_⟩
      rw [hz]
      cases q with
      | zero => exact hb
      | succ q => exact h2 q (by simpa using hq)
    have dd : ∀ d, Back ids (.d d) (.d d) := fun d => .inl ⟨rfl, rfl⟩
    cases x
    case d x =>
      cases x
      case int k n =>
        cases y <;> cases fl <;> first | (cases h; done) | skip
        rename_i k' n'
        simp only [backOk, Bool.and_eq_true, decide_eq_true_eq] at h
        refine fin (.d (.int k (xat new i j).i)) rfl ?_ h.2
        rw [hx0, h.1]; exact dd _
      case bool b =>
        cases y <;> cases fl <;> first | (cases h; done) | skip
        refine fin (.d (.bool (xat new i j).b)) rfl ?_ h
        rw [hx0]; exact dd _
      case str s =>
        cases y <;> cases fl <;> first | (cases h; done) | skip
        refine fin (.d (.str (xat new i j).s)) rfl ?_ h
        rw [hx0]; exact dd _
      case lst e r =>
        cases y <;> cases fl <;> first | (cases h; done) | skip
        rename_i e' r'
        simp only [backOk, Bool.and_eq_true] at h
        refine fin (.d (.lst e (xat new i j).l)) rfl ?_ h.2
        rw [hx0, Nat.eq_of_beq_eq_true h.1]; exact dd _
      case fn f c =>
        cases fl
        · refine fin (.d (xat new i j)) rfl ?_ h
          rw [hx0]
          cases y <;> exact dd _
        · cases h
      case nilF =>
        cases fl
        · refine fin (.d (xat new i j)) rfl ?_ h
          rw [hx0]
          cases y <;> exact dd _
        · cases h
      case ifc t c =>
        cases fl
        · simp only [backOk, Bool.and_eq_true] at h
          refine fin (.d (xat new i j)) rfl ?_ h.2
          rw [hx0]
          cases y <;> exact dd _
        · cases h
      case nilI =>
        cases fl
        · simp only [backOk, Bool.and_eq_true] at h
          refine fin (.d (xat new i j)) rfl ?_ h.2
          rw [hx0]
          cases y <;> exact dd _
        · cases h
      case nilP => cases h
      case ref => cases h
    case nils e =>
      cases y <;> cases fl <;> first | (cases h; done) | skip
      rename_i e' r'
      simp only [backOk, Bool.and_eq_true] at h
      refine fin (.d (.lst e (xat new i j).l)) rfl ?_ h.2
      rw [hx0, Nat.eq_of_beq_eq_true h.1]; exact dd _
    case own e r =>
      cases y <;> cases fl <;> first | (cases h; done) | skip
      rename_i e' r'
      simp only [backOk, Bool.and_eq_true] at h
      refine fin (.own e (xat new i j).l) rfl ?_ h.2
      rw [hx0, Nat.eq_of_beq_eq_true h.1]
      exact .inl ⟨rfl, rfl⟩
    case ptr id off =>
      cases y <;> cases fl <;> first | (cases h; done) | skip
      refine fin (.ptr id off) rfl ?_ h
      have hmem : id ∈ ids := hid id (by simp [idsOfs, idsOf, idL])
      obtain ⟨q, hq⟩ := indexIn_mem ids 0 hmem
      obtain ⟨q1, q2, q3⟩ := indexIn_some ids 0 q hq
      have e1 : rename ids (.ptr id off) = .ptr q off := by simp only [rename, renameL, hq]
      rw [e1]
      exact .inr ⟨q, off, rfl, by rw [show ids.getD q 0 = id by simpa using q3], by omega⟩
    all_goals cases h

end Go.Ab
end

section
/-! Calls, whole. -/
set_option autoImplicit false
set_option linter.unusedVariables false
set_option linter.unusedSimpArgs false
namespace Go.Ab
variable {P : Program} {C : Cfg} {E : Ent} {g : Gh} {st : St} {a : Act} {w : World} {o : Oper} {R : Type} {fail : R} {kp : Dat → R} {k : Eff → R} {res : R}

theorem Fr.glue {T : Tys} (H : Rel T E g st a w) {ids : List Nat} {n : Nat} {pub' : Nat → Prop} {w' : World} (K : Fr (subE w g st ids n) pub' w') : Fr E pub' w' := by
  have hH : ∀ b, Handed g st ids b → ∃ h, hb g st h = some b := fun b h => by
    rcases h with ⟨id, h1, h2⟩ | ⟨id, off, h1, h2⟩
    · exact ⟨_, h2⟩
    · exact ⟨_, h2⟩
  have hHE : ∀ b, Handed g st ids b → E.w0.heap.size ≤ b ∨ E.W b := fun b h => by
    obtain ⟨h', h5⟩ := hH b h
    exact (H.hp _ _ h5).2.2
  have hsz : w.heap.size ≤ w'.heap.size := K.sz
  refine ⟨fun b h1 => ?_, fun b h1 => K.p0 b (H.p0 b h1), fun b h1 h2 => ?_, ?_, Nat.le_trans H.sz hsz⟩
  · obtain ⟨q1, q2⟩ := K.pb b h1
    refine ⟨q1, fun h2 => ?_⟩
    rcases q2 (Nat.lt_of_lt_of_le h2 H.sz) with h3 | h3
    · exact (H.pb b h3).2 h2
    · rcases hHE b h3 with h4 | h4
      · omega
      · exact .inr h4
  · have : w'.heap[b]? = w.heap[b]? := K.keep b (Nat.lt_of_lt_of_le h1 H.sz) fun h3 => by
      rcases hHE b h3 with h4 | h4
      · omega
      · exact h2 h4
    rw [this]
    exact H.keep b h1 h2
  · have := K.wo
    exact ⟨this.1.trans H.wo.1, this.2.1.trans H.wo.2.1, this.2.2.trans H.wo.2.2⟩

theorem backsOk_at : ∀ (xs : List (List AV)) (ys : List (List (Dat × Bool))), backsOk xs ys = true → xs.length = ys.length ∧ ∀ i, i < xs.length → backOk (xs.getD i []) (ys.getD i []) = true
  | [], [], _ => ⟨rfl, fun i hi => by simp at hi⟩
  | x :: xs, y :: ys, h => by
    simp only [backsOk, Bool.and_eq_true] at h
    obtain ⟨h1, h2⟩ := backsOk_at xs ys h.2
    refine ⟨by simp [h1], fun i hi => ?_⟩
    cases i with
    | zero => exact h.1
    | succ i => simpa using h2 i (by simpa using hi)
  | [], y :: ys, h => by cases h
  | x :: xs, [], h => by cases h

theorem kind_some {kd : TK} (h : kd.some = true) : kd ≠ .other := fun h0 => by rw [h0] at h; cases h

theorem renames_append (ids : List Nat) (xs ys : List AV) : renames ids (xs ++ ys) = renames ids xs ++ renames ids ys := by simp [renames]

mutual
theorem eqD_eq : ∀ (x y : Dat), eqD x y = true → x = y
  | .int k n, y, h => by
    cases y <;> simp [eqD] at h
    rw [h.1, h.2]
  | .bool b, y, h => by
    cases y <;> simp [eqD] at h
    rw [h]
  | .str s, y, h => by
    cases y <;> simp [eqD] at h
    rw [h]
  | .lst e rs, y, h => by
    cases y <;> simp [eqD] at h
    rw [h.1, eqRs_eq rs _ h.2]
  | .fn f cs, y, h => by
    cases y <;> simp [eqD] at h
    rw [h.1, eqCs_eq cs _ h.2]
  | .nilF, y, h => by
    cases y <;> simp [eqD] at h
    rfl
  | .ifc t cs, y, h => by
    cases y <;> simp [eqD] at h
    rw [h.1, eqCs_eq cs _ h.2]
  | .nilI, y, h => by
    cases y <;> simp [eqD] at h
    rfl
  | .nilP, y, h => by
    cases y <;> simp [eqD] at h
    rfl
  | .ref e cs, y, h => by
    cases y <;> simp [eqD] at h
    rw [h.1, eqCs_eq cs _ h.2]
theorem eqRs_eq : ∀ (x y : List (List Dat)), eqRs x y = true → x = y
  | [], y, h => by
    cases y <;> simp [eqRs] at h
    rfl
  | r :: rs, y, h => by
    cases y <;> simp [eqRs] at h
    rw [eqCs_eq r _ h.1, eqRs_eq rs _ h.2]
theorem eqCs_eq : ∀ (x y : List Dat), eqCs x y = true → x = y
  | [], y, h => by
    cases y <;> simp [eqCs] at h
    rfl
  | r :: rs, y, h => by
    cases y <;> simp [eqCs] at h
    rw [eqD_eq r _ h.1, eqCs_eq rs _ h.2]
end

theorem keptV_back {new : List (List (Dat × Bool))} {i : Nat} : ∀ (xs : List AV) (ys : List (Dat × Bool)) (j : Nat), keptV xs ys = true → (∀ q, q < ys.length → (new.getD i []).getD (j + q) (.nilP, false) = ys.getD q (.nilP, false)) → back new i j xs = xs
  | [], ys, j, h, hq => rfl
  | x :: xs, [], j, h, hq => by simp [keptV] at h
  | x :: xs, y :: ys, j, h, hq => by
    simp only [keptV, Bool.and_eq_true] at h
    have ih := keptV_back (new := new) (i := i) xs ys (j + 1) h.2 fun q hq' => by
      have := hq (q + 1) (by simpa using hq')
      rw [show j + 1 + q = j + (q + 1) from by omega]
      simpa using this
    have h0 : xat new i j = y.1 := by
      have := hq 0 (by simp)
      unfold xat
      rw [Nat.add_zero] at this
      rw [this]
      rfl
    simp only [back, ih]
    congr 1
    have h1 := h.1
    cases x with
    | d x =>
      have he := eqD_eq x y.1 h1
      rw [h0, ← he]
      cases x <;> rfl
    | ptr a b => rfl
    | _ => cases h1

theorem kept_back : ∀ (olds : List (List AV)) (xs : List (List (Dat × Bool))), kept olds xs = true → xs.length = olds.length ∧ ∀ i, i < olds.length → back xs i 0 (olds.getD i []) = olds.getD i [] := by
  have aux : ∀ (olds : List (List AV)) (xs : List (List (Dat × Bool))), kept olds xs = true → xs.length = olds.length ∧ ∀ i, i < olds.length → keptV (olds.getD i []) (xs.getD i []) = true := by
    intro olds
    induction olds with
    | nil =>
      intro xs h
      cases xs with
      | nil => exact ⟨rfl, fun i hi => by simp at hi⟩
      | cons y ys => simp [kept] at h
    | cons x l ih =>
      intro xs h
      cases xs with
      | nil => simp [kept] at h
      | cons y ys =>
        simp only [kept, Bool.and_eq_true] at h
        obtain ⟨e1, e2⟩ := ih ys h.2
        refine ⟨by simp [e1], fun i hi => ?_⟩
        cases i with
        | zero => exact h.1
        | succ i => simpa using e2 i (by simpa using hi)
  intro olds xs h
  obtain ⟨h1, h2⟩ := aux olds xs h
  exact ⟨h1, fun i hi => keptV_back _ _ 0 (h2 i hi) fun q hq => by rw [Nat.zero_add]⟩

/-- A call of a function, its arguments being known. -/
theorem call_coreG (hT : ∀ t, C.ty t = tyOf P t) (hbind : C.bind = bindR) {f : FuncId} {D : List AV → List (List AV) → Option Res} {pre : List AV} (hCD : ∀ args xs r, D args xs = some r → Good P C.ty f (pre ++ args) xs r) (H : Rel C.ty E g st a w) {ops : List Operand} {args0 : List AV} {vals : Array Value} {fl : Nat}
    (hrun : ∀ fn, P.funcs[f]? = some fn → fn.name ≠ "runtime.NumGoroutine" → fn.body.isSome = true → (execOp a.eval o).run P w = .ok (.enter f vals) w)
    (hpre : ∀ ids, renames ids pre = pre) (hpn : ∀ x ∈ pre, noRow x = true) (hlen0 : (pre ++ args0).length = vals.size)
    (hval0 : (∀ x ∈ pre ++ args0, noRow x = true) → ∀ g1 : Gh, (∀ b, g.pub b → g1.pub b) → g1.bl = g.bl → (∀ p, p ∈ pubss st.get ops → ∃ e r, p.2 = .d (.lst e r) ∧ DRep C.ty (rdr w g1.pub) (.lst e r) (a.tmps.getD p.1 undef)) →
      ∀ i, i < (pre ++ args0).length → VRel C.ty (rdr w g1.pub) g1.bl g1.ot ((pre ++ args0).getD i .undef) (vals.getD i undef) ∧ ∀ id ∈ idsOf ((pre ++ args0).getD i .undef), (st.box id).isSome = true)
    (h : evCallG C fail kp st.box fl o.type D args0 (pubss st.get ops) k = res) (hne : res ≠ fail) : Ends P C E st a w o kp k res := by
  unfold evCallG at h
  simp only at h
  obtain ⟨hc, h⟩ := cond_ends h hne
  simp only [Bool.and_eq_true] at hc
  obtain ⟨⟨c1, c2'⟩, c3⟩ := hc
  rw [hbind] at h
  generalize hids : reach st.box 4 (addIds (idsOfs args0) []) = ids at h c1
  generalize holds : (ids.map fun id => (st.box id).getD []) = olds at h c1
  obtain ⟨g1, K1, K2, K3, K4, K5, K6⟩ := H.pubAll (pubss st.get ops) (pubss_ok st ops)
  have hR1 : ∀ b i v, rdr w g.pub b i v → rdr w g1.pub b i v := rdr_mono fun b hb => ⟨K2 b hb, rfl⟩
  have c2 : ∀ x ∈ pre ++ args0, noRow x = true := fun x hx => by
    rcases List.mem_append.1 hx with h | h
    · exact hpn x h
    · exact all_get c2' h
  have hval1 := hval0 c2 g1 K2 K3 K5
  have hargs0 : ∀ id ∈ idsOfs args0, (st.box id).isSome = true := fun id hid => by
    obtain ⟨x, hx, hid⟩ := List.mem_flatMap.1 hid
    obtain ⟨i, hi, rfl⟩ := List.mem_iff_getElem.1 (List.mem_append_right pre hx)
    refine (hval1 i hi).2 id ?_
    rw [List.getD_eq_getElem?_getD, List.getElem?_eq_getElem hi, Option.getD_some]
    exact hid
  generalize hargs : pre ++ args0 = args at c2 hval1 hlen0
  have hlen : args.length = vals.size := hlen0
  have hno : ∀ x ∈ args, isOwn x = false := fun x hx => (noRow_own (c2 x hx)).1
  have hval := hval1
  have his : ∀ id ∈ ids, (st.box id).isSome = true := by
    rw [← hids]
    refine reach_some H 4 _ fun id hid => ?_
    rcases addIds_mem _ [] hid with h1 | h1
    · exact hargs0 id h1
    · cases h1
  have hnd : ids.Nodup := by rw [← hids]; exact reach_nodup _ 4 _ (addIds_nodup _ [] List.nodup_nil)
  have his1 : ∀ id ∈ ids, ((putAll (pubss st.get ops) st).box id).isSome = true := fun id hid => by rw [K4]; exact his id hid
  have holdl : olds.length = ids.length := by rw [← holds]; simp
  have hxs : subXs (putAll (pubss st.get ops) st) ids = olds.map (renames ids) := by
    unfold subXs
    rw [← holds]
    simp only [K4]
  have hra : renames ids args = pre ++ renames ids args0 := by rw [← hargs, renames_append, hpre]
  cases hcd : D (renames ids args0) (olds.map (renames ids)) with
  | none => rw [hcd] at h; exact absurd h.symm hne
  | some r =>
    rw [hcd] at h
    obtain ⟨fn, f1, f2, f3, f4, hgood⟩ := hCD _ _ _ hcd
    rw [← hra] at f4 hgood
    have hal : (renames ids args).length = args.length := by simp [renames]
    have hsub := K1.sub hnd his1 (n := fn.ntmps) hlen (by rw [← hlen, ← hal]; exact f4) hno fun i hi => (hval i hi).1
    have hcalls := hgood (subE w g1 (putAll (pubss st.get ops) st) ids fn.ntmps) (subG g1 ids) w vals rfl (by simp [subE, holdl]) rfl (by rw [hal, hlen]) (by
      have : subSt (putAll (pubss st.get ops) st) ids args = ⟨numbered 0 (renames ids args), boxesFrom 0 (olds.map (renames ids))⟩ := by unfold subSt; rw [hxs]
      rw [← this]
      exact hsub)
    cases r with
    | panic d =>
      refine .inr ⟨d, h, fun K Q hQ => ?_⟩
      unfold Oper.wp
      rw [hrun fn f1 f2 f3]
      refine hcalls.mono fun e w' he => ?_
      cases e with
      | returned v => exact he.elim
      | outgrown => exact he.elim
      | panicked chain =>
        obtain ⟨pub', vv, q1, q2, q3⟩ := he
        subst q3
        exact hQ _ _ _ _ H.df (Fr.glue K1 q1) q2
    | ret ow ts rs xs =>
      obtain ⟨hc, h⟩ := cond_ends h hne
      simp only [Bool.and_eq_true, decide_eq_true_eq] at hc
      obtain ⟨⟨o1, o2⟩, o3⟩ := hc
      obtain ⟨bw, h, hbw1, hbw2⟩ : ∃ bw : List (Nat × List AV), k { v := resVal C.ty (Nat.beq fl 3) o.type rs, tw := pubss st.get ops, bw := bw } = res ∧ (∀ p ∈ bw, p.1 ∈ ids) ∧ ∀ i, i < ids.length → (boxAll bw (putAll (pubss st.get ops) st)).box (ids.getD i 0) = some (back xs i 0 (olds.getD i [])) := by
        unfold evBack at h
        cases hfl5 : Nat.beq fl 5 with
        | false =>
          rw [hfl5] at h
          exact ⟨_, h, fun p hp => backs_fst _ _ _ _ hp, fun i hi => by rw [box_backs 0 ids olds _ hnd holdl i hi, Nat.zero_add]⟩
        | true =>
          rw [hfl5] at h
          simp only [cond_true] at h
          obtain ⟨hk1, h⟩ := cond_ends h hne
          obtain ⟨_, hk2⟩ := kept_back _ _ hk1
          refine ⟨[], h, fun p hp => (by cases hp), fun i hi => ?_⟩
          rw [hk2 i (by omega)]
          show (putAll (pubss st.get ops) st).box _ = _
          have hmem : ids.getD i 0 ∈ ids := by
            rw [List.getD_eq_getElem?_getD, List.getElem?_eq_getElem hi]
            exact List.getElem_mem hi
          have hsome := his _ hmem
          rw [K4, ← holds]
          simp only [List.getD_eq_getElem?_getD, List.getElem?_map, List.getElem?_eq_getElem hi, Option.map_some, Option.getD_some] at hsome ⊢
          cases hb : st.box ids[i] with
          | none => rw [hb] at hsome; cases hsome
          | some v => rfl
      refine .inl ⟨_, h, fun K Q hdst hK => ?_⟩
      unfold Oper.wp
      rw [hrun fn f1 f2 f3]
      refine hcalls.mono fun e w' he => ?_
      cases e with
      | outgrown => exact he.elim
      | panicked chain => exact he.elim
      | returned v =>
        obtain ⟨g', rv, q1, q2, q3, q4⟩ := he
        obtain ⟨b1, b2⟩ := backsOk_at olds xs o3
        have hglue := K1.glue hnd his1 (zs := (List.range ids.length).map fun i => back xs i 0 (olds.getD i [])) (st' := boxAll bw (putAll (pubss st.get ops) st)) q1 (by simp [holdl, ← b1]) (by rcases q4 with ⟨_, t, e, rows, _, _, _, h5⟩ | ⟨_, h5, _⟩ <;> rw [h5] <;> simp [isOwn]) (fun i hi => ?_) (fun t => get_boxAll _ _ t) (fun i hi => ?_) (fun id hid => box_boxAll_not _ _ _ fun p hp e => hid (by rw [← e]; exact hbw1 _ hp))
        · obtain ⟨G1, G2, G3, G4⟩ := hglue
          have hown : ow = true → ∃ t e rows, ts = [t] ∧ OwnTy C.ty t e ∧ rs = [.lst e rows] ∧ OwnRel C.ty (rdr w' g'.pub) w' e rows v ∧ ∀ b, ownB v = some b → Free E (afterG g1 g' ids) (boxAll bw (putAll (pubss st.get ops) st)) w' b := fun how => by
            rcases q4 with ⟨_, t, e, rows, p1, p2, p3, p4⟩ | ⟨p0, _⟩
            · have h0 := q1.tm 0
              rw [endSt_get, if_pos rfl, p4] at h0
              obtain ⟨h1, h2⟩ := h0
              have h1' : OwnRel C.ty (rdr w' g'.pub) w' e rows v := h1
              have h2' : g'.ot 0 = v := h2
              refine ⟨t, e, rows, p1, p2, p3, h1', fun b hb1 => G4 b ?_⟩
              simp only [hb, endSt_get, if_true, p4, isOwn, h2']
              exact hb1
            · rw [how] at p0; cases p0
          have htup : ∀ own, (∃ t', (C.ty o.type).kind = .tuple [t']) → resVal C.ty own o.type rs = .undef := fun own ⟨t', ht'⟩ => by unfold resVal; rw [ht']
          have hfin : ∀ vv, resVal C.ty (Nat.beq fl 3) o.type rs = vv → (dstOk E.n o.dst vv = true → ∃ g'', Rel C.ty E g'' ((boxAll bw (putAll (pubss st.get ops) st)).putO o.dst vv) (a.put o.dst v) w') → K (a.put o.dst v) w' := fun vv hvv hx => by
            have hd : dstOk E.n o.dst vv = true := by rw [← hvv]; exact hdst
            obtain ⟨g'', hg''⟩ := hx hd
            refine hK g'' _ _ ?_
            rw [← hvv] at hg''
            exact hg''
          have htys : ∀ t, ts = [t] → (∃ t', (C.ty o.type).kind = .tuple [t']) ∨ t = o.type := fun t p1 => by
            rw [p1] at o2
            unfold resTys at o2
            split at o2
            · rename_i ts' hk'
              left
              exact ⟨t, by rw [hk', ← o2]⟩
            · right
              simpa using o2
          by_cases how : ow = true
          · obtain ⟨t, e, rows, p1, p2, p3, p4, p5⟩ := hown how
            rcases htys t p1 with ht | rfl
            · exact hfin .undef (htup _ ht) fun hd => ⟨_, G1.putUndef hd⟩
            · rcases p2 with ⟨ht, hnt⟩ | ⟨kk, ll, ht, rfl⟩
              · cases hfl : Nat.beq fl 3 with
                | true => exact hfin (.own e rows) (by rw [hfl]; unfold resVal; rw [ht, p3]; rfl) fun hd => G1.putFresh hd p4 p5
                | false =>
                  refine hfin (.d (.lst e rows)) (by rw [hfl]; unfold resVal; rw [ht, p3]; rfl) fun hd => ?_
                  cases hob : ownB v with
                  | none =>
                    have hd' : DRep C.ty (rdr w' g'.pub) (.lst e rows) v := p4.toD hnt (fun _ _ _ h => h) fun b hb1 => by rw [hob] at hb1; cases hb1
                    exact ⟨_, G1.putDst (v := .d (.lst e rows)) hd hd' rfl (fun id hid => by cases hid) fun u hu => by cases hu⟩
                  | some b0 =>
                    have G5 := G1.publish (p5 b0 hob)
                    have hd' : DRep C.ty (rdr w' (fun b => g'.pub b ∨ b = b0)) (.lst e rows) v := p4.toD hnt (rdr_mono fun b hb => ⟨.inl hb, rfl⟩) fun b hb1 i x hx => by
                      rw [hob] at hb1
                      cases hb1
                      exact ⟨.inr rfl, hx⟩
                    exact ⟨_, G5.putDst (v := .d (.lst e rows)) hd hd' rfl (fun id hid => by cases hid) fun u hu => by cases hu⟩
              · cases hfl : Nat.beq fl 3 with
                | true => exact hfin (.own (mapTag o.type) rows) (by rw [hfl]; unfold resVal; rw [ht, p3]; rfl) fun hd => G1.putFresh hd p4 p5
                | false => exact hfin .undef (by rw [hfl]; unfold resVal; rw [ht]; rfl) fun hd => ⟨_, G1.putUndef hd⟩
          · have how' : ow = false := by simpa using how
            have hfl : Nat.beq fl 3 = false := by
              cases hfl : Nat.beq fl 3 with
              | true => rw [hfl, how'] at o1; cases o1
              | false => rfl
            rcases q4 with ⟨p0, _⟩ | ⟨_, _, hres⟩
            · exact absurd p0 how
            · rw [o2] at hres
              obtain ⟨r1, r2, r3, r4⟩ := resVal_rel (P := P) (bl := (afterG g1 g' ids).bl) (ot := (afterG g1 g' ids).ot) hT (kind_some c3) hres
              exact hfin _ (by rw [hfl]) fun hd => ⟨_, G1.putDst hd r1 r2 (fun id hid => by rw [r3] at hid; cases hid) fun u hu => by rw [r4] at hu; cases hu⟩
        · have ez : ((List.range ids.length).map fun i => back xs i 0 (olds.getD i [])).getD i [] = back xs i 0 (olds.getD i []) := by
            simp [List.getD_eq_getElem?_getD, hi]
          have ey : (List.zipWith endCells (olds.map (renames ids)) xs).getD i [] = endCells (renames ids (olds.getD i [])) (xs.getD i []) := by
            have h1 : i < olds.length := by omega
            have h2 : i < xs.length := by omega
            simp [List.getD_eq_getElem?_getD, List.getElem?_zipWith, h1, h2]
          rw [ez, ey]
          have hio : i < olds.length := by omega
          obtain ⟨l1, l2⟩ := back_rel (ids := ids) (new := xs) (i := i) (olds.getD i []) (xs.getD i []) 0 (b2 i hio) (fun q hq => by rw [Nat.zero_add]; rfl) fun id hid => closedIn_mem c1 (mem_of_getD hio) hid
          have l3 : (endCells (renames ids (olds.getD i [])) (xs.getD i [])).length = (olds.getD i []).length := by
            unfold endCells
            rw [List.length_zipWith, ← l1]
            simp [renames]
          exact ⟨by rw [back_len, l3], fun j hj => l2 j (by rw [← l3]; exact hj)⟩
        · rw [hbw2 i hi]
          simp [List.getD_eq_getElem?_getD, hi]

/-- A call of a function, its value being known. -/
theorem call_core (hT : ∀ t, C.ty t = tyOf P t) (hbind : C.bind = bindR) (hCD : ∀ f args xs r, C.CD f args xs = some r → Good P C.ty f args xs r) (H : Rel C.ty E g st a w) {f : FuncId} {ops : List Operand} {caps : List AV} {cvals : Array Value} {fl : Nat}
    (hrun : ∀ fn, P.funcs[f]? = some fn → fn.name ≠ "runtime.NumGoroutine" → fn.body.isSome = true → (execOp a.eval o).run P w = .ok (.enter f ((ops.map a.eval).toArray ++ cvals)) w)
    (hcl : caps.length = cvals.size) (hcap : ∀ i, i < caps.length → LRel C.ty (rdr w g.pub) g.bl (caps.getD i .undef) (cvals.getD i undef)) (hcid : ∀ id, id ∈ idsOfs caps → (st.box id).isSome = true)
    (h : evCall C fail kp st.box fl o.type f (views st.get ops ++ caps) (pubss st.get ops) k = res) (hne : res ≠ fail) : Ends P C E st a w o kp k res := by
  refine call_coreG hT hbind (D := C.CD f) (pre := []) (fun args xs r h => hCD f args xs r h) H (args0 := views st.get ops ++ caps) (ops := ops) hrun (fun _ => rfl) (fun x hx => by cases hx) (by simp [views, hcl]) (fun c2 g1 K2 K3 K5 i hi => ?_) h hne
  rw [List.nil_append] at c2 hi ⊢
  have hR1 : ∀ b i v, rdr w g.pub b i v → rdr w g1.pub b i v := rdr_mono fun b hb => ⟨K2 b hb, rfl⟩
  by_cases hio : i < ops.length
  · have e1 : (views st.get ops ++ caps).getD i .undef = view st.get ops[i] := by
      simp [views, List.getD_eq_getElem?_getD, List.getElem?_append, hio]
    have e2 : ((ops.map a.eval).toArray ++ cvals).getD i undef = a.eval ops[i] := by
      simp [Array.getD_eq_getD_getElem?, Array.getElem?_append, hio]
    rw [e1, e2]
    have hnr : noRow (view st.get ops[i]) = true := by rw [← e1]; exact c2 _ (mem_of_getD hi)
    exact view_rel H K2 K3 K5 ops[i] (fun p hp => pubss_mem (List.getElem_mem hio) hp) (noRow_own hnr).2
  · have hil : i - ops.length < caps.length := by simp [views] at hi; omega
    have e1 : (views st.get ops ++ caps).getD i .undef = caps.getD (i - ops.length) .undef := by
      simp [views, List.getD_eq_getElem?_getD, List.getElem?_append, hio]
    have e2 : ((ops.map a.eval).toArray ++ cvals).getD i undef = cvals.getD (i - ops.length) undef := by
      simp [Array.getD_eq_getD_getElem?, Array.getElem?_append, hio]
    rw [e1, e2]
    have hl := (hcap _ hil).mono (bl' := g1.bl) hR1 fun id _ => by rw [K3]
    exact ⟨(VRel_of_L hl).1, fun id hid => hcid id (List.mem_flatMap.2 ⟨_, mem_of_getD hil, hid⟩)⟩

end Go.Ab
end

section
/-! Maps. -/
set_option autoImplicit false
set_option linter.unusedVariables false
set_option linter.unusedSimpArgs false
namespace Go.Ab
variable {P : Program} {C : Cfg} {E : Ent} {g : Gh} {st : St} {a : Act} {w : World} {o : Oper} {R : Type} {fail : R} {kp : Dat → R} {k : Eff → R} {res : R}

theorem keyOf_spec {T : Tys} {kt : TypeId} {v : AV} {key : Dat} (h : keyOf T kt v = some key) : v = .d key ∧ (T kt).kind.isKey = true ∧ headOk (T kt).kind key = true := by
  cases v <;> simp only [keyOf] at h <;> try (cases h; done)
  rename_i x
  cases hc : (T kt).kind.isKey && headOk (T kt).kind x with
  | false => rw [hc] at h; cases h
  | true =>
    rw [hc] at h
    cases h
    rw [Bool.and_eq_true] at hc
    exact ⟨rfl, hc.1, hc.2⟩

/-- How a key reads: kinds of keys. -/
inductive KeyV (d : TypeDesc) : Dat → Value → Prop
  | int (k : IntKind) (n : Int) (h : d = .int k) : KeyV d (.int k n) (.int k n)
  | str (s : List UInt8) (h : d = .string) : KeyV d (.str s) (.string ⟨s.toArray⟩)
  | bool (b : Bool) (h : d = .bool) : KeyV d (.bool b) (.bool b)

theorem keyV_of {T : Tys} (hT : ∀ t, T t = tyOf P t) {kt : TypeId} (hk : (T kt).kind.isKey = true) : ∃ d, P.underlying kt = some d ∧ ∀ (R' : Rdr) (x : Dat) (v : Value), DRep T R' x v → WT (T kt).kind x → KeyV d x v := by
  have hne : (T kt).kind ≠ .other := fun h => by rw [h] at hk; cases hk
  obtain ⟨_, _, h5, _⟩ := tk_some hT hne
  cases hkk : (T kt).kind <;> rw [hkk] at hk <;> try (cases hk; done)
  · rename_i ik
    have hd := tk_int (h5.symm.trans hkk)
    refine ⟨_, hd, fun R' x v h1 h2 => ?_⟩
    cases h1 <;> simp only [WT] at h2
    subst h2
    exact .int _ _ rfl
  · have hd : P.underlying kt = some .bool := tk_bool (h5.symm.trans hkk)
    refine ⟨_, hd, fun R' x v h1 h2 => ?_⟩
    cases h1 <;> simp only [WT] at h2
    exact .bool _ rfl
  · have hd := tk_string (h5.symm.trans hkk)
    refine ⟨_, hd, fun R' x v h1 h2 => ?_⟩
    cases h1 <;> simp only [WT] at h2
    exact .str _ rfl

theorem bytes_beq (a b : List UInt8) : ((⟨a.toArray⟩ : ByteArray) == ⟨b.toArray⟩) = (a == b) := by
  show (a.toArray == b.toArray) = _
  simp

theorem sameNow_eq {d : TypeDesc} {x y : Dat} {v u : Value} (h1 : KeyV d x v) (h2 : KeyV d y u) : Instr.sameNow d v u = some (keyEq x y) ∧ (keyEq x y = true → v = u) := by
  cases h1 <;> cases h2 <;> simp_all [Instr.sameNow, keyEq, bytes_beq]

theorem find_spec {T : Tys} {R' : Rdr} {kt lt : TypeId} {d : TypeDesc} (hkv : ∀ (x : Dat) (v : Value), DRep T R' x v → WT (T kt).kind x → KeyV d x v) {key : Dat} {kv : Value} (hd : KeyV d key kv) :
    ∀ (rows : List (List Dat)) (es : List MapEntry) (i : Nat), EntsRel T R' kt lt rows es →
      (mapHas key rows = false → Instr.findNow d kv es i = some none ∧ (∀ z, mapVal key z rows = z) ∧ ∀ v, mapPut key v rows = rows ++ [key :: v]) ∧
      (mapHas key rows = true → ∃ j en vs, es[j]? = some en ∧ Instr.findNow d kv es i = some (some (i + j, en.val)) ∧ en.key = kv ∧ (∀ z, mapVal key z rows = vs) ∧ TV T R' lt vs en.val ∧ ∀ v, mapPut key v rows = rows.set j (key :: v))
  | [], [], i, _ => ⟨fun _ => ⟨rfl, fun _ => rfl, fun _ => rfl⟩, fun h => by cases h⟩
  | row :: rows, en :: es, i, h => by
    obtain ⟨⟨kd, vs, rfl, q3, q4, q5, q6, q7, q8⟩, h2⟩ := h
    obtain ⟨s1, s2⟩ := sameNow_eq hd (hkv kd en.key q3 q4)
    obtain ⟨ih1, ih2⟩ := find_spec hkv hd rows es (i + 1) h2
    have hhd : (kd :: vs).headD .nilP = kd := rfl
    unfold mapHas
    simp only [mapVal, mapPut, hhd, List.tail_cons]
    unfold Instr.findNow
    rw [s1]
    cases he : keyEq key kd with
    | true =>
      refine ⟨fun h => (by simp at h), fun _ => ⟨0, en, vs, rfl, rfl, (s2 he).symm, fun z => rfl, ⟨q5, q6, q7, q8⟩, fun v => rfl⟩⟩
    | false =>
      simp only [Bool.false_or, cond_false]
      refine ⟨fun h => ?_, fun h => ?_⟩
      · obtain ⟨r1, r2, r3⟩ := ih1 h
        exact ⟨r1, r2, fun v => by rw [r3]; rfl⟩
      · obtain ⟨j, en', vs', r1, r2, r3, r4, r5, r6⟩ := ih2 h
        exact ⟨j + 1, en', vs', by simpa using r1, by rw [r2]; congr 3; omega, r3, r4, r5, fun v => by rw [r6]; rfl⟩
  | [], _ :: _, _, h => h.elim
  | _ :: _, [], _, h => h.elim

theorem run_checkKey {kt : TypeId} {d : TypeDesc} (hty : P.underlying kt = some d) {key : Dat} {kv : Value} (hd : KeyV d key kv) (b : Bool) (w : World) : (Instr.checkKey b 10000 kt kv).run P w = .ok () w := by
  have : ∀ n, (Instr.checkKey b (n + 1) kt kv).run P w = .ok () w := fun n => by
    cases hd <;> rename_i h <;> subst h <;> simp [Instr.checkKey, run_underlying hty]
  exact this 9999

theorem run_findKey {kt : TypeId} {d : TypeDesc} (hty : P.underlying kt = some d) {kv : Value} {es : List MapEntry} {r : Option (Nat × Value)} (h : Instr.findNow d kv es 0 = some r) (w : World) : (Instr.findKey kt kv es).run P w = .ok r w := by
  unfold Instr.findKey
  simp [run_underlying hty, h]

theorem map_ty {T : Tys} (hT : ∀ t, T t = tyOf P t) {t kt lt : TypeId} (h : (T t).kind = .map kt lt) : P.underlying t = some (.map kt lt) := by
  obtain ⟨_, _, h5, _⟩ := tk_some hT (t := t) (by rw [h]; simp)
  rw [h] at h5
  generalize P.underlying t = d at h5
  cases d with
  | none => cases h5
  | some d => cases d <;> first | (cases h5; rfl) | cases h5

theorem ev_lookup (hT : ∀ t, C.ty t = tyOf P t) (H : Rel C.ty E g st a w) {t : TypeId} {m i : Operand} {q : Bool} (hop : o.op = .lookup t m i q) (h : evOp C fail kp st.get st.box o k = res) (hne : res ≠ fail) : Ends P C E st a w o kp k res := by
  unfold evOp at h
  simp only [hop] at h
  split at h
  · rename_i kt lt hk
    have hty := map_ty hT hk
    split at h
    · rename_i p key zs hp hkey hzs
      obtain ⟨u, rows⟩ := p
      obtain ⟨hc, h⟩ := cond_ends h hne
      simp only [Bool.and_eq_true] at hc
      obtain ⟨⟨c1, c2⟩, c3⟩ := hc
      obtain ⟨o1, o2, b, ob, o3, o4⟩ := objRows_rel H (isTag_map t) hp
      rcases o4 with ⟨he, _⟩ | ⟨t', kt', lt', es, cl, he, hk', hv, rfl, hents⟩
      · exact absurd he fun h => by have h : 1000001 + (show Nat from t) = 1000000 := h; omega
      have ht' : t = t' := Nat.add_left_cancel (show (1000001 : Nat) + t = 1000001 + t' from he)
      subst ht'
      rw [hk] at hk'
      cases hk'
      obtain ⟨k1, k2, k3⟩ := keyOf_spec hkey
      obtain ⟨d, hd1, hd2⟩ := keyV_of hT k2
      have hkd : operand st.get i = .d key := view_d H k1 (fun e r h => by subst h; revert k2 k3; cases (C.ty kt).kind <;> simp [TK.isKey, headOk])
      have hdr : DRep C.ty (rdr w g.pub) key (a.eval i) := by
        have := (operand_rel H i (by rw [hkd]; rfl)).1
        rw [hkd] at this
        exact this
      have hkv := hd2 _ _ _ hdr (WT_of_head k3)
      obtain ⟨f1, f2⟩ := find_spec (lt := lt) (hd2 (rdr w g.pub)) hkv rows es.toList 0 hents
      obtain ⟨z, z1, z2, z3, z4, z5⟩ := zok_run hT c1
      have hget := run_getObj (P := P) o3 (fun _ _ _ h => by cases h)
      have hck := run_checkKey (P := P) hd1 hkv es.isEmpty w
      obtain ⟨v, hv1, hv2⟩ : ∃ v, (∀ ok, (Instr.lookup t (a.eval m) (a.eval i) ok).run P w = .ok (if ok then .tuple #[v, .bool (mapHas key rows)] else v) w) ∧ TV C.ty (rdr w g.pub) lt (mapVal key zs rows) v := by
        cases hh : mapHas key rows with
        | false =>
          obtain ⟨r1, r2, _⟩ := f1 hh
          have hf := run_findKey (P := P) hd1 r1 w
          refine ⟨z, fun ok => ?_, ?_⟩
          · rw [hv]
            simp [Instr.lookup, run_underlying hty, hget, hck, hf, z1]
          · rw [r2]
            obtain ⟨d1, d2⟩ := toDs_rel (z5 (rdr w g.pub) g.bl) hzs
            obtain ⟨d3, d4⟩ := headsOk_at _ _ c3
            refine ⟨d3.symm, d1.symm, fun j hj => ⟨d2 j hj, d4 j (by omega)⟩, ?_⟩
            cases ha : (C.ty lt).kind.isAgg with
            | true =>
              rw [ha] at z4
              cases z <;> simp only [isAggV] at z4 <;> try (cases z4; done)
              exact .inl ⟨rfl, _, rfl⟩
            | false =>
              right
              refine ⟨rfl, ?_⟩
              have hl : (C.ty lt).cells = [lt] := by
                refine tk_nonagg hT (fun h => ?_) ha fun ts h => ?_
                · rw [h] at c2; cases c2
                · rw [h] at c2; cases c2
              obtain ⟨_, d5⟩ := z5 (rdr w g.pub) g.bl
              have hc0 : z.cells.size = 1 := by rw [z2, hl]; rfl
              cases z <;> first | rfl | (rw [ha] at z4; cases z4; done) | (exfalso; rename_i vs; simp only [Value.cells] at d5 hc0; have := (d5 0 (by simp [zeroCells, hl])).one; simp [one1] at this)
        | true =>
          obtain ⟨j, en, vs, r1, r2, r3, r4, r5, _⟩ := f2 hh
          have hf := run_findKey (P := P) hd1 r2 w
          refine ⟨en.val, fun ok => ?_, by rw [r4]; exact r5⟩
          rw [hv]
          simp [Instr.lookup, run_underlying hty, hget, hck, hf]
      obtain ⟨m1, m2⟩ := hv2.mk (bl := g.bl) (all := mapVal key zs rows) (j := 0) (by rw [List.drop_zero, ← hv2.1, List.take_length])
      cases q with
      | true =>
        rw [cond_true] at h
        refine .of h (.plain H ⟨rfl, rfl, rfl⟩ (x := .tuple #[v, .bool (mapHas key rows)]) (by simp [execOp, hop, hv1]) ⟨_, rfl, rfl, fun j hj => ?_, fun x hx => ?_⟩ rfl (fun id h => by cases h) fun u h => by cases h)
        · have : j = 0 ∨ j = 1 := by simp at hj; omega
          rcases this with rfl | rfl
          · exact m1
          · exact DRep.bool _
        · simp at hx
          rcases hx with rfl | rfl
          · exact m2
          · rfl
      | false =>
        rw [cond_false] at h
        obtain ⟨q1, q2, q3⟩ := VRel_of_M (ot := g.ot) m1
        exact .of h (.plain H ⟨rfl, rfl, rfl⟩ (x := v) (by simp [execOp, hop, hv1]) q1 q2 (fun id h => by simp only at h; rw [m2] at h; cases h) fun u h => by simp only at h; rw [q3] at h; cases h)
    · exact absurd h.symm hne
  · exact absurd h.symm hne

theorem EntsRel.len {T : Tys} {R' : Rdr} {kt lt : TypeId} : ∀ {rows : List (List Dat)} {es : List MapEntry}, EntsRel T R' kt lt rows es → rows.length = es.length
  | [], [], _ => rfl
  | _ :: _, _ :: _, h => by simp [EntsRel.len h.2]
  | [], _ :: _, h => h.elim
  | _ :: _, [], h => h.elim

theorem EntsRel.set {T : Tys} {R' : Rdr} {kt lt : TypeId} {row : List Dat} {en : MapEntry} (hn : EntRel T R' kt lt row en) : ∀ {rows : List (List Dat)} {es : List MapEntry} (j : Nat), EntsRel T R' kt lt rows es → EntsRel T R' kt lt (rows.set j row) (es.set j en)
  | [], [], j, _ => trivial
  | _ :: _, _ :: _, 0, h => ⟨hn, h.2⟩
  | _ :: _, _ :: _, j + 1, h => ⟨h.1, EntsRel.set hn j h.2⟩
  | [], _ :: _, _, h => h.elim
  | _ :: _, [], _, h => h.elim

theorem EntsRel.snoc {T : Tys} {R' : Rdr} {kt lt : TypeId} {row : List Dat} {en : MapEntry} (hn : EntRel T R' kt lt row en) : ∀ {rows : List (List Dat)} {es : List MapEntry}, EntsRel T R' kt lt rows es → EntsRel T R' kt lt (rows ++ [row]) (es ++ [en])
  | [], [], _ => ⟨hn, trivial⟩
  | _ :: _, _ :: _, h => ⟨h.1, EntsRel.snoc hn h.2⟩
  | [], _ :: _, h => h.elim
  | _ :: _, [], h => h.elim

theorem sameBits_key {d : TypeDesc} {x : Dat} {v : Value} (h : KeyV d x v) (n : Nat) : Instr.sameBits n v v = true := by
  cases h <;> cases n <;> simp [Instr.sameBits, bytes_beq]

theorem ev_mapUpdate (hT : ∀ t, C.ty t = tyOf P t) (H : Rel C.ty E g st a w) {t : TypeId} {m i x : Operand} (hop : o.op = .mapUpdate t m i x ∨ o.op = .insert t m i x) (h : evOp C fail kp st.get st.box o k = res) (hne : res ≠ fail) : Ends P C E st a w o kp k res := by
  have h' : (match (C.ty t).kind with
    | .map kt lt => match objRows st.get m (mapTag t) with
      | some p => match keyOf C.ty kt (view st.get i), toD C.ty (retype (C.ty lt).kind (operand st.get x)) with
        | some key, some c => cond ((C.ty lt).kind.known && headsOk C.ty (C.ty lt).cells c && cond (isAggA (operand st.get x)) (C.ty lt).kind.isAgg (!(C.ty lt).kind.isAgg)) (k { v := .undef, uw := [(p.1, .own (mapTag t) (mapPut key c p.2))] }) fail
        | _, _ => fail
      | none => fail
    | _ => fail) = res := by
    unfold evOp at h
    rcases hop with hop | hop <;> (simp only [hop] at h; exact h)
  clear h
  have hexec : (execOp a.eval o).run P w = ((Instr.mapUpdate t (a.eval m) (a.eval i) (a.eval x)).run P w).andThen fun _ w' => .ok .skip w' := by
    rcases hop with hop | hop <;> simp [execOp, hop]
  split at h'
  · rename_i kt lt hk
    have hty := map_ty hT hk
    split at h'
    · rename_i p hp
      split at h'
      · rename_i key c hkey hc
        obtain ⟨u, rows⟩ := p
        obtain ⟨hcc, h⟩ := cond_ends h' hne
        simp only [Bool.and_eq_true] at hcc
        obtain ⟨⟨c2, c3⟩, c4⟩ := hcc
        obtain ⟨o1, o2, b, ob, o3, o4⟩ := objRows_rel H (isTag_map t) hp
        have hother : (C.ty (mapTag t)).kind = .other := by
          have htm := H.tm u
          rw [o1] at htm
          rcases htm.1 with ⟨_, hn, _⟩ | ⟨hn, _⟩ | ⟨_, h2, _⟩
          · exact absurd hn (by rw [isTag_map]; simp)
          · exact absurd hn (by rw [isTag_map]; simp)
          · exact h2
        rcases o4 with ⟨he, _⟩ | ⟨t', kt', lt', es, cl, he, hk', hv, rfl, hents⟩
        · exact absurd he fun h => by have h : 1000001 + (show Nat from t) = 1000000 := h; omega
        have ht' : t = t' := Nat.add_left_cancel (show (1000001 : Nat) + t = 1000001 + t' from he)
        subst ht'
        rw [hk] at hk'
        cases hk'
        obtain ⟨k1, k2, k3⟩ := keyOf_spec hkey
        obtain ⟨d, hd1, hd2⟩ := keyV_of hT k2
        have hkd : operand st.get i = .d key := view_d H k1 (fun e r h => by subst h; revert k2 k3; cases (C.ty kt).kind <;> simp [TK.isKey, headOk])
        have hdr : DRep C.ty (rdr w g.pub) key (a.eval i) := by
          have := (operand_rel H i (by rw [hkd]; rfl)).1
          rw [hkd] at this
          exact this
        have hkv := hd2 _ _ _ hdr (WT_of_head k3)
        have hno : isOwn (operand st.get x) = false := by
          have := toD_own hc
          rwa [retype_own] at this
        obtain ⟨v1, _, _⟩ := operand_rel H x hno
        obtain ⟨d1, d2⟩ := toD_rel (retype_rel (kd := (C.ty lt).kind) v1) hc
        obtain ⟨d3, d4⟩ := headsOk_at _ _ c3
        have hsh : ((C.ty lt).kind.isAgg = true ∧ ∃ cs, a.eval x = .agg cs) ∨ ((C.ty lt).kind.isAgg = false ∧ one1 (a.eval x) = true) := by
          cases hx : isAggA (operand st.get x) with
          | true =>
            rw [hx, cond_true] at c4
            left
            refine ⟨c4, ?_⟩
            cases hxx : operand st.get x <;> rw [hxx] at hx <;> try (cases hx; done)
            rw [hxx] at v1
            obtain ⟨vs, hvs, _⟩ := v1
            exact ⟨vs, hvs⟩
          | false =>
            rw [hx, cond_false] at c4
            right
            refine ⟨by simpa using c4, ?_⟩
            cases hxx : operand st.get x <;> rw [hxx] at hx <;> try (cases hx; done)
            case ifc t y => rw [hxx] at v1; obtain ⟨u, hu, _⟩ := v1; rw [hu]; rfl
            all_goals first
              | (rw [hxx] at v1 hc; exact (leaf_rel rfl v1).one)
              | (exfalso; rw [hxx] at hc; revert hc; simp [retype, toD, toD1]; done)
        have hnew : EntRel C.ty (rdr w g.pub) kt lt (key :: c) { key := a.eval i, val := a.eval x, born := cl } := ⟨key, c, rfl, hdr, WT_of_head k3, d3.symm, d1.symm, fun j hj => ⟨d2 j hj, d4 j (by omega)⟩, hsh⟩
        obtain ⟨f1, f2⟩ := find_spec (lt := lt) (hd2 (rdr w g.pub)) hkv rows es.toList 0 hents
        have hget := run_getObj (P := P) o3 (fun _ _ _ h => by cases h)
        have hset := fun ob => run_setObj (P := P) o3 (fun _ _ _ h => by cases h) ob
        have hck := run_checkKey (P := P) hd1 hkv false w
        obtain ⟨es', cl', hrun, hents'⟩ : ∃ es' cl', (Instr.mapUpdate t (a.eval m) (a.eval i) (a.eval x)).run P w = .ok () { w with heap := w.heap.setIfInBounds b (.map es' cl') } ∧ EntsRel C.ty (rdr w g.pub) kt lt (mapPut key c rows) es'.toList := by
          rw [hv]
          cases hh : mapHas key rows with
          | false =>
            obtain ⟨r1, _, r3⟩ := f1 hh
            have hf := run_findKey (P := P) hd1 r1 w
            refine ⟨es.push { key := a.eval i, val := a.eval x, born := cl }, cl + 1, ?_, ?_⟩
            · simp [Instr.mapUpdate, run_underlying hty, hget, hck, hf, hset]
            · rw [r3, Array.toList_push]
              exact hents.snoc hnew
          | true =>
            obtain ⟨j, en, vs, r1, r2, r3, _, _, r6⟩ := f2 hh
            have hf := run_findKey (P := P) hd1 r2 w
            have hsb : Instr.sameBits 10000 en.key (a.eval i) = true := by rw [r3]; exact sameBits_key hkv _
            have hjl : j < es.size := by
              rcases Nat.lt_or_ge j es.size with h | h
              · exact h
              · rw [List.getElem?_eq_none (by simpa using h)] at r1; cases r1
            have hje : es[j] = en := by
              rw [List.getElem?_eq_getElem (by simpa using hjl)] at r1
              simpa using r1
            refine ⟨es.modify j fun e => { e with key := a.eval i, val := a.eval x }, cl, ?_, ?_⟩
            · simp [Instr.mapUpdate, run_underlying hty, hget, hck, hf, Instr.keyThatStays, hjl, hje, hsb, hset]
            · rw [r6, Array.toList_modify]
              have : es.toList.modify j (fun e => { e with key := a.eval i, val := a.eval x }) = es.toList.set j { key := a.eval i, val := a.eval x, born := en.born } := by
                apply List.ext_getElem?
                intro q
                simp only [List.getElem?_modify, List.getElem?_set]
                by_cases e : j = q
                · subst e; simp [hjl, hje]
                · simp [e]
              rw [this]
              refine EntsRel.set ?_ j hents
              exact ⟨key, c, rfl, hdr, WT_of_head k3, d3.symm, d1.symm, fun j hj => ⟨d2 j hj, d4 j (by omega)⟩, hsh⟩
        refine .of h (next_setObj H (y := undef) (ob' := .map es' cl') o1 o2 ⟨isTag_map t, hother⟩ o3 (by rw [hv]; rfl) rfl (.inr ⟨by rw [hexec, hrun]; rfl, rfl⟩) (.inr ⟨t, kt, lt, es', cl', rfl, hk, hv, rfl, hents'⟩) trivial rfl rfl fun u => rfl)
      · exact absurd h'.symm hne
    · exact absurd h'.symm hne
  · exact absurd h'.symm hne

end Go.Ab
end

section
/-! Every operation. -/
set_option autoImplicit false
set_option linter.unusedVariables false
set_option linter.unusedSimpArgs false
namespace Go.Ab
variable {P : Program} {C : Cfg} {E : Ent} {g : Gh} {st : St} {a : Act} {w : World} {o : Oper} {R : Type} {fail : R} {kp : Dat → R} {k : Eff → R} {res : R}

theorem run_call {fv : Operand} {args : Array Operand} {ats : Array TypeId} (hop : o.op = .call ⟨.value fv, args, ats⟩) {f : FuncId} {cvals : Array Value} (hev : a.eval fv = .func (.func f) #[] cvals) (fn : Func) (h1 : P.funcs[f]? = some fn) (h2 : fn.name ≠ "runtime.NumGoroutine") (h3 : fn.body.isSome = true) :
    (execOp a.eval o).run P w = .ok (.enter f ((args.toList.map a.eval).toArray ++ cvals)) w := by
  have e : (args.toList.map a.eval).toArray = args.map a.eval := by apply Array.ext'; simp
  rw [e]
  cases hb : fn.body with
  | none => rw [hb] at h3; cases h3
  | some c => simp [execOp, hop, resolve, Deferred.ofValue, hev, invoke, callFunc, h1, h2, hb]

theorem ev_call (hT : ∀ t, C.ty t = tyOf P t) (hbind : C.bind = bindR) (hCD : ∀ f args xs r, C.CD f args xs = some r → Good P C.ty f args xs r) (H : Rel C.ty E g st a w) {fv : Operand} {args : Array Operand} {ats : Array TypeId} (hop : o.op = .call ⟨.value fv, args, ats⟩)
    (h : evOp C fail kp st.get st.box o k = res) (hne : res ≠ fail) : Ends P C E st a w o kp k res := by
  unfold evOp at h
  simp only [hop] at h
  split at h
  · rename_i f caps hx
    obtain ⟨h1, h2, _⟩ := operand_rel H fv (by rw [hx]; rfl)
    rw [hx] at h1 h2
    obtain ⟨vs, hev, hcs⟩ := h1
    refine call_core hT hbind hCD H (fun fn => run_call hop hev fn) hcs.1 hcs.2 (fun id hid => h2 id ?_) h hne
    obtain ⟨c, hc, hid⟩ := List.mem_flatMap.1 hid
    obtain ⟨j, hj, rfl⟩ := List.mem_iff_getElem.1 hc
    have := hcs.2 j hj
    rw [List.getD_eq_getElem?_getD, List.getElem?_eq_getElem hj, Option.getD_some] at this
    refine List.mem_flatMap.2 ⟨caps[j], List.getElem_mem hj, ?_⟩
    rw [← (VRel_of_L (ot := g.ot) this).2.2.2]
    exact hid
  · rename_i x hx
    obtain ⟨hi, h⟩ := cond_ends h hne
    obtain ⟨h1, _, _⟩ := operand_rel H fv (by rw [hx]; rfl)
    rw [hx] at h1
    have hd : DRep C.ty (rdr w g.pub) x (a.eval fv) := h1
    generalize hev : a.eval fv = v at hd
    cases hd <;> try (cases hi; done)
    rename_i f caps vals hl hr _
    simp only [Dat.fid, Dat.fcaps, evCallC_eq] at h
    have hcap : ∀ i, i < (caps.map capAV).length → LRel C.ty (rdr w g.pub) g.bl ((caps.map capAV).getD i .undef) (vals.getD i undef) := fun i hi => by
      have hi' : i < caps.length := by simpa using hi
      have e : (caps.map capAV).getD i .undef = capAV (caps.getD i .nilP) := by simp [List.getD_eq_getElem?_getD, hi']
      rw [e]
      exact cap_rel (hr i hi')
    have hcid : ∀ id, id ∈ idsOfs (caps.map capAV) → (st.box id).isSome = true := fun id hid => by
      obtain ⟨c, hc, hid⟩ := List.mem_flatMap.1 hid
      obtain ⟨y, _, rfl⟩ := List.mem_map.1 hc
      rw [idsOf_cap] at hid
      cases hid
    exact call_core hT hbind hCD H (f := f) (cvals := vals) (caps := caps.map capAV) (fun fn => run_call hop hev fn) (by simp [hl]) hcap hcid h hne
  · exact absurd h.symm hne

theorem DRep.ifc_inv {T : Tys} {R' : Rdr} {t : TypeId} {cells : List Dat} {v : Value} (h : DRep T R' (.ifc t cells) v) : ∃ u, v = .iface t u ∧ TV T R' t cells u := by
  cases h with
  | ifc _ _ u hk hl hlt hr ht => exact ⟨u, rfl, hlt, hl.symm, fun j hj => ⟨hr j hj, ht j hj⟩, hk⟩

theorem methOf_spec {t : TypeId} {m : String} {f : FuncId} (h : methOf P t m = some f) : ∃ i mm, P.info? t = some i ∧ i.methods.find? (·.name == m) = some mm ∧ mm.path = #[] ∧ mm.func = some (f, false) ∧ (tkOf (P.underlying t)).isVal = true := by
  unfold methOf at h
  split at h
  · rename_i i hi
    split at h
    · rename_i mm hm
      split at h
      · rename_i f' hf
        cases hc : mm.path.toList.isEmpty && (tkOf (P.underlying t)).isVal with
        | false => rw [hc] at h; cases h
        | true =>
          rw [hc] at h
          cases h
          rw [Bool.and_eq_true] at hc
          refine ⟨i, mm, hi, hm, ?_, hf, hc.2⟩
          apply Array.ext'
          simpa using hc.1
      · cases h
    · cases h
  · cases h

theorem run_method {t : TypeId} {m : String} {f : FuncId} (h : methOf P t m = some f) (n : Nat) (v : Value) (w : World) : (method (n + 1) t v m).run P w = .ok (f, v) w := by
  obtain ⟨i, mm, h1, h2, h3, h4, h5⟩ := methOf_spec h
  unfold method
  cases hu : P.underlying t with
  | none => rw [hu] at h5; cases h5
  | some d =>
    rw [hu] at h5
    have hnp : ∀ e, d ≠ .pointer e := fun e he => by rw [he] at h5; cases h5
    simp [typeInfo, h1, h2, h3, h4, follow, receiverAt, run_underlying hu]
    cases d <;> first | (exact absurd rfl (hnp _)) | simp [Place.get]

theorem run_invoke {r : Operand} {m : String} {args : Array Operand} {ats : Array TypeId} (hop : o.op = .call ⟨.invoke r m, args, ats⟩) {t : TypeId} {u : Value} (hev : a.eval r = .iface t u) {f : FuncId} (hm : methOf P t m = some f) (fn : Func) (h1 : P.funcs[f]? = some fn) (h2 : fn.name ≠ "runtime.NumGoroutine") (h3 : fn.body.isSome = true) :
    (execOp a.eval o).run P w = .ok (.enter f (#[u] ++ (args.toList.map a.eval).toArray)) w := by
  have e : (args.toList.map a.eval).toArray = args.map a.eval := by apply Array.ext'; simp
  rw [e]
  have hmm : ∀ w, (method (P.types.size + Made.depth) t u m).run P w = .ok (f, u) w := fun w => by
    have hdp : 0 < Made.depth := by decide
    obtain ⟨n, hn⟩ : ∃ n, P.types.size + Made.depth = n + 1 := ⟨P.types.size + Made.depth - 1, by omega⟩
    rw [hn]; exact run_method hm n u w
  have hx0 : ∀ (xs : Array Value) (v : Value), (#[v] ++ xs)[0]? = some v := fun xs v => by simp [Array.getElem?_append]
  have hx1 : ∀ (xs : Array Value) (v : Value), (#[v] ++ xs).extract 1 (#[v] ++ xs).size = xs := fun xs v => by apply Array.ext'; simp
  cases hb : fn.body with
  | none => rw [hb] at h3; cases h3
  | some c =>
    have hres : ∀ w, (resolve a.eval ⟨.invoke r m, args, ats⟩ o.type).run P w = .ok { target := .fn (.method m) #[], args := #[.iface t u] ++ args.map a.eval } w := fun w => by simp [resolve, hev]
    have hinv : ∀ w, (invoke (.fn (.method m) #[]) (#[.iface t u] ++ args.map a.eval)).run P w = .ok (.enter f (#[u] ++ args.map a.eval)) w := fun w => by
      unfold invoke
      simp only [hx0, hx1]
      simp [callMethod, hmm, callFunc, h1, h2, hb]
    simp only [execOp, hop, Sem.run_bind, hres, Result.andThen, hinv]

theorem ev_invoke (hT : ∀ t, C.ty t = tyOf P t) (hM : ∀ t m, C.meth t m = methOf P t m) (hbind : C.bind = bindR) (hCD : ∀ f args xs r, C.CD f args xs = some r → Good P C.ty f args xs r)
    (hCI : ∀ m x args xs r, C.CI m x args xs = some r → ∃ t cells f, x = .ifc t cells ∧ C.meth t m = some f ∧ C.CD f (mkVal (C.ty t).kind (coerces C.ty (C.ty t).cells 0 cells) :: args) xs = some r)
    (H : Rel C.ty E g st a w) {rv : Operand} {m : String} {args : Array Operand} {ats : Array TypeId} (hop : o.op = .call ⟨.invoke rv m, args, ats⟩)
    (h : evOp C fail kp st.get st.box o k = res) (hne : res ≠ fail) : Ends P C E st a w o kp k res := by
  unfold evOp at h
  simp only [hop] at h
  have views_val : ∀ (g1 : Gh) (K2 : ∀ b, g.pub b → g1.pub b) (K3 : g1.bl = g.bl) (K5 : ∀ p, p ∈ pubss st.get args.toList → ∃ e r, p.2 = .d (.lst e r) ∧ DRep C.ty (rdr w g1.pub) (.lst e r) (a.tmps.getD p.1 undef)) (i : Nat), i < args.toList.length → noRow ((views st.get args.toList).getD i .undef) = true →
      VRel C.ty (rdr w g1.pub) g1.bl g1.ot ((views st.get args.toList).getD i .undef) ((args.toList.map a.eval).toArray.getD i undef) ∧ ∀ id ∈ idsOf ((views st.get args.toList).getD i .undef), (st.box id).isSome = true := fun g1 K2 K3 K5 i hi hnr => by
    have hi2 : i < args.size := by simpa using hi
    have e1 : (views st.get args.toList).getD i .undef = view st.get args.toList[i] := by
      simp [views, List.getD_eq_getElem?_getD, hi2]
    have e2 : (args.toList.map a.eval).toArray.getD i undef = a.eval args.toList[i] := by
      simp [Array.getD_eq_getD_getElem?, hi2]
    rw [e1] at hnr ⊢
    rw [e2]
    exact view_rel H K2 K3 K5 args.toList[i] (fun p hp => pubss_mem (List.getElem_mem hi) hp) (noRow_own hnr).2
  split at h
  · rename_i t x hx
    split at h
    · rename_i f hf
      rw [hM] at hf
      have h1 := (operand_rel H rv (by rw [hx]; rfl))
      rw [hx] at h1
      obtain ⟨⟨u, hev, hxu⟩, hids, _⟩ := h1
      have hxv : ∀ R' bl ot, (∀ b i v, rdr w g.pub b i v → R' b i v) → bl = g.bl → VRel C.ty R' bl ot x u := fun R' bl ot hR hbl => by
        subst hbl
        cases x
        case agg xs =>
          obtain ⟨vs, q1, q2⟩ := hxu
          exact ⟨vs, q1, q2.mono hR fun _ _ => rfl⟩
        case undef => trivial
        all_goals first | (exact (VRel_of_L (LRel.mono hR (fun _ _ => rfl) hxu)).1) | exact (hxu : False).elim
      have hxid : ∀ id ∈ idsOf x, id ∈ idsOf (.ifc t x) := fun id hid => by
        cases x <;> first | exact (hxu : False).elim | exact hid | (cases hid; done)
      refine call_coreG hT hbind (D := C.CD f) (pre := []) (fun args xs r h => hCD f args xs r h) H (args0 := x :: views st.get args.toList) (ops := args.toList) (fun fn q1 q2 q3 => run_invoke hop hev hf fn q1 q2 q3) (fun _ => rfl) (fun x hx => by cases hx) (by simp [views, Nat.add_comm]) (fun c2 g1 K2 K3 K5 i hi => ?_) h hne
      rw [List.nil_append] at c2 hi ⊢
      cases i with
      | zero =>
        refine ⟨?_, fun id hid => hids id (hxid id hid)⟩
        simp only [List.getD_cons_zero]
        have e2 : (#[u] ++ (args.toList.map a.eval).toArray).getD 0 undef = u := by simp [Array.getD_eq_getD_getElem?]
        rw [e2]
        exact hxv _ _ _ (rdr_mono fun b hb => ⟨K2 b hb, rfl⟩) K3
      | succ i =>
        have hi' : i < args.toList.length := by simpa [views] using hi
        have e2 : (#[u] ++ (args.toList.map a.eval).toArray).getD (i + 1) undef = (args.toList.map a.eval).toArray.getD i undef := by
          simp [Array.getD_eq_getD_getElem?, Array.getElem?_append]
        simp only [List.getD_cons_succ]
        rw [e2]
        exact views_val g1 K2 K3 K5 i hi' (c2 _ (List.mem_cons_of_mem _ (mem_of_getD (by simpa [views] using hi'))))
    · exact absurd h.symm hne
  · rename_i x hx
    have h1 := (operand_rel H rv (by rw [hx]; rfl)).1
    rw [hx] at h1
    have hd : DRep C.ty (rdr w g.pub) x (a.eval rv) := h1
    have hnone : (∀ args xs, C.CI m x args xs = none) → Ends P C E st a w o kp k res := fun hn => by
      exfalso
      unfold evCallG at h
      simp only at h
      obtain ⟨_, h⟩ := cond_ends h hne
      rw [hbind, hn] at h
      exact hne h.symm
    have hsome : (∃ t cells f, x = .ifc t cells ∧ C.meth t m = some f) ∨ ∀ args xs, C.CI m x args xs = none := by
      by_cases hq : ∃ args xs r, C.CI m x args xs = some r
      · obtain ⟨args, xs, r, hq⟩ := hq
        obtain ⟨t, cells, f, q1, q2, _⟩ := hCI _ _ _ _ _ hq
        exact .inl ⟨t, cells, f, q1, q2⟩
      · right
        intro args xs
        cases hr : C.CI m x args xs with
        | none => rfl
        | some r => exact absurd ⟨args, xs, r, hr⟩ hq
    rcases hsome with ⟨t, cells, f, rfl, hf⟩ | hn
    · obtain ⟨u, hev, htv⟩ := hd.ifc_inv
      obtain ⟨m1, m2⟩ := htv.mk (bl := g.bl) (all := cells) (j := 0) (by rw [List.drop_zero, ← htv.1, List.take_length])
      have hco := coerces_leaf C.ty (C.ty t).cells 0 cells
      have hcf := coerces_form C.ty (C.ty t).cells 0 cells
      obtain ⟨l1, l2, l3⟩ := mkVal_leaf (kd := (C.ty t).kind) hco hcf
      have hren : ∀ ids, rename ids (mkVal (C.ty t).kind (coerces C.ty (C.ty t).cells 0 cells)) = mkVal (C.ty t).kind (coerces C.ty (C.ty t).cells 0 cells) := fun ids => by
        have hrl : ∀ (ts : List TypeId) (j : Nat) (xs : List Dat), ∀ y ∈ coerces C.ty ts j xs, renameL ids y = y := by
          intro ts
          induction ts with
          | nil => intro j xs y hy; cases hy
          | cons t ts ih =>
            intro j xs y hy
            rcases List.mem_cons.1 hy with rfl | hy
            · cases (C.ty t).kind <;> rfl
            · exact ih _ _ y hy
        unfold mkVal
        cases (C.ty t).kind.isAgg with
        | true =>
          simp only [cond_true, rename]
          congr 1
          exact (List.map_congr_left (hrl _ _ _)).trans (List.map_id _)
        | false =>
          simp only [cond_false]
          match hcc : coerces C.ty (C.ty t).cells 0 cells with
          | [] => rfl
          | y :: ys =>
            have := hrl (C.ty t).cells 0 cells y (by rw [hcc]; exact List.mem_cons_self)
            have hf' := hcf y (by rw [hcc]; exact List.mem_cons_self)
            simp only [List.headD_cons]
            cases y <;> first | exact this | (exact absurd rfl (hf' _).1) | (exact absurd rfl ((hf' _).2.1 _)) | (exact absurd rfl ((hf' []).2.2 _ _))
      refine call_coreG hT hbind (D := C.CI m (.ifc t cells)) (f := f) (pre := [mkVal (C.ty t).kind (coerces C.ty (C.ty t).cells 0 cells)]) (fun args xs r h => ?_) H (args0 := views st.get args.toList) (ops := args.toList) (fun fn q1 q2 q3 => run_invoke hop hev (by rw [← hM]; exact hf) fn q1 q2 q3) (fun ids => by simp [renames, hren]) (fun x hx => ?_) (by simp [views, Nat.add_comm]) (fun c2 g1 K2 K3 K5 i hi => ?_) h hne
      · obtain ⟨t', cells', f', q1, q2, q3⟩ := hCI _ _ _ _ _ h
        cases q1
        rw [hf] at q2
        cases q2
        exact hCD _ _ _ _ q3
      · have : x = mkVal (C.ty t).kind (coerces C.ty (C.ty t).cells 0 cells) := by simpa using hx
        subst this
        unfold mkVal
        cases (C.ty t).kind.isAgg with
        | true => rfl
        | false =>
          simp only [cond_false]
          match hcc : coerces C.ty (C.ty t).cells 0 cells with
          | [] => rfl
          | y :: ys =>
            have h1 := hco y (by rw [hcc]; exact List.mem_cons_self)
            simp only [List.headD_cons]
            cases y
            case own e r => exact absurd h1.1 (by simp [isOwn])
            case alias t => exact absurd (h1.2.2 t) (by simp [AV.refs])
            case eptr t e i o => exact absurd (h1.2.2 t) (by simp [AV.refs])
            all_goals rfl
      · cases i with
        | zero =>
          refine ⟨?_, fun id hid => by rw [show ([mkVal (C.ty t).kind (coerces C.ty (C.ty t).cells 0 cells)] ++ views st.get args.toList).getD 0 .undef = mkVal (C.ty t).kind (coerces C.ty (C.ty t).cells 0 cells) from rfl, m2] at hid; cases hid⟩
          have e2 : (#[u] ++ (args.toList.map a.eval).toArray).getD 0 undef = u := by simp [Array.getD_eq_getD_getElem?]
          rw [e2]
          exact (VRel_of_M (m1.mono (bl' := g1.bl) (rdr_mono fun b hb => ⟨K2 b hb, rfl⟩) fun id hid => by rw [K3])).1
        | succ i =>
          have hi' : i < args.toList.length := by simpa [views] using hi
          have e2 : (#[u] ++ (args.toList.map a.eval).toArray).getD (i + 1) undef = (args.toList.map a.eval).toArray.getD i undef := by
            simp [Array.getD_eq_getD_getElem?, Array.getElem?_append]
          rw [e2]
          exact views_val g1 K2 K3 K5 i hi' (c2 _ (List.mem_cons_of_mem _ (mem_of_getD (by simpa [views] using hi'))))
    · exact hnone hn
  · exact absurd h.symm hne

/-- Every operation is sound. -/
theorem ev_any (hT : ∀ t, C.ty t = tyOf P t) (hM : ∀ t m, C.meth t m = methOf P t m) (hbind : C.bind = bindR) (hCD : ∀ f args xs r, C.CD f args xs = some r → Good P C.ty f args xs r)
    (hCI : ∀ m x args xs r, C.CI m x args xs = some r → ∃ t cells f, x = .ifc t cells ∧ C.meth t m = some f ∧ C.CD f (mkVal (C.ty t).kind (coerces C.ty (C.ty t).cells 0 cells) :: args) xs = some r)
    (H : Rel C.ty E g st a w) (h : evOp C fail kp st.get st.box o k = res) (hne : res ≠ fail) : Ends P C E st a w o kp k res := by
  cases hc : isCall o.op with
  | false => exact ev_op hT H hc h hne
  | true =>
    cases hop : o.op <;> rw [hop] at hc <;> try (cases hc; done)
    case makeMap t r => exact ev_makeMap hT H hop h hne
    case lookup t m i q => exact ev_lookup hT H hop h hne
    case mapUpdate t m i x => exact ev_mapUpdate hT H (.inl hop) h hne
    case insert t m i x => exact ev_mapUpdate hT H (.inr hop) h hne
    case range t x => exact ev_range hT H hop h hne
    case next x q => exact ev_next hT H hop h hne
    rename_i c
    obtain ⟨callee, args, ats⟩ := c
    cases callee <;> try (cases hc; done)
    · exact ev_call hT hbind hCD H hop h hne
    · exact ev_invoke hT hM hbind hCD hCI H hop h hne

end Go.Ab
end

/- Part 5 of the proof that this seat's laws lean on: an abstract machine over the model's code, its soundness, and what it says of this program. -/
import Derived.Test.YticeaojhadjaaaaGreatDoorAxD
import Derived.Laws.StructEq

section
/-! Single operations, third part: arithmetic of two operands, tuples, structs, conversions, lengths, cuts. -/
set_option autoImplicit false
set_option linter.unusedVariables false
set_option linter.unusedSimpArgs false
namespace Go.Ab
variable {P : Program} {C : Cfg} {E : Ent} {g : Gh} {st : St} {a : Act} {w : World} {o : Oper} {R : Type} {fail : R} {kp : Dat → R} {k : Eff → R} {res : R}

theorem andThen_assoc {α β γ : Type} (r : Result α) (f : α → World → Result β) (h : β → World → Result γ) : (r.andThen f).andThen h = r.andThen fun a w => (f a w).andThen h := by
  cases r <;> rfl

theorem VRel_of_M {T : Tys} {R' : Rdr} {bl : Nat → Nat} {ot : Nat → Value} {x : AV} {v : Value} (h : MRel T R' bl x v) : VRel T R' bl ot x v ∧ isOwn x = false ∧ ∀ t, x.refs t = false := by
  cases x <;> first | exact ⟨h, rfl, fun _ => rfl⟩ | exact (h : False).elim

theorem blt_lt {a b : Nat} (h : Nat.blt a b = true) : a < b := by simpa [Nat.blt_eq] using h

theorem cond_ends {b : Bool} {z : R} (h : cond b z fail = res) (hne : res ≠ fail) : b = true ∧ z = res := by
  cases b
  · exact absurd h.symm hne
  · exact ⟨rfl, h⟩

theorem ev_binAny (hT : ∀ t, C.ty t = tyOf P t) (H : Rel C.ty E g st a w) {op : BinOp} {ty yt : TypeId} {x y : Operand} (hop : o.op = .binOp op ty x y yt) (h : binAny fail k (C.ty ty).kind op (view st.get x) (view st.get y) = res) (hne : res ≠ fail) : Ends P C E st a w o kp k res := by
  have hrun : (execOp a.eval o).run P w = ((do eqGuard op ty x y (a.eval x) (a.eval y); binOp op ty (a.eval x) (a.eval y) : Sem Value).run P w).andThen fun v w' => .ok (.value v) w' := by
    simp [execOp, hop, andThen_assoc]
  unfold binAny at h
  split at h
  · rename_i ik p jk q hx hy
    by_cases hij : ik = jk
    · subst hij
      simp only [decide_true, cond_true] at h
      have := run_int h hne ty x y C.ty (rdr w g.pub) w (P := P)
      rw [← eval_int H hx, ← eval_int H hy] at this
      exact this.ends H hrun
    · simp only [hij, decide_false, cond_false] at h
      exact absurd h.symm hne
  · rename_i p q hx hy
    have := run_str h hne ty x y C.ty (rdr w g.pub) w (P := P)
    rw [← view_str H hx, ← view_str H hy] at this
    exact this.ends H hrun
  · rename_i p q hx hy
    have hxv := view_bool H hx
    have hyv := view_bool H hy
    split at h
    · rename_i hk
      have hty : P.underlying ty = some .bool := by
        obtain ⟨_, _, h5, _⟩ := tk_some hT (t := ty) (by rw [hk]; simp)
        rw [hk] at h5
        exact tk_bool h5.symm
      exact .of h (.data H rfl (x := .bool (p == q)) (by rw [hrun, hxv, hyv]; simp [run_guard_bool, binOp, equal_bool hty]) (.bool _))
    · rename_i hk
      have hty : P.underlying ty = some .bool := by
        obtain ⟨_, _, h5, _⟩ := tk_some hT (t := ty) (by rw [hk]; simp)
        rw [hk] at h5
        exact tk_bool h5.symm
      exact .of h (.data H rfl (x := .bool (!(p == q))) (by rw [hrun, hxv, hyv]; simp [run_guard_bool, binOp, equal_bool hty]) (.bool _))
    · exact absurd h.symm hne
  · exact absurd h.symm hne

theorem view_agg (H : Rel C.ty E g st a w) {x : Operand} {xs : List AV} (h : view st.get x = .agg xs) : ∃ vs, a.eval x = .agg vs ∧ CsRel C.ty (rdr w g.pub) g.bl xs vs := by
  have hx : operand st.get x = .agg xs := by
    unfold view at h
    split at h
    · rcases tag_cases (isTag _) _ _ with ⟨_, e⟩ | ⟨_, e⟩ <;> rw [e] at h <;> cases h
    · split at h
      · rcases tag_cases (isTag _) _ _ with ⟨_, e⟩ | ⟨_, e⟩ <;> rw [e] at h <;> cases h
      · cases h
    · exact h
  have h1 := (operand_rel H x (by rw [hx]; rfl)).1
  rw [hx] at h1
  exact h1

theorem eqokOf_spec {t : TypeId} (h : eqokOf P t = true) : ∃ fs, P.underlying t = some (.struct fs) ∧ fs.toList.map (·.offset) = List.range fs.toList.length ∧ (∀ f ∈ fs.toList, f.name ≠ "_" ∧ basicTy (P.underlying f.type) = true) ∧ P.stoodInHeld t = false := by
  unfold eqokOf at h
  split at h
  · rename_i fs hfs
    simp only [Bool.and_eq_true, decide_eq_true_eq, List.all_eq_true, Bool.not_eq_true', beq_eq_false_iff_ne] at h
    exact ⟨fs, hfs, h.1.1, fun f hf => h.1.2 f hf, h.2⟩
  · cases h

theorem part_basic {f : Field} (hb : basicTy (P.underlying f.type) = true) {cs : Array Value} {off : Nat} {v : Value} (hv : cs[off]? = some v) (w : World) : (part f.type cs off).run P w = .ok v w := by
  cases hu : P.underlying f.type with
  | none => rw [hu] at hb; cases hb
  | some d => rw [hu] at hb; cases d <;> first | (cases hb; done) | simp [part, isAgg, run_underlying hu, hv]

theorem getD_some {vs : Array Value} {i : Nat} (h : i < vs.size) : vs[i]? = some (vs.getD i undef) := by
  simp [Array.getD_eq_getD_getElem?, h]

theorem head_kind {T : Tys} (hT : ∀ t, T t = tyOf P t) {t : TypeId} {x : Dat} (h : headOk (T t).kind x = true) : (T t).kind = tkOf (P.underlying t) := by
  rw [hT] at h ⊢
  unfold tyOf at h ⊢
  split
  · rfl
  · rename_i hn
    rw [hn] at h
    cases x <;> cases h

theorem eqFields_run {T : Tys} (hT : ∀ t, T t = tyOf P t) {R' : Rdr} {bl : Nat → Nat} (d : Nat) (vs us : Array Value) (w : World) : ∀ (fs : List Field) (i : Nat) (xs ys : List AV) (r : Bool), fs.map (·.offset) = List.range' i fs.length → (∀ f ∈ fs, f.name ≠ "_" ∧ basicTy (P.underlying f.type) = true) →
    eqCells T (fs.map fun f => (f.offset, f.type)) xs ys = some r → (∀ j, j < xs.length → LRel T R' bl (xs.getD j .undef) (vs.getD (i + j) undef)) → (∀ j, j < ys.length → LRel T R' bl (ys.getD j .undef) (us.getD (i + j) undef)) → i + xs.length ≤ vs.size → i + ys.length ≤ us.size →
    (Op.eqFields (d + 1) vs us fs).run P w = .ok r w
  | [], i, xs, ys, r, ho, hf, he, h1, h2, h3, h4 => by
    have : r = true := by
      unfold eqCells at he
      split at he <;> simp_all
    subst this
    simp [Op.eqFields]
  | f :: fs, i, xs, ys, r, ho, hf, he, h1, h2, h3, h4 => by
    obtain ⟨hn, hb⟩ := hf f List.mem_cons_self
    rw [List.map_cons, List.length_cons, List.range'_succ, List.cons.injEq] at ho
    obtain ⟨ho1, ho2⟩ := ho
    rw [List.map_cons] at he
    have step : ∀ (x y : Dat) (xs' ys' : List AV) (b r' : Bool), xs = .d x :: xs' → ys = .d y :: ys' → (∀ v u, DRep T R' x v → DRep T R' y u → (Op.equalIn (d + 1) f.type v u).run P w = .ok b w) → eqCells T (fs.map fun f => (f.offset, f.type)) xs' ys' = some r' → r = (b && r') → (Op.eqFields (d + 1) vs us (f :: fs)).run P w = .ok r w := by
      intro x y xs' ys' b r' ex ey heq hrec hr
      subst ex; subst ey
      have hx0 : DRep T R' x (vs.getD i undef) := h1 0 (by simp)
      have hy0 : DRep T R' y (us.getD i undef) := h2 0 (by simp)
      have ih := eqFields_run hT d vs us w fs (i + 1) xs' ys' r' ho2 (fun f' hf' => hf f' (List.mem_cons_of_mem _ hf')) hrec
        (fun j hj => by have := h1 (j + 1) (by simp; omega); rw [show i + 1 + j = i + (j + 1) by omega]; exact this)
        (fun j hj => by have := h2 (j + 1) (by simp; omega); rw [show i + 1 + j = i + (j + 1) by omega]; exact this)
        (by simp at h3; omega) (by simp at h4; omega)
      have p1 := part_basic hb (getD_some (vs := vs) (i := i) (by simp at h3; omega)) w
      have p2 := part_basic hb (getD_some (vs := us) (i := i) (by simp at h4; omega)) w
      unfold Op.eqFields
      rw [if_pos hn]
      simp only [Sem.run_bind, ho1, p1, p2, Result.andThen_ok, heq _ _ hx0 hy0]
      rw [hr]
      cases b
      · simp
      · simpa using ih
    unfold eqCells at he
    split at he
    · rename_i e1; cases e1
    · rename_i g gs k a xs' k' b ys' e1
      rw [List.cons.injEq] at e1
      obtain ⟨rfl, rfl⟩ := e1
      cases hc : (decide (k = k') && headOk (T f.type).kind (.int k a)) with
      | false => simp only at he; rw [hc] at he; cases he
      | true =>
        simp only at he
        rw [hc, cond_true, Option.map_eq_some_iff] at he
        obtain ⟨r', he1, he2⟩ := he
        rw [Bool.and_eq_true, decide_eq_true_eq] at hc
        obtain ⟨rfl, hk⟩ := hc
        have hkd := head_kind hT hk
        have hku : (T f.type).kind = .int k := by
          cases hkk : (T f.type).kind <;> rw [hkk] at hk <;> simp [headOk] at hk
          rw [hk]
        have hu := tk_int (hkd.symm.trans hku)
        exact step _ _ _ _ (a == b) r' rfl rfl (fun v u hv hu' => by cases hv; cases hu'; exact run_equalIn_int w d _ _ _ _ _ hu) he1 he2.symm
    · rename_i g gs a xs' b ys' e1
      rw [List.cons.injEq] at e1
      obtain ⟨rfl, rfl⟩ := e1
      cases hc : headOk (T f.type).kind (.bool a) with
      | false => simp only at he; rw [hc] at he; cases he
      | true =>
        simp only at he
        rw [hc, cond_true, Option.map_eq_some_iff] at he
        obtain ⟨r', he1, he2⟩ := he
        have hkd := head_kind hT hc
        have hku : (T f.type).kind = .bool := by
          cases hkk : (T f.type).kind <;> rw [hkk] at hc <;> simp [headOk] at hc
        have hu := tk_bool (hkd.symm.trans hku)
        exact step _ _ _ _ (a == b) r' rfl rfl (fun v u hv hu' => by cases hv; cases hu'; exact run_equalIn_bool' w d _ _ _ hu) he1 he2.symm
    · rename_i g gs a xs' b ys' e1
      rw [List.cons.injEq] at e1
      obtain ⟨rfl, rfl⟩ := e1
      cases hc : headOk (T f.type).kind (.str a) with
      | false => simp only at he; rw [hc] at he; cases he
      | true =>
        simp only at he
        rw [hc, cond_true, Option.map_eq_some_iff] at he
        obtain ⟨r', he1, he2⟩ := he
        have hkd := head_kind hT hc
        have hku : (T f.type).kind = .string := by
          cases hkk : (T f.type).kind <;> rw [hkk] at hc <;> simp [headOk] at hc
        have hu := tk_string (hkd.symm.trans hku)
        refine step _ _ _ _ (a == b) r' rfl rfl (fun v u hv hu' => ?_) he1 he2.symm
        cases hv
        cases hu'
        rw [run_equalIn_string w d _ _ _ hu, ByteArray.toList_eq, ByteArray.toList_eq]
    · cases he

theorem eqokOf_fields {t : TypeId} {fs : Array Field} (h : P.underlying t = some (.struct fs)) {T : Tys} (hT : ∀ t, T t = tyOf P t) (hk : (T t).eqok = true) : (T t).fields = fs.toList.map fun f => (f.offset, f.type) := by
  rw [hT] at hk ⊢
  unfold tyOf at hk ⊢
  split
  · unfold fieldsOf
    rw [h]
  · rename_i hn
    rw [hn] at hk
    cases hk

theorem run_eq_struct {T : Tys} (hT : ∀ t, T t = tyOf P t) {R' : Rdr} {bl : Nat → Nat} {t : TypeId} (hk : (T t).eqok = true) (h : eqokOf P t = true) {xs ys : List AV} {vs us : Array Value} (hx : CsRel T R' bl xs vs) (hy : CsRel T R' bl ys us) {r : Bool} (hr : eqCells T (T t).fields xs ys = some r) (w : World) :
    (Op.equal t (.agg vs) (.agg us)).run P w = .ok r w := by
  obtain ⟨fs, h1, h2, h3, h4⟩ := eqokOf_spec h
  have hf : P.fieldsOf t = fs := by unfold Program.fieldsOf; rw [h1]
  show (Op.equalIn (9998 + 1 + 1) t (.agg vs) (.agg us)).run P w = _
  rw [run_equalIn_agg w (9998 + 1) t vs us (by rw [hf]; exact h1) h4, hf]
  rw [eqokOf_fields h1 hT hk] at hr
  refine eqFields_run hT 9998 vs us w fs.toList 0 xs ys r (by rw [h2, List.range_eq_range']) h3 hr (fun j hj => by rw [Nat.zero_add]; exact hx.2 j hj) (fun j hj => by rw [Nat.zero_add]; exact hy.2 j hj) (by rw [hx.1]; omega) (by rw [hy.1]; omega)

theorem run_guard_struct {t : TypeId} (h : eqokOf P t = true) (op : BinOp) (p q : Operand) (vs us : Array Value) (w : World) : (eqGuard op t p q (.agg vs) (.agg us)).run P w = .ok () w := by
  obtain ⟨fs, h1, h2, h3, h4⟩ := eqokOf_spec h
  refine run_eqGuard_agg w op t p q vs us ?_
  unfold Program.depth
  show Program.eqGuardType P (_ + 1 + 1) t = false
  unfold Program.eqGuardType
  rw [h1]
  simp only
  rw [← Array.any_toList, List.any_eq_false]
  intro f hf
  have hb := (h3 f hf).2
  unfold Program.eqGuardType
  cases hu : P.underlying f.type with
  | none => simp
  | some d => rw [hu] at hb; cases d <;> first | (cases hb; done) | simp

theorem binSp_run (hT : ∀ t, C.ty t = tyOf P t) (H : Rel C.ty E g st a w) {op : BinOp} {ty : TypeId} {x y : Operand} {z : Dat} (h : binSp C.ty ty op (view st.get x) (view st.get y) = some z) :
    ∃ v, (do eqGuard op ty x y (a.eval x) (a.eval y); binOp op ty (a.eval x) (a.eval y) : Sem Value).run P w = .ok v w ∧ DRep C.ty (rdr w g.pub) z v := by
  have tk : ∀ {b : Bool} {z z' : Dat}, cond b (some z') none = some z → b = true ∧ z' = z := fun {b z z'} h => by
    cases b
    · cases h
    · cases h; exact ⟨rfl, rfl⟩
  unfold binSp at h
  split at h
  · rename_i ik p jk q hx hy
    have h1 := eval_int H hx
    have h2 := eval_int H hy
    rw [h1, h2]
    split at h <;> try (cases h; done)
    · obtain ⟨hc, rfl⟩ := tk h
      have hc : ¬ q < 0 := by simpa using hc
      exact ⟨_, by simp [run_guard_int, binOp, Op.shift, hc] <;> rfl, .int _ _⟩
    · obtain ⟨hc, rfl⟩ := tk h
      have hc : ¬ q < 0 := by simpa using hc
      exact ⟨_, by simp [run_guard_int, binOp, Op.shift, hc] <;> rfl, .int _ _⟩
    all_goals
      obtain ⟨hc, rfl⟩ := tk h
      have hc : ik = jk := by simpa using hc
      subst hc
      exact ⟨_, by simp [run_guard_int, binOp, Op.intBits] <;> rfl, .int _ _⟩
  · rename_i xs ys hx hy
    obtain ⟨vs, h1, h2⟩ := view_agg H hx
    obtain ⟨us, h3, h4⟩ := view_agg H hy
    rw [h1, h3]
    cases hok : (C.ty ty).eqok with
    | false => rw [hok] at h; cases h
    | true =>
      rw [hok, cond_true] at h
      have hok' : eqokOf P ty = true := by
        rw [hT] at hok
        unfold tyOf at hok
        split at hok
        · exact hok
        · cases hok
      split at h
      · cases hr : eqCells C.ty (C.ty ty).fields xs ys with
        | none => rw [hr] at h; cases h
        | some r =>
          rw [hr] at h
          cases h
          exact ⟨.bool r, by simp [run_guard_struct hok', binOp, run_eq_struct hT hok hok' h2 h4 hr], .bool _⟩
      · cases hr : eqCells C.ty (C.ty ty).fields xs ys with
        | none => rw [hr] at h; cases h
        | some r =>
          rw [hr] at h
          cases h
          exact ⟨.bool (!r), by simp [run_guard_struct hok', binOp, run_eq_struct hT hok hok' h2 h4 hr], .bool _⟩
      · cases h
  · cases h

theorem nilSide_spec {kd : TK} {op : BinOp} {x y : Operand} {p : Operand × Bool} (h : nilSide kd op x y = some p) : kd = .iface ∧ ((p = (x, false) ∧ op = .eql ∧ y = .const .nilIface) ∨ (p = (x, true) ∧ op = .neq ∧ y = .const .nilIface) ∨ (p = (y, false) ∧ op = .eql ∧ x = .const .nilIface) ∨ (p = (y, true) ∧ op = .neq ∧ x = .const .nilIface)) := by
  unfold nilSide at h
  split at h <;> cases h <;> simp

theorem run_nil {op : BinOp} {ty : TypeId} {ms : Array (String × TypeId)} (hty : P.underlying ty = some (.interface ms)) {x y : Operand} {p : Operand × Bool} (hp : (p = (x, false) ∧ op = .eql ∧ y = .const .nilIface) ∨ (p = (x, true) ∧ op = .neq ∧ y = .const .nilIface) ∨ (p = (y, false) ∧ op = .eql ∧ x = .const .nilIface) ∨ (p = (y, true) ∧ op = .neq ∧ x = .const .nilIface)) (w : World) :
    (∀ t u, a.eval p.1 = .iface t u → (do eqGuard op ty x y (a.eval x) (a.eval y); binOp op ty (a.eval x) (a.eval y) : Sem Value).run P w = .ok (.bool p.2) w) ∧
    (a.eval p.1 = .nilIface → (do eqGuard op ty x y (a.eval x) (a.eval y); binOp op ty (a.eval x) (a.eval y) : Sem Value).run P w = .ok (.bool (!p.2)) w) := by
  have hc : a.eval (.const .nilIface) = .nilIface := rfl
  have e1 : ∀ (d : Nat) t u, (Op.equalIn (d + 1) ty (.iface t u) .nilIface).run P w = .ok false w := fun d t u => by simp [Op.equalIn, run_underlying hty]
  have e2 : ∀ (d : Nat) t u, (Op.equalIn (d + 1) ty .nilIface (.iface t u)).run P w = .ok false w := fun d t u => by simp [Op.equalIn, run_underlying hty]
  have e3 : ∀ (d : Nat), (Op.equalIn (d + 1) ty .nilIface .nilIface).run P w = .ok true w := fun d => by simp [Op.equalIn, run_underlying hty]
  have q1 : ∀ t u, (Op.equal ty (.iface t u) .nilIface).run P w = .ok false w := fun t u => e1 9999 t u
  have q2 : ∀ t u, (Op.equal ty .nilIface (.iface t u)).run P w = .ok false w := fun t u => e2 9999 t u
  have q3 : (Op.equal ty .nilIface .nilIface).run P w = .ok true w := e3 9999
  have b1 : ∀ t u, binOp .eql ty (.iface t u) .nilIface = (do pure (.bool (← Op.equal ty (.iface t u) .nilIface))) := fun t u => rfl
  have b2 : ∀ t u, binOp .eql ty .nilIface (.iface t u) = (do pure (.bool (← Op.equal ty .nilIface (.iface t u)))) := fun t u => rfl
  have b3 : binOp .eql ty .nilIface .nilIface = (do pure (.bool (← Op.equal ty .nilIface .nilIface))) := rfl
  have n1 : ∀ t u, binOp .neq ty (.iface t u) .nilIface = (do pure (.bool (!(← Op.equal ty (.iface t u) .nilIface)))) := fun t u => rfl
  have n2 : ∀ t u, binOp .neq ty .nilIface (.iface t u) = (do pure (.bool (!(← Op.equal ty .nilIface (.iface t u))))) := fun t u => rfl
  have n3 : binOp .neq ty .nilIface .nilIface = (do pure (.bool (!(← Op.equal ty .nilIface .nilIface)))) := rfl
  rcases hp with ⟨rfl, rfl, rfl⟩ | ⟨rfl, rfl, rfl⟩ | ⟨rfl, rfl, rfl⟩ | ⟨rfl, rfl, rfl⟩ <;> refine ⟨fun t u hu => ?_, fun hu => ?_⟩ <;> simp only at hu <;> rw [hu, hc] <;>
    simp only [b1, b2, b3, n1, n2, n3] <;> simp [eqGuard, q1, q2, q3]

theorem ev_binOp (hT : ∀ t, C.ty t = tyOf P t) (H : Rel C.ty E g st a w) {op : BinOp} {ty yt : TypeId} {x y : Operand} (hop : o.op = .binOp op ty x y yt) (h : evOp C fail kp st.get st.box o k = res) (hne : res ≠ fail) : Ends P C E st a w o kp k res := by
  unfold evOp at h
  simp only [hop] at h
  have hrun : (execOp a.eval o).run P w = ((do eqGuard op ty x y (a.eval x) (a.eval y); binOp op ty (a.eval x) (a.eval y) : Sem Value).run P w).andThen fun v w' => .ok (.value v) w' := by
    simp [execOp, hop, andThen_assoc]
  split at h
  · rename_i p hp
    obtain ⟨hk, hp⟩ := nilSide_spec hp
    obtain ⟨ms, hty⟩ : ∃ ms, P.underlying ty = some (.interface ms) := by
      obtain ⟨_, _, h5, _⟩ := tk_some hT (t := ty) (by rw [hk]; simp)
      rw [hk] at h5
      exact tk_iface h5.symm
    obtain ⟨r1, r2⟩ := run_nil (a := a) hty hp w
    split at h
    · rename_i t u hx
      have h1 := (operand_rel H p.1 (by rw [hx]; rfl)).1
      rw [hx] at h1
      obtain ⟨u', h2, _⟩ := h1
      exact .of h (.data H rfl (x := .bool p.2) (by rw [hrun, r1 t u' h2]; rfl) (.bool _))
    · rename_i z hx
      have h1 := (operand_rel H p.1 (by rw [hx]; rfl)).1
      rw [hx] at h1
      have hd : DRep C.ty (rdr w g.pub) z (a.eval p.1) := h1
      cases hz : z.isIfc with
      | true =>
        rw [hz, cond_true] at h
        generalize hv : a.eval p.1 = v at hd r1 r2
        cases hd <;> try (cases hz; done)
        exact .of h (.data H rfl (x := .bool p.2) (by rw [hrun, r1 _ _ rfl]; rfl) (.bool _))
      | false =>
        rw [hz, cond_false] at h
        obtain ⟨hn, h⟩ := cond_ends h hne
        generalize hv : a.eval p.1 = v at hd r1 r2
        cases hd <;> try (cases hn; done)
        exact .of h (.data H rfl (x := .bool (!p.2)) (by rw [hrun, r2 rfl]; rfl) (.bool _))
    · exact absurd h.symm hne
  · split at h
    · rename_i z hz
      obtain ⟨v, h1, h2⟩ := binSp_run hT H hz
      exact .of h (.data H rfl (x := v) (by rw [hrun, h1]; rfl) h2)
    · exact ev_binAny hT H hop h hne

theorem ev_extract (H : Rel C.ty E g st a w) {x : Operand} {i : Nat} (hop : o.op = .extract x i) (h : evOp C fail kp st.get st.box o k = res) (hne : res ≠ fail) : Ends P C E st a w o kp k res := by
  unfold evOp at h
  simp only [hop] at h
  split at h
  · rename_i vs hx
    obtain ⟨hb, h⟩ := cond_ends h hne
    have hi := blt_lt hb
    obtain ⟨h1, h2, h3⟩ := operand_rel H x (by rw [hx]; rfl)
    rw [hx] at h1
    obtain ⟨us, h4, h5, h6, h7⟩ := h1
    obtain ⟨k1, k2, k3⟩ := VRel_of_M (ot := g.ot) (h6 i hi)
    refine .of h (.plain H ⟨rfl, rfl, rfl⟩ (x := us.getD i undef) ?_ k1 k2 (fun id hid => ?_) fun u hu => ?_)
    · have hi' : i < us.size := by omega
      have e1 : us[i]? = some us[i] := by simp [hi']
      have e2 : us.getD i undef = us[i] := by simp [Array.getD_eq_getD_getElem?, hi']
      rw [e2]
      simp [execOp, hop, h4, Instr.extract, e1]
    · simp only at hid
      rw [h7 _ (mem_of_getD hi)] at hid; cases hid
    · simp only at hu
      rw [k3 u] at hu; cases hu
  · exact absurd h.symm hne

end Go.Ab
end

/- Part 4 of the proof that this seat's laws lean on: an abstract machine over the model's code, its soundness, and what it says of this program. -/
import Derived.Test.YticeaojhadjaaaaGreatDoorAxC
import Derived.Laws.Strings

section
/-! Single operations, first part: those that neither read nor write memory. -/
set_option autoImplicit false
set_option linter.unusedVariables false
set_option linter.unusedSimpArgs false
namespace Go.Ab
variable {P : Program} {C : Cfg} {E : Ent} {g : Gh} {st : St} {a : Act} {w : World} {o : Oper} {R : Type} {fail : R} {kp : Dat → R} {k : Eff → R} {res : R}

/-! ### types -/
theorem tk_some {T : Tys} {P : Program} (hT : ∀ t, T t = tyOf P t) {t : TypeId} (h : (T t).kind ≠ .other) : ∃ i, P.info? t = some i ∧ (T t).kind = tkOf (P.underlying t) ∧ (T t).size = i.size ∧ (T t).bytes = i.bytes ∧ (T t).fields = fieldsOf (P.underlying t) := by
  rw [hT] at h ⊢
  unfold tyOf at h ⊢
  cases hi : P.info? t with
  | none => rw [hi] at h; exact absurd rfl h
  | some i => exact ⟨i, rfl, rfl, rfl, rfl, rfl⟩
theorem tk_slice {d : Option TypeDesc} {e : TypeId} (h : tkOf d = .slice e) : d = some (.slice e) := by
  unfold tkOf at h; split at h <;> first | (cases h; done) | (cases h; rfl) | rfl | exact ⟨_, rfl⟩
theorem tk_string {d : Option TypeDesc} (h : tkOf d = .string) : d = some .string := by
  unfold tkOf at h; split at h <;> first | (cases h; done) | (cases h; rfl) | rfl | exact ⟨_, rfl⟩
theorem tk_int {d : Option TypeDesc} {k : IntKind} (h : tkOf d = .int k) : d = some (.int k) := by
  unfold tkOf at h; split at h <;> first | (cases h; done) | (cases h; rfl) | rfl | exact ⟨_, rfl⟩
theorem tk_struct {d : Option TypeDesc} (h : tkOf d = .struct) : ∃ fs, d = some (.struct fs) := by
  unfold tkOf at h; split at h <;> first | (cases h; done) | (cases h; rfl) | rfl | exact ⟨_, rfl⟩
theorem tk_iface {d : Option TypeDesc} (h : tkOf d = .iface) : ∃ ms, d = some (.interface ms) := by
  unfold tkOf at h; split at h <;> first | (cases h; done) | (cases h; rfl) | rfl | exact ⟨_, rfl⟩

/-- What an operation's end gives: the rest goes on with an effect, or the operation panics. -/
def Ends (P : Program) (C : Cfg) (E : Ent) (st : St) (a : Act) (w : World) (o : Oper) {R : Type} (kp : Dat → R) (k : Eff → R) (res : R) : Prop :=
  (∃ f, k f = res ∧ Next1 P C.ty E st a w o f) ∨
  (∃ v, kp v = res ∧ ∀ (K : Act → World → Prop) (Q : Exit → Act → World → Prop), (∀ pub' a' w' vv, a'.defers = [] → Fr E pub' w' → DRep C.ty (rdr w' pub') v vv → Q (.panic [{ v := vv, recovered := false }]) a' w') → o.wp P a w K Q)

theorem Ends.of {f : Eff} (h : k f = res) (hn : Next1 P C.ty E st a w o f) : Ends P C E st a w o kp k res := .inl ⟨f, h, hn⟩

theorem retype_rel {T : Tys} {R : Rdr} {bl : Nat → Nat} {ot : Nat → Value} {kd : TK} {v : AV} {x : Value} (h : VRel T R bl ot v x) : VRel T R bl ot (retype kd v) x := by
  unfold retype
  split
  · split <;> exact h
  · exact h
theorem retype_own {kd : TK} {v : AV} : isOwn (retype kd v) = isOwn v := by
  unfold retype
  split
  · split <;> rfl
  · rfl
theorem retype_ids {kd : TK} {v : AV} : idsOf (retype kd v) = idsOf v := by
  unfold retype
  split
  · split <;> rfl
  · rfl
theorem retype_refs {kd : TK} {v : AV} {t : Nat} : (retype kd v).refs t = v.refs t := by
  unfold retype
  split
  · split <;> rfl
  · rfl

theorem own_eval (H : Rel C.ty E g st a w) {t : Nat} {e : TypeId} {r : List (List Dat)} (h : st.get t = .own e r) : g.ot t = a.tmps.getD t undef := by
  have := H.tm t
  rw [h] at this
  exact this.2

theorem refs_eq {t u : Nat} {v : AV} (h : v = .alias t) (h' : v.refs u = true) : u = t := by
  subst h
  simpa [AV.refs] using h'

/-- A copy of what is no row of its own. -/
theorem next_copy (H : Rel C.ty E g st a w) {x : Operand} {v : AV} (hv : operand st.get x = v) (hno : isOwn v = false) {kd : TK} (hrun : (execOp a.eval o).run P w = .ok (.value (a.eval x)) w) :
    Next1 P C.ty E st a w o { v := retype kd v } := by
  obtain ⟨h1, h2, h3⟩ := operand_rel H x (by rw [hv]; exact hno)
  rw [hv] at h1 h2 h3
  exact .plain H ⟨rfl, rfl, rfl⟩ hrun (retype_rel h1) (by rw [retype_own]; exact hno) (fun id h => h2 id (by rw [retype_ids] at h; exact h)) (fun u h => h3 u (by rw [retype_refs] at h; exact h))

theorem view_refs_of {x : Operand} (hx : ∀ t e i off, operand st.get x ≠ .eptr t e i off) : ∀ t, (view st.get x).refs t = false := by
  intro t
  have hc : ∀ (b : Bool) (e : TypeId) (r : List (List Dat)), (cond b AV.undef (.d (.lst e r))).refs t = false := fun b e r => by cases b <;> rfl
  unfold view
  split
  · exact hc _ _ _
  · split
    · exact hc _ _ _
    · rfl
  · rename_i h1 h2
    cases h : operand st.get x <;> first | rfl | exact absurd h (h2 _) | exact absurd h (hx _ _ _ _)

theorem view_ids (H : Rel C.ty E g st a w) {x : Operand} (hr : ∀ t, (view st.get x).refs t = false) : ∀ id, id ∈ idsOf (view st.get x) → (st.box id).isSome = true := by
  obtain ⟨g', h1, h2, h3, h4, h5, h6⟩ := H.pubAll (pubs st.get x) (pubs_ok st x)
  exact (view_rel H h2 h3 h5 x (fun p hp => hp) hr).2

/-- A published view is yielded. -/
theorem next_view (H : Rel C.ty E g st a w) {x : Operand} (hr : ∀ t, (view st.get x).refs t = false) (hrun : (execOp a.eval o).run P w = .ok (.value (a.eval x)) w) :
    Next1 P C.ty E st a w o { v := view st.get x, tw := pubs st.get x } :=
  .pub H ⟨rfl, rfl⟩ (pubs_ok st x) hrun (fun g' h1 h2 h3 => (view_rel H h1 h2 h3 x (fun p hp => hp) hr).1) (view_leaf st x).1 (view_ids H hr) hr

theorem ownTmp_some {x : Operand} {t : Nat} (h : ownTmp st.get x = some t) : x = .tmp t ∧ ∃ e r, st.get t = .own e r := by
  unfold ownTmp at h
  split at h
  · split at h
    · rename_i e r h'
      cases h
      exact ⟨rfl, e, r, h'⟩
    · cases h
  · cases h

theorem ownTmp_none {x : Operand} (h : ownTmp st.get x = none) : isOwn (operand st.get x) = false := by
  cases x
  case tmp t =>
    simp only [ownTmp] at h
    simp only [operand]
    cases hv : st.get t <;> first | rfl | (rw [hv] at h; cases h)
  case const v => exact (ofValue_leaf v).1
  all_goals rfl

theorem noRow_own {v : AV} (h : noRow v = true) : isOwn v = false ∧ ∀ t, v.refs t = false := by
  cases v <;> first | exact ⟨rfl, fun _ => rfl⟩ | simp [noRow] at h

theorem ev_move (H : Rel C.ty E g st a w) {x : Operand} (hop : o.op = .move x) (h : evOp C fail kp st.get st.box o k = res) (hne : res ≠ fail) : Ends P C E st a w o kp k res := by
  have hrun : (execOp a.eval o).run P w = .ok (.value (a.eval x)) w := by simp [execOp, hop]
  unfold evOp at h
  simp only [hop] at h
  split at h
  · rename_i t hv
    obtain ⟨rfl, e, r, hv⟩ := ownTmp_some hv
    split at h
    · exact .of h (next_view H (view_refs_of fun u e' i off h' => by simp only [operand] at h'; rw [hv] at h'; cases h') hrun)
    · refine .of h (.plain H ⟨rfl, rfl, rfl⟩ hrun (own_eval H hv).symm rfl (fun id h => by cases h) fun u hu => ?_)
      rw [refs_eq rfl hu, hv]; rfl
  · rename_i hv
    exact .of h (next_copy H rfl (ownTmp_none hv) hrun)

theorem ev_pick (H : Rel C.ty E g st a w) {c x y : Operand} (hop : o.op = .pick c x y) (h : evOp C fail kp st.get st.box o k = res) (hne : res ≠ fail) : Ends P C E st a w o kp k res := by
  unfold evOp at h
  simp only [hop] at h
  split at h
  · rename_i cb hc
    have hcv := eval_bool H hc
    have key : ∀ z, noRow (operand st.get z) = true → (execOp a.eval o).run P w = .ok (.value (a.eval z)) w → Next1 P C.ty E st a w o { v := operand st.get z } := fun z hz hrun => by
      obtain ⟨h1, h2, h3⟩ := operand_rel H z (noRow_own hz).1
      exact .plain H ⟨rfl, rfl, rfl⟩ hrun h1 (noRow_own hz).1 h2 h3
    cases cb with
    | true =>
      simp only [cond_true] at h
      cases hz : noRow (operand st.get x) with
      | true => rw [hz] at h; exact .of h (key x hz (by simp [execOp, hop, hcv, asBool]))
      | false => rw [hz] at h; exact absurd h.symm hne
    | false =>
      simp only [cond_false] at h
      cases hz : noRow (operand st.get y) with
      | true => rw [hz] at h; exact .of h (key y hz (by simp [execOp, hop, hcv, asBool]))
      | false => rw [hz] at h; exact absurd h.symm hne
  · exact absurd h.symm hne

theorem ev_nilCheck (H : Rel C.ty E g st a w) {x : Operand} (hop : o.op = .nilCheck x) (h : evOp C fail kp st.get st.box o k = res) (hne : res ≠ fail) : Ends P C E st a w o kp k res := by
  unfold evOp at h
  simp only [hop] at h
  have key : ∀ v, operand st.get x = v → isOwn v = false → (execOp a.eval o).run P w = .ok (.value (a.eval x)) w → Next1 P C.ty E st a w o { v := v } := fun v hv hn hrun => by
    obtain ⟨h1, h2, h3⟩ := operand_rel H x (by rw [hv]; exact hn)
    rw [hv] at h1 h2 h3
    exact .plain H ⟨rfl, rfl, rfl⟩ hrun h1 hn h2 h3
  split at h
  · rename_i id off hv
    refine .of h (key _ hv rfl ?_)
    have h1 := (operand_rel H x (by rw [hv]; rfl)).1
    rw [hv] at h1
    have h1' : a.eval x = .pointer (some ⟨g.bl id, off, none⟩) := h1
    simp [execOp, hop, h1']
  · rename_i e off row hv
    refine .of h (key _ hv rfl ?_)
    have h1 := (operand_rel H x (by rw [hv]; rfl)).1
    rw [hv] at h1
    obtain ⟨b, o', vs, h1', _⟩ := h1
    simp [execOp, hop, h1']
  · rename_i f c hv
    refine .of h (key _ hv rfl ?_)
    have h1 := (operand_rel H x (by rw [hv]; rfl)).1
    rw [hv] at h1
    obtain ⟨vs, h1', _⟩ := h1
    simp [execOp, hop, h1']
  · rename_i y hv
    cases hy : y.isFn with
    | false => rw [hy] at h; exact absurd h.symm hne
    | true =>
      rw [hy] at h
      refine .of h (key _ hv rfl ?_)
      have h1 := (operand_rel H x (by rw [hv]; rfl)).1
      rw [hv] at h1
      have h2 : DRep C.ty (rdr w g.pub) y (a.eval x) := h1
      have h3 : ∃ f vals, a.eval x = .func (.func f) #[] vals := by
        generalize a.eval x = v at h2
        cases h2 <;> first | exact ⟨_, _, rfl⟩ | simp [Dat.isFn] at hy
      obtain ⟨f, vals, h3⟩ := h3
      simp [execOp, hop, h3]
  · exact absurd h.symm hne

theorem add_addr (b off n : Nat) : (⟨b, off, none⟩ : Addr).add n = ⟨b, off + n, none⟩ := by
  unfold Addr.add; split <;> simp_all

theorem run_sizeT {T : Tys} (hT : ∀ t, T t = tyOf P t) {t : TypeId} (h : (T t).size ≠ 0) (w : World) : (sizeOf t).run P w = .ok (T t).size w := by
  have : ∃ i, P.info? t = some i ∧ (T t).size = i.size := by
    rw [hT] at h ⊢
    unfold tyOf at h ⊢
    cases hi : P.info? t with
    | none => rw [hi] at h; exact absurd rfl h
    | some i => exact ⟨i, rfl, rfl⟩
  obtain ⟨i, h1, h2⟩ := this
  simp [sizeOf, typeInfo, h1, h2]

theorem fieldOk_run {T : Tys} (hT : ∀ t, T t = tyOf P t) {s : TypeId} {fd : Nat} (h : fieldOk T s fd = true) :
    ∃ (fs : Array Field) (f : Field), P.underlying s = some (.struct fs) ∧ fs[fd]? = some f ∧ ((T s).fields.getD fd (0, 0)) = (f.offset, f.type) ∧ (T f.type).size ≠ 0 := by
  unfold fieldOk at h
  split at h
  · rename_i hk
    obtain ⟨i, h1, h2, h3, h4, h5⟩ := tk_some hT (t := s) (by rw [hk]; simp)
    rw [hk] at h2
    obtain ⟨fs, hfs⟩ := tk_struct h2.symm
    have h6 : (T s).fields = fs.toList.map fun f => (f.offset, f.type) := by rw [h5, hfs]; rfl
    simp only [Bool.and_eq_true, Bool.not_eq_true'] at h
    have h7 : fd < fs.size := by
      have := h.1
      rw [Nat.blt_eq, h6] at this
      simpa using this
    have h8 : (T s).fields.getD fd (0, 0) = (fs[fd].offset, fs[fd].type) := by
      rw [h6]; simp [List.getD_eq_getElem?_getD, h7]
    refine ⟨fs, fs[fd], hfs, by simp [h7], h8, fun h9 => ?_⟩
    have := h.2
    rw [h8] at this
    simp only at this
    rw [h9] at this
    cases this
  · cases h

theorem run_fieldAt {T : Tys} (hT : ∀ t, T t = tyOf P t) {s : TypeId} {fd : Nat} (h : fieldOk T s fd = true) (b off : Nat) (w : World) :
    (Instr.fieldAt s (.pointer (some ⟨b, off, none⟩)) fd).run P w = .ok (.pointer (some ⟨b, off + ((T s).fields.getD fd (0, 0)).1, none⟩)) w := by
  obtain ⟨fs, f, h1, h2, h3, h4⟩ := fieldOk_run hT h
  rw [h3]
  simp [Instr.fieldAt, run_underlying h1, h2, Instr.sureAddr, fieldPlace, run_sizeT hT h4, h4, add_addr]

theorem ev_fieldAddr (hT : ∀ t, C.ty t = tyOf P t) (H : Rel C.ty E g st a w) {s : TypeId} {x : Operand} {fd : Nat} (hop : o.op = .fieldAddr s x fd) (h : evOp C fail kp st.get st.box o k = res) (hne : res ≠ fail) : Ends P C E st a w o kp k res := by
  unfold evOp at h
  simp only [hop] at h
  cases hf : fieldOk C.ty s fd with
  | false => rw [hf] at h; exact absurd h.symm hne
  | true =>
    rw [hf] at h
    simp only [cond_true] at h
    split at h
    · rename_i id off hv
      obtain ⟨h1, h2, h3⟩ := operand_rel H x (by rw [hv]; rfl)
      rw [hv] at h1 h2
      have h1' : a.eval x = .pointer (some ⟨g.bl id, off, none⟩) := h1
      refine .of h (.plain H ⟨rfl, rfl, rfl⟩ (x := .pointer (some ⟨g.bl id, off + ((C.ty s).fields.getD fd (0, 0)).1, none⟩)) (by simp [execOp, hop, h1', run_fieldAt hT hf]) rfl rfl h2 fun u hu => by cases hu)
    · rename_i e off row hv
      obtain ⟨h1, h2, h3⟩ := operand_rel H x (by rw [hv]; rfl)
      rw [hv] at h1
      obtain ⟨b, o', vs, h1', h4⟩ := h1
      exact .of h (.plain H ⟨rfl, rfl, rfl⟩ (x := .pointer (some ⟨b, o' + (off + ((C.ty s).fields.getD fd (0, 0)).1), none⟩)) (by simp [execOp, hop, h1', run_fieldAt hT hf, Nat.add_assoc]) ⟨b, o', vs, rfl, h4⟩ rfl (fun id h => by cases h) fun u hu => by cases hu)
    · rename_i t e i off hv
      obtain ⟨h1, h2, h3⟩ := operand_rel H x (by rw [hv]; rfl)
      rw [hv] at h1 h3
      obtain ⟨b, n, cap, h4, h1'⟩ := h1
      exact .of h (.plain H ⟨rfl, rfl, rfl⟩ (x := .pointer (some ⟨b, i * (C.ty e).size + (off + ((C.ty s).fields.getD fd (0, 0)).1), none⟩)) (by simp [execOp, hop, h1', run_fieldAt hT hf, Nat.add_assoc]) ⟨b, n, cap, h4, rfl⟩ rfl (fun id h => by cases h) h3)
    · exact absurd h.symm hne

/-- What a comparison or an operation on two values gives: a datum, in the same world. -/
def Gives (P : Program) (T : Tys) (R' : Rdr) (k : Eff → R) (res : R) (m : Sem Value) (w : World) : Prop :=
  ∃ z v, k { v := .d z } = res ∧ DRep T R' z v ∧ m.run P w = .ok v w

theorem run_guard_int (op : BinOp) (ty : TypeId) (p q : Operand) (ik jk : IntKind) (x y : Int) (w : World) : (eqGuard op ty p q (.int ik x) (.int jk y)).run P w = .ok () w := by
  unfold eqGuard; cases op <;> simp

theorem run_int {ik : IntKind} {x y : Int} {op : BinOp} (h : binInt fail k op ik x y = res) (hne : res ≠ fail) (ty : TypeId) (p q : Operand) (T : Tys) (R' : Rdr) (w : World) :
    Gives P T R' k res (do eqGuard op ty p q (.int ik x) (.int ik y); binOp op ty (.int ik x) (.int ik y)) w := by
  cases op <;> simp only [binInt] at h <;>
    first
      | exact absurd h.symm hne
      | (refine ⟨_, _, h, ?_, by simp [run_guard_int, binOp, Op.intArith, Op.intCmp] <;> rfl⟩; first | exact DRep.int _ _ | exact DRep.bool _)
      | skip
  all_goals
    by_cases hy : y = 0
    · subst hy
      exact absurd h.symm hne
    · have : (y == 0) = false := by simpa using hy
      rw [this] at h
      refine ⟨_, _, h, DRep.int _ _, by simp [run_guard_int, binOp, Op.intDiv, hy] <;> rfl⟩

theorem toList_mk (l : List UInt8) : (⟨l.toArray⟩ : ByteArray).toList = l := by
  rw [ByteArray.toList_eq]

theorem run_guard_str (op : BinOp) (ty : TypeId) (p q : Operand) (x y : ByteArray) (w : World) : (eqGuard op ty p q (.string x) (.string y)).run P w = .ok () w := by
  unfold eqGuard; cases op <;> simp

theorem run_str {x y : List UInt8} {op : BinOp} (h : binStr fail k op x y = res) (hne : res ≠ fail) (ty : TypeId) (p q : Operand) (T : Tys) (R' : Rdr) (w : World) :
    Gives P T R' k res (do eqGuard op ty p q (.string ⟨x.toArray⟩) (.string ⟨y.toArray⟩); binOp op ty (.string ⟨x.toArray⟩) (.string ⟨y.toArray⟩)) w := by
  cases op <;> simp only [binStr] at h <;>
    first
      | exact absurd h.symm hne
      | (refine ⟨_, _, h, DRep.bool _, by simp [run_guard_str, binOp, Op.stringOp, toList_mk] <;> rfl⟩)
      | skip
  by_cases hl : x.length + y.length ≤ 9223372036854775807
  · simp only [hl, decide_true, cond_true] at h
    refine ⟨_, _, h, DRep.str _, ?_⟩
    have h1 : ¬ (((⟨x.toArray⟩ : ByteArray).size + (⟨y.toArray⟩ : ByteArray).size : Nat) : Int) > IntKind.i64.max := by
      have : IntKind.i64.max = 9223372036854775807 := by decide
      rw [this]
      show ¬ ((x.toArray.size + y.toArray.size : Nat) : Int) > _
      simp only [List.size_toArray]
      omega
    have h2 : (⟨x.toArray⟩ : ByteArray) ++ (⟨y.toArray⟩ : ByteArray) = ⟨(x ++ y).toArray⟩ := by
      apply ByteArray.ext
      simp
    simp only [Sem.run_bind, run_guard_str, Result.andThen_ok, binOp, Op.stringOp, h1, if_false, Sem.run_pure, h2]
  · simp only [hl, decide_false, cond_false] at h
    exact absurd h.symm hne

end Go.Ab
end

section
/-! Single operations, second part. -/
set_option autoImplicit false
set_option linter.unusedVariables false
set_option linter.unusedSimpArgs false
namespace Go.Ab
variable {P : Program} {C : Cfg} {E : Ent} {g : Gh} {st : St} {a : Act} {w : World} {o : Oper} {R : Type} {fail : R} {kp : Dat → R} {k : Eff → R} {res : R}

theorem Gives.ends (H : Rel C.ty E g st a w) {m : Sem Value} (h : Gives P C.ty (rdr w g.pub) k res m w) (hrun : (execOp a.eval o).run P w = (m.run P w).andThen fun v w' => .ok (.value v) w') : Ends P C E st a w o kp k res := by
  obtain ⟨z, v, h1, h2, h3⟩ := h
  exact .of h1 (.data H rfl (by rw [hrun, h3]; rfl) h2)

theorem equalIn_bool {ty : TypeId} {x y : Bool} (ht : P.underlying ty = some .bool) (d : Nat) (w : World) : (Op.equalIn (d + 1) ty (.bool x) (.bool y)).run P w = .ok (x == y) w := by
  simp [Op.equalIn, run_underlying ht]
theorem equal_bool {ty : TypeId} {x y : Bool} (ht : P.underlying ty = some .bool) (w : World) : (Op.equal ty (.bool x) (.bool y)).run P w = .ok (x == y) w := equalIn_bool ht 9999 w

theorem tk_bool {d : Option TypeDesc} (h : tkOf d = .bool) : d = some .bool := by
  unfold tkOf at h; split at h <;> first | (cases h; done) | (cases h; rfl) | rfl | exact ⟨_, rfl⟩

theorem run_guard_bool (op : BinOp) (ty : TypeId) (p q : Operand) (x y : Bool) (w : World) : (eqGuard op ty p q (.bool x) (.bool y)).run P w = .ok () w := by
  unfold eqGuard; cases op <;> simp

theorem view_bool (H : Rel C.ty E g st a w) {x : Operand} {b : Bool} (h : view st.get x = .d (.bool b)) : a.eval x = .bool b :=
  eval_bool H (view_d H h (fun _ _ h => by cases h))
theorem view_str (H : Rel C.ty E g st a w) {x : Operand} {s : List UInt8} (h : view st.get x = .d (.str s)) : a.eval x = .string ⟨s.toArray⟩ :=
  eval_str H (view_d H h (fun _ _ h => by cases h))

theorem ev_unOp (H : Rel C.ty E g st a w) {op : UnOp} {ty : TypeId} {x : Operand} (hop : o.op = .unOp op ty x) (h : evOp C fail kp st.get st.box o k = res) (hne : res ≠ fail) : Ends P C E st a w o kp k res := by
  unfold evOp at h
  simp only [hop] at h
  split at h
  · rename_i b hx
    exact .of h (.data H rfl (x := .bool (!b)) (by simp [execOp, hop, eval_bool H hx, Op.unary]) (.bool _))
  · rename_i ik n hx
    have h1 : a.eval x = .int ik n := by
      have h2 := (operand_rel H x (by rw [hx]; rfl)).1
      rw [hx] at h2
      exact VRel_int h2
    exact .of h (.data H rfl (x := .int ik (ik.wrap (0 - n))) (by simp [execOp, hop, h1, Op.unary, Op.intArith]) (.int _ _))
  · exact absurd h.symm hne

theorem atIndex_ends {i : AV} {n : Nat} {kk : Nat → R} (h : atIndex fail i n kk = res) (hne : res ≠ fail) : ∃ ik z, i = .d (.int ik z) ∧ 0 ≤ z ∧ z < (n : Int) ∧ kk z.toNat = res := by
  unfold atIndex at h
  split at h
  · rename_i ik z
    by_cases h1 : 0 ≤ z ∧ z < (n : Int)
    · simp only [h1.1, h1.2, decide_true, Bool.and_self, cond_true] at h
      exact ⟨ik, z, rfl, h1.1, h1.2, h⟩
    · have : (decide (0 ≤ z) && decide (z < (n : Int))) = false := by
        by_cases h2 : 0 ≤ z
        · have h3 : ¬ z < (n : Int) := fun h3 => h1 ⟨h2, h3⟩
          simp [h3]
        · simp [h2]
      rw [this] at h
      exact absurd h.symm hne
  · exact absurd h.symm hne

theorem ev_index (hT : ∀ t, C.ty t = tyOf P t) (H : Rel C.ty E g st a w) {ty : TypeId} {x i : Operand} (hop : o.op = .index ty x i) (h : evOp C fail kp st.get st.box o k = res) (hne : res ≠ fail) : Ends P C E st a w o kp k res := by
  unfold evOp at h
  simp only [hop] at h
  cases hk : (C.ty ty).kind <;> rw [hk] at h <;> simp only at h <;> try exact absurd h.symm hne
  split at h
  · rename_i s hx
    obtain ⟨ik, z, h1, h2, h3, h4⟩ := atIndex_ends h hne
    have hty : P.underlying ty = some .string := by
      obtain ⟨_, _, h5, _⟩ := tk_some hT (t := ty) (by rw [hk]; simp)
      rw [hk] at h5
      exact tk_string h5.symm
    have hlt : z.toNat < s.length := by omega
    refine .of h4 (.data H rfl (x := .int .u8 (s.getD z.toNat 0).toNat) ?_ (.int _ _))
    have he := eval_str H hx
    have hi := eval_int H h1
    have hg : (⟨s.toArray⟩ : ByteArray)[z.toNat]? = some (s[z.toNat]) := by
      show (if hh : z.toNat < (⟨s.toArray⟩ : ByteArray).size then some _ else none) = _
      rw [dif_pos (by show _ < s.toArray.size; simpa using hlt)]
      rfl
    simp [execOp, hop, he, hi, Instr.index, asIntOf, run_underlying hty, h2, hg, List.getD_eq_getElem?_getD, hlt]
  · exact absurd h.symm hne

theorem run_sizeP {T : Tys} (hT : ∀ t, T t = tyOf P t) {t : TypeId} (h : (T t).kind ≠ .other) (w : World) : (sizeOf t).run P w = .ok (T t).size w := by
  obtain ⟨i, h1, h2, h3, _⟩ := tk_some hT h
  simp [sizeOf, typeInfo, h1, h3]

theorem ownerOf_some {x : Operand} {t : Nat} (h : ownerOf st.get x = some t) : ∃ u, x = .tmp u ∧ (∃ e r, st.get t = .own e r) ∧ (u = t ∨ st.get u = .alias t) := by
  cases x
  case tmp u =>
    simp only [ownerOf] at h
    refine ⟨u, rfl, ?_⟩
    cases hv : st.get u <;> rw [hv] at h <;> try (cases h; done)
    case own e r => cases h; exact ⟨⟨e, r, hv⟩, .inl rfl⟩
    case alias u' =>
      simp only at h
      cases hv' : st.get u' <;> rw [hv'] at h <;> try (cases h; done)
      cases h
      exact ⟨⟨_, _, hv'⟩, .inr rfl⟩
  all_goals cases h

theorem owner_eval (H : Rel C.ty E g st a w) {x : Operand} {t : Nat} (h : ownerOf st.get x = some t) : a.eval x = a.tmps.getD t undef ∧ g.ot t = a.tmps.getD t undef := by
  obtain ⟨u, rfl, ⟨e, r, h1⟩, h2⟩ := ownerOf_some h
  have h3 := own_eval H h1
  rcases h2 with rfl | h2
  · exact ⟨rfl, h3⟩
  · have h4 := H.tm u
    rw [h2] at h4
    exact ⟨Eq.trans h4 h3, h3⟩

theorem owner_none {x : Operand} (h : ownerOf st.get x = none) : isOwn (operand st.get x) = false := by
  cases x
  case tmp t =>
    simp only [ownerOf] at h
    simp only [operand]
    cases hv : st.get t <;> first | rfl | (rw [hv] at h; cases h)
  case const v => exact (ofValue_leaf v).1
  all_goals rfl

/-- An element's cells, where they are read. -/
theorem row_at {T : Tys} {R' : Rdr} {e : TypeId} {r : List (List Dat)} {v : Value} (h : DRep T R' (.lst e r) v) {i : Nat} (hi : i < r.length) :
    ∃ b o' cap vs, v = .slice (some ⟨b, o', none⟩) r.length cap ∧ r.length ≤ cap ∧ (T e).size = (T e).cells.length ∧ RowRep T R' e (r.getD i []) vs ∧ ∀ j, j < (r.getD i []).length → R' b (o' + i * (T e).size + j) (vs j) := by
  cases h with
  | lst e rows A cap vs hcap hsz ha hl hr ht =>
    have h0 : 0 < r.length := by omega
    obtain ⟨b, o', rfl, h2⟩ := ha h0
    have hl' := hl i hi
    refine ⟨b, o', cap, vs i, rfl, hcap, hsz h0, ⟨by rw [hl']; exact hsz h0, fun j hj => ⟨hr i j hi (by omega), ht i j hi (by omega)⟩⟩, fun j hj => ?_⟩
    have := h2 i j hi (by omega)
    rwa [← Nat.add_assoc] at this

theorem run_indexAt {ty e : TypeId} (ht : P.underlying ty = some (.slice e)) {n : Nat} (hs : ∀ w, (sizeOf e).run P w = .ok n w) (b o' len cap : Nat) (ik : IntKind) (z : Int) (h0 : 0 ≤ z) (h1 : z < (len : Int)) (w : World) :
    (Instr.indexAt ty (.slice (some ⟨b, o', none⟩) len cap) (.int ik z)).run P w = .ok (.pointer (some ⟨b, o' + z.toNat * n, none⟩)) w := by
  simp [Instr.indexAt, asIntOf, run_underlying ht, h0, h1, hs, add_addr]

theorem ev_indexAddr (hT : ∀ t, C.ty t = tyOf P t) (H : Rel C.ty E g st a w) {ty : TypeId} {x i : Operand} (hop : o.op = .indexAddr ty x i) (h : evOp C fail kp st.get st.box o k = res) (hne : res ≠ fail) : Ends P C E st a w o kp k res := by
  unfold evOp at h
  simp only [hop] at h
  split at h
  · rename_i e' hk
    have hty : P.underlying ty = some (.slice e') := by
      obtain ⟨_, _, h5, _⟩ := tk_some hT (t := ty) (by rw [hk]; simp)
      rw [hk] at h5
      exact tk_slice h5.symm
    have hbeq : ∀ {e : TypeId} {z : R}, cond (Nat.beq e' e && (C.ty e').kind.known) z fail = res → e' = e ∧ (C.ty e').kind ≠ .other ∧ z = res := fun {e z} hz => by
      cases hb : Nat.beq e' e with
      | true =>
        rw [hb] at hz
        cases hkn : (C.ty e').kind.known with
        | true => rw [hkn] at hz; exact ⟨Nat.eq_of_beq_eq_true hb, fun h0 => by (rw [h0] at hkn; cases hkn), hz⟩
        | false => rw [hkn] at hz; exact absurd hz.symm hne
      | false => rw [hb] at hz; exact absurd hz.symm hne
    have key : ∀ e r, (DRep C.ty (rdr w g.pub) (.lst e r) (a.eval x)) → cond (Nat.beq e' e && (C.ty e').kind.known) (atIndex fail (view st.get i) r.length fun j => k { v := .dptr e 0 (r.getD j []) }) fail = res → Ends P C E st a w o kp k res := fun e r hd hz => by
      obtain ⟨rfl, hko, hz⟩ := hbeq hz
      obtain ⟨ik, z, h1, h2, h3, h4⟩ := atIndex_ends hz hne
      have hi := eval_int H h1
      obtain ⟨b, o', cap, vs, h5, h6, h7, h8, h9⟩ := row_at hd (i := z.toNat) (by omega)
      have hsz : ∀ w, (sizeOf e').run P w = .ok (C.ty e').size w := fun w => run_sizeP hT hko w
      exact .of h4 (.plain H ⟨rfl, rfl, rfl⟩ (x := .pointer (some ⟨b, o' + z.toNat * (C.ty e').size, none⟩)) (by simp [execOp, hop, h5, hi, run_indexAt hty hsz b o' _ cap ik z h2 h3]) ⟨b, o' + z.toNat * (C.ty e').size, vs, by simp, h7, h8, h9⟩ rfl (fun id h => by cases h) fun u hu => by cases hu)
    split at h
    · rename_i t ht
      split at h
      · rename_i e r hr
        obtain ⟨rfl, hko, h⟩ := hbeq h
        obtain ⟨ik, z, h1, h2, h3, h4⟩ := atIndex_ends h hne
        have hi := eval_int H h1
        obtain ⟨hev, hot⟩ := owner_eval H ht
        have htm := H.tm t
        rw [hr] at htm
        rcases htm.1 with ⟨rfl, _⟩ | ⟨_, b, cap, cur, ty1, fr, vs, k1, k2, k3, k4, k5, k6, k7, k8⟩ | ⟨_, ho, _⟩
        · simp at h3; omega
        rotate_left
        · exact absurd ho hko
        · have hsz : ∀ w, (sizeOf e').run P w = .ok (C.ty e').size w := fun w => run_sizeP hT hko w
          exact .of h4 (.plain H ⟨rfl, rfl, rfl⟩ (x := .pointer (some ⟨b, z.toNat * (C.ty e').size, none⟩)) (by simp [execOp, hop, hev, k1, hi, run_indexAt hty hsz b 0 _ cap ik z h2 h3]) ⟨b, r.length, cap, by rw [hot, k1], rfl⟩ rfl (fun id h => by cases h) fun u hu => by
            have : u = t := by simpa [AV.refs] using hu
            rw [this, hr]; rfl)
      · exact absurd h.symm hne
    · rename_i hown
      split at h
      · rename_i e r hx
        refine key e r ?_ h
        have h2 := (operand_rel H x (by rw [hx]; rfl)).1
        rw [hx] at h2
        exact h2
      · rename_i e r hx
        have h2 := (operand_rel H x (by rw [hx]; rfl)).1
        rw [hx] at h2
        obtain ⟨A, h3, h4⟩ := h2
        exact key e r h4 h
      · exact absurd h.symm hne
  · exact absurd h.symm hne

end Go.Ab
end

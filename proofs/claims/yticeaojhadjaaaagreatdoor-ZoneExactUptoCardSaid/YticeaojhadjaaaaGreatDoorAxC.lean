/- Part 3 of the proof that this seat's laws lean on: an abstract machine over the model's code, its soundness, and what it says of this program. -/
import Derived.Test.YticeaojhadjaaaaGreatDoorAxB
import Derived.Laws.Sem
import Derived.Laws.Entries

section
/-! Single operations: what they yield, and that the relation goes on. -/
set_option autoImplicit false
set_option linter.unusedVariables false
set_option linter.unusedSimpArgs false
namespace Go.Ab
variable {P : Program} {T : Tys} {E : Ent} {g : Gh} {st : St} {a : Act} {w : World} {o : Oper} {f : Eff}

/-- Whatever follows holds of the next state. -/
def Next1 (P : Program) (T : Tys) (E : Ent) (st : St) (a : Act) (w : World) (o : Oper) (f : Eff) : Prop :=
  ∀ (K : Act → World → Prop) (Q : Exit → Act → World → Prop), dstOk E.n o.dst f.v = true → (∀ g' a' w', Rel T E g' (f.app o.dst st) a' w' → K a' w') → o.wp P a w K Q

theorem Next1.value {x : Value} {w' : World} (hrun : (execOp a.eval o).run P w = .ok (.value x) w') (h : dstOk E.n o.dst f.v = true → ∃ g', Rel T E g' (f.app o.dst st) (a.put o.dst x) w') : Next1 P T E st a w o f := fun K Q hd hK => by
  obtain ⟨g', h⟩ := h hd
  unfold Oper.wp
  rw [hrun]
  exact hK g' _ _ h

theorem Next1.skip {w' : World} (hrun : (execOp a.eval o).run P w = .ok .skip w') (h : dstOk E.n o.dst f.v = true → ∃ g', Rel T E g' (f.app o.dst st) (a.put o.dst undef) w') : Next1 P T E st a w o f := fun K Q hd hK => by
  obtain ⟨g', h⟩ := h hd
  unfold Oper.wp
  rw [hrun]
  exact hK g' _ _ h

theorem dstOk_some {n d : Nat} {v : AV} (h : dstOk n (some d) v = true) : d < n ∧ v.refs d = false := by
  simp only [dstOk, Bool.and_eq_true, Bool.not_eq_true'] at h
  exact ⟨by simpa [Nat.blt_eq] using h.1, h.2⟩

/-- The last step: the temporary is written. -/
theorem Rel.putDst (H : Rel T E g st a w) {v : AV} {x : Value} {dst : Option Nat} (hd : dstOk E.n dst v = true) (hv : VRel T (rdr w g.pub) g.bl g.ot v x) (hno : isOwn v = false)
    (hid : ∀ id, id ∈ idsOf v → (st.box id).isSome = true) (hrf : ∀ u, v.refs u = true → isOwn (st.get u) = true) :
    Rel T E g (st.putO dst v) (a.put dst x) w := by
  cases dst with
  | none => exact H
  | some d =>
    obtain ⟨h1, h2⟩ := dstOk_some hd
    refine H.put (.put a d x) ?_ hno hid fun u hu => ⟨fun e => (by rw [e, h2] at hu; cases hu), hrf u hu⟩
    rw [put_same a d x (by rw [H.ns]; exact h1)]
    exact hv

/-- An operation that only yields a value. -/
theorem Next1.plain (H : Rel T E g st a w) {x : Value} (hf : f.tw = [] ∧ f.uw = [] ∧ f.bw = []) (hrun : (execOp a.eval o).run P w = .ok (.value x) w)
    (hv : VRel T (rdr w g.pub) g.bl g.ot f.v x) (hno : isOwn f.v = false) (hid : ∀ id, id ∈ idsOf f.v → (st.box id).isSome = true) (hrf : ∀ u, f.v.refs u = true → isOwn (st.get u) = true) : Next1 P T E st a w o f :=
  .value hrun fun hd => ⟨g, by
    have := H.putDst hd hv hno hid hrf
    unfold Eff.app
    rw [hf.1, hf.2.1, hf.2.2]
    exact this⟩

/-- The same where rows are published first. -/
theorem Next1.pub (H : Rel T E g st a w) {x : Value} (hf : f.uw = [] ∧ f.bw = []) (hL : ∀ p, p ∈ f.tw → ∃ e r, p.2 = .d (.lst e r) ∧ ((st.get p.1 = .own e r ∧ isTag e = false) ∨ st.get p.1 = .d (.lst e r)))
    (hrun : (execOp a.eval o).run P w = .ok (.value x) w)
    (hv : ∀ g' : Gh, (∀ b, g.pub b → g'.pub b) → g'.bl = g.bl → (∀ p, p ∈ f.tw → ∃ e r, p.2 = .d (.lst e r) ∧ DRep T (rdr w g'.pub) (.lst e r) (a.tmps.getD p.1 undef)) → VRel T (rdr w g'.pub) g'.bl g'.ot f.v x)
    (hno : isOwn f.v = false) (hid : ∀ id, id ∈ idsOf f.v → (st.box id).isSome = true) (hrf : ∀ u, f.v.refs u = false) : Next1 P T E st a w o f :=
  .value hrun fun hd => by
    obtain ⟨g', h1, h2, h3, h4, h5, h6⟩ := H.pubAll f.tw hL
    refine ⟨g', ?_⟩
    have := h1.putDst hd (hv g' h2 h3 h5) hno (fun id h => by rw [h4]; exact hid id h) (fun u h => by rw [hrf u] at h; cases h)
    unfold Eff.app
    rw [hf.1, hf.2]
    exact this

/-! ### integers, bools, strings -/
theorem VRel_int {R : Rdr} {bl : Nat → Nat} {ot : Nat → Value} {k : IntKind} {n : Int} {v : Value} (h : VRel T R bl ot (.d (.int k n)) v) : v = .int k n := by
  have h' : DRep T R (.int k n) v := h
  cases h'; rfl
theorem VRel_bool {R : Rdr} {bl : Nat → Nat} {ot : Nat → Value} {b : Bool} {v : Value} (h : VRel T R bl ot (.d (.bool b)) v) : v = .bool b := by
  have h' : DRep T R (.bool b) v := h
  cases h'; rfl
theorem VRel_str {R : Rdr} {bl : Nat → Nat} {ot : Nat → Value} {s : List UInt8} {v : Value} (h : VRel T R bl ot (.d (.str s)) v) : v = .string ⟨s.toArray⟩ := by
  have h' : DRep T R (.str s) v := h
  cases h'; rfl

theorem view_d (H : Rel T E g st a w) {x : Operand} {y : Dat} (h : view st.get x = .d y) (hy : ∀ e r, y ≠ .lst e r) : operand st.get x = .d y := by
  unfold view at h
  split at h
  · exact absurd (tag_d h).2 (hy _ _)
  · split at h
    · exact absurd (tag_d h).2 (hy _ _)
    · cases h
  · exact h

theorem eval_int (H : Rel T E g st a w) {x : Operand} {k : IntKind} {n : Int} (h : view st.get x = .d (.int k n)) : a.eval x = .int k n := by
  have h1 := view_d H h (fun _ _ h => by cases h)
  have h2 := (operand_rel H x (by rw [h1]; rfl)).1
  rw [h1] at h2
  exact VRel_int h2
theorem eval_bool (H : Rel T E g st a w) {x : Operand} {b : Bool} (h : operand st.get x = .d (.bool b)) : a.eval x = .bool b := by
  have h2 := (operand_rel H x (by rw [h]; rfl)).1
  rw [h] at h2
  exact VRel_bool h2
theorem eval_str (H : Rel T E g st a w) {x : Operand} {s : List UInt8} (h : operand st.get x = .d (.str s)) : a.eval x = .string ⟨s.toArray⟩ := by
  have h2 := (operand_rel H x (by rw [h]; rfl)).1
  rw [h] at h2
  exact VRel_str h2

/-- A number, bool or string is yielded. -/
theorem Next1.data (H : Rel T E g st a w) {y : Dat} {x : Value} (hf : f = { v := .d y }) (hrun : (execOp a.eval o).run P w = .ok (.value x) w) (hy : DRep T (rdr w g.pub) y x) : Next1 P T E st a w o f := by
  subst hf
  exact .plain H ⟨rfl, rfl, rfl⟩ hrun hy rfl (fun id h => by cases h) (fun u h => by cases h)

end Go.Ab
end

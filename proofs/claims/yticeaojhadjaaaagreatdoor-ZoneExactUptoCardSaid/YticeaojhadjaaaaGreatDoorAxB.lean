/- Part 2 of the proof that this seat's laws lean on: an abstract machine over the model's code, its soundness, and what it says of this program. -/
import Derived.Test.YticeaojhadjaaaaGreatDoorAxA
import Derived.Calls

section
set_option linter.unusedSimpArgs false
/-! How the abstract machine's states stand to the model's worlds. -/
set_option autoImplicit false
set_option linter.unusedVariables false
namespace Go.Ab

/-- A value that one cell holds. -/
def one1 : Value → Bool
  | .agg _ => false
  | .tuple _ => false
  | _ => true

abbrev Rdr := Nat → Nat → Value → Prop

def WT : TK → Dat → Prop
  | .int k, .int k' _ => k = k'
  | .bool, .bool _ => True
  | .string, .str _ => True
  | .slice e, .lst e' _ => e = e'
  | .func, .fn _ _ => True
  | .func, .nilF => True
  | .iface, .ifc _ _ => True
  | .iface, .nilI => True
  | .pointer _, .nilP => True
  | _, _ => False

/-- A value reads as data. -/
inductive DRep (T : Tys) (R : Rdr) : Dat → Value → Prop
  | int (k : IntKind) (n : Int) : DRep T R (.int k n) (.int k n)
  | bool (b : Bool) : DRep T R (.bool b) (.bool b)
  | str (s : List UInt8) : DRep T R (.str s) (.string ⟨s.toArray⟩)
  | lst (e : TypeId) (rows : List (List Dat)) (A : Option Addr) (cap : Nat) (vs : Nat → Nat → Value)
      (hcap : rows.length ≤ cap)
      (hsz : 0 < rows.length → (T e).size = (T e).cells.length)
      (ha : 0 < rows.length → ∃ b o, A = some ⟨b, o, none⟩ ∧ ∀ i j, i < rows.length → j < (T e).size → R b (o + (i * (T e).size + j)) (vs i j))
      (hl : ∀ i, i < rows.length → (rows.getD i []).length = (T e).size)
      (hr : ∀ i j, i < rows.length → j < (T e).size → DRep T R ((rows.getD i []).getD j .nilP) (vs i j))
      (ht : ∀ i j, i < rows.length → j < (T e).size → WT (T ((T e).cells.getD j 0)).kind ((rows.getD i []).getD j .nilP)) :
      DRep T R (.lst e rows) (.slice A rows.length cap)
  | fn (f : FuncId) (caps : List Dat) (vals : Array Value) (hl : caps.length = vals.size)
      (hr : ∀ i, i < caps.length → DRep T R (caps.getD i .nilP) (vals.getD i undef)) :
      DRep T R (.fn f caps) (.func (.func f) #[] vals)
  | nilF : DRep T R .nilF .nilFunc
  | ifc (t : TypeId) (cells : List Dat) (v : Value)
      (hk : ((T t).kind.isAgg = true ∧ ∃ cs, v = .agg cs) ∨ ((T t).kind.isAgg = false ∧ one1 v = true))
      (hl : cells.length = v.cells.size) (hlt : cells.length = (T t).cells.length)
      (hr : ∀ i, i < cells.length → DRep T R (cells.getD i .nilP) (v.cells.getD i undef))
      (ht : ∀ i, i < cells.length → WT (T ((T t).cells.getD i 0)).kind (cells.getD i .nilP)) :
      DRep T R (.ifc t cells) (.iface t v)
  | nilI : DRep T R .nilI .nilIface
  | nilP : DRep T R .nilP (.pointer none)
  | ref (e : TypeId) (row : List Dat) (b o : Nat) (vs : Nat → Value) (hsz : (T e).size = (T e).cells.length) (hl : row.length = (T e).cells.length)
      (ha : ∀ j, j < row.length → R b (o + j) (vs j))
      (hr : ∀ j, j < row.length → DRep T R (row.getD j .nilP) (vs j))
      (ht : ∀ j, j < row.length → WT (T ((T e).cells.getD j 0)).kind (row.getD j .nilP)) :
      DRep T R (.ref e row) (.pointer (some ⟨b, o, none⟩))

theorem DRep.mono {T : Tys} {R R' : Rdr} (hR : ∀ b i v, R b i v → R' b i v) {x : Dat} {v : Value} (h : DRep T R x v) : DRep T R' x v := by
  induction h with
  | int k n => exact .int k n
  | bool b => exact .bool b
  | str s => exact .str s
  | lst e rows A cap vs hcap hsz ha hl hr ht ih =>
    refine .lst e rows A cap vs hcap hsz (fun h0 => ?_) hl ih ht
    obtain ⟨b, o, h1, h2⟩ := ha h0
    exact ⟨b, o, h1, fun i j hi hj => hR _ _ _ (h2 i j hi hj)⟩
  | fn f caps vals hl hr ih => exact .fn f caps vals hl ih
  | nilF => exact .nilF
  | ifc t cells v hk hl hlt hr ht ih => exact .ifc t cells v hk hl hlt ih ht
  | nilI => exact .nilI
  | nilP => exact .nilP
  | ref e row b o vs hsz hl ha hr ht ih => exact .ref e row b o vs hsz hl (fun j hj => hR _ _ _ (ha j hj)) ih ht

theorem DRep.one {T : Tys} {R : Rdr} {x : Dat} {v : Value} (h : DRep T R x v) : one1 v = true := by cases h <;> rfl

/-- A row of cells that are read. -/
def RowRep (T : Tys) (R : Rdr) (e : TypeId) (row : List Dat) (vs : Nat → Value) : Prop :=
  row.length = (T e).cells.length ∧ ∀ j, j < row.length → DRep T R (row.getD j .nilP) (vs j) ∧ WT (T ((T e).cells.getD j 0)).kind (row.getD j .nilP)

theorem RowRep.mono {T : Tys} {R R' : Rdr} (hR : ∀ b i v, R b i v → R' b i v) {e : TypeId} {row : List Dat} {vs : Nat → Value} (h : RowRep T R e row vs) : RowRep T R' e row vs :=
  ⟨h.1, fun j hj => ⟨(h.2 j hj).1.mono hR, (h.2 j hj).2⟩⟩

/-- One cell. -/
def LRel (T : Tys) (R : Rdr) (bl : Nat → Nat) : AV → Value → Prop
  | .d x, v => DRep T R x v
  | .nils _, v => v = .slice none 0 0
  | .full e r, v => ∃ A, v = .slice A r.length r.length ∧ DRep T R (.lst e r) v
  | .ptr id off, v => v = .pointer (some ⟨bl id, off, none⟩)
  | .dptr e off row, v => ∃ b o vs, v = .pointer (some ⟨b, o + off, none⟩) ∧ (T e).size = (T e).cells.length ∧ RowRep T R e row vs ∧ ∀ j, j < row.length → R b (o + j) (vs j)
  | .undef, v => one1 v = true
  | _, _ => False

theorem LRel.mono {T : Tys} {R R' : Rdr} {bl bl' : Nat → Nat} (hR : ∀ b i v, R b i v → R' b i v) {x : AV} {v : Value} (hb : ∀ id ∈ idL x, bl' id = bl id) (h : LRel T R bl x v) : LRel T R' bl' x v := by
  cases x <;> simp only [LRel] at h ⊢
  case d x => exact h.mono hR
  case nils => exact h
  case full e r => obtain ⟨A, h1, h2⟩ := h; exact ⟨A, h1, h2.mono hR⟩
  case ptr id off => rw [hb id (by simp [idL])]; exact h
  case dptr e off row => obtain ⟨b, o, vs, h1, h2, h3, h4⟩ := h; exact ⟨b, o, vs, h1, h2, h3.mono hR, fun j hj => hR _ _ _ (h4 j hj)⟩
  case undef => exact h

theorem LRel.one {T : Tys} {R : Rdr} {bl : Nat → Nat} {x : AV} {v : Value} (h : LRel T R bl x v) : one1 v = true := by
  cases x <;> simp only [LRel] at h
  case d x => exact h.one
  case nils => rw [h]; rfl
  case full e r => obtain ⟨A, h1, h2⟩ := h; rw [h1]; rfl
  case ptr id off => rw [h]; rfl
  case dptr e off row => obtain ⟨b, o, vs, h1, h2⟩ := h; rw [h1]; rfl
  case undef => exact h

theorem cap_rel {T : Tys} {R : Rdr} {bl : Nat → Nat} {c : Dat} {v : Value} (h : DRep T R c v) : LRel T R bl (capAV c) v := by
  cases h with
  | ref e row b o vs hsz hl ha hr ht => exact ⟨b, o, vs, rfl, hsz, ⟨hl, fun j hj => ⟨hr j hj, ht j hj⟩⟩, ha⟩
  | int k n => exact .int k n
  | bool b => exact .bool b
  | str s => exact .str s
  | lst e rows A cap vs hcap hsz ha hl hr ht => exact .lst e rows A cap vs hcap hsz ha hl hr ht
  | fn f caps vals hl hr => exact .fn f caps vals hl hr
  | nilF => exact .nilF
  | ifc t cells v hk hl hlt hr ht => exact .ifc t cells v hk hl hlt hr ht
  | nilI => exact .nilI
  | nilP => exact .nilP

/-- Cells. -/
def CsRel (T : Tys) (R : Rdr) (bl : Nat → Nat) (xs : List AV) (vs : Array Value) : Prop :=
  xs.length = vs.size ∧ ∀ j, j < xs.length → LRel T R bl (xs.getD j .undef) (vs.getD j undef)

theorem CsRel.mono {T : Tys} {R R' : Rdr} {bl bl' : Nat → Nat} (hR : ∀ b i v, R b i v → R' b i v) {xs : List AV} {vs : Array Value} (hb : ∀ id ∈ xs.flatMap idL, bl' id = bl id) (h : CsRel T R bl xs vs) : CsRel T R' bl' xs vs :=
  ⟨h.1, fun j hj => (h.2 j hj).mono hR fun id hid => hb id (List.mem_flatMap.2 ⟨xs.getD j .undef, by rw [List.getD_eq_getElem?_getD, List.getElem?_eq_getElem hj]; exact List.getElem_mem hj, hid⟩)⟩

/-- A value: a struct, a function with what it captured, an interface value, one cell. -/
def MRel (T : Tys) (R : Rdr) (bl : Nat → Nat) : AV → Value → Prop
  | .agg xs, v => ∃ vs, v = .agg vs ∧ CsRel T R bl xs vs
  | .fn f xs, v => ∃ vs, v = .func (.func f) #[] vs ∧ CsRel T R bl xs vs
  | .ifc t x, v => ∃ u, v = .iface t u ∧ (match x with
    | .agg xs => ∃ vs, u = .agg vs ∧ CsRel T R bl xs vs
    | x => LRel T R bl x u)
  | .undef, _ => True
  | x, v => LRel T R bl x v

theorem MRel.mono {T : Tys} {R R' : Rdr} {bl bl' : Nat → Nat} (hR : ∀ b i v, R b i v → R' b i v) {x : AV} {v : Value} (hb : ∀ id ∈ idsOf x, bl' id = bl id) (h : MRel T R bl x v) : MRel T R' bl' x v := by
  cases x
  case agg xs => obtain ⟨vs, h1, h2⟩ := h; exact ⟨vs, h1, h2.mono hR hb⟩
  case fn f xs => obtain ⟨vs, h1, h2⟩ := h; exact ⟨vs, h1, h2.mono hR hb⟩
  case ifc t x =>
    obtain ⟨u, h1, h2⟩ := h
    refine ⟨u, h1, ?_⟩
    cases x
    case agg xs => obtain ⟨vs, h3, h4⟩ := h2; exact ⟨vs, h3, h4.mono hR hb⟩
    case undef => exact LRel.mono (T := T) (R := R) (bl := bl) (x := AV.undef) hR hb h2
    case d y => exact LRel.mono (T := T) (R := R) (bl := bl) (x := AV.d y) hR hb h2
    case nils e => exact LRel.mono (T := T) (R := R) (bl := bl) (x := AV.nils e) hR hb h2
    case full e r => exact LRel.mono (T := T) (R := R) (bl := bl) (x := AV.full e r) hR hb h2
    case ptr i o => exact LRel.mono (T := T) (R := R) (bl := bl) (x := AV.ptr i o) hR hb h2
    case dptr e o r => exact LRel.mono (T := T) (R := R) (bl := bl) (x := AV.dptr e o r) hR hb h2
    all_goals exact (h2 : False).elim
  case undef => trivial
  case d y => exact LRel.mono (T := T) (R := R) (bl := bl) (x := AV.d y) hR hb h
  case nils e => exact LRel.mono (T := T) (R := R) (bl := bl) (x := AV.nils e) hR hb h
  case full e r => exact LRel.mono (T := T) (R := R) (bl := bl) (x := AV.full e r) hR hb h
  case ptr i o => exact LRel.mono (T := T) (R := R) (bl := bl) (x := AV.ptr i o) hR hb h
  case dptr e o r => exact LRel.mono (T := T) (R := R) (bl := bl) (x := AV.dptr e o r) hR hb h
  all_goals exact (h : False).elim

/-- What a temporary holds, if it is no row of its own. -/
def VRel (T : Tys) (R : Rdr) (bl : Nat → Nat) (ot : Nat → Value) : AV → Value → Prop
  | .alias t, v => v = ot t
  | .eptr t e i off, v => ∃ b n cap, ot t = .slice (some ⟨b, 0, none⟩) n cap ∧ v = .pointer (some ⟨b, i * (T e).size + off, none⟩)
  | .tup xs, v => ∃ vs, v = .tuple vs ∧ xs.length = vs.size ∧ (∀ j, j < xs.length → MRel T R bl (xs.getD j .undef) (vs.getD j undef)) ∧ ∀ x ∈ xs, idsOf x = []
  | x, v => MRel T R bl x v

theorem VRel.mono {T : Tys} {R R' : Rdr} {bl bl' : Nat → Nat} {ot ot' : Nat → Value} (hR : ∀ b i v, R b i v → R' b i v) {x : AV} {v : Value} (hb : ∀ id ∈ idsOf x, bl' id = bl id)
    (ho : ∀ t, x.refs t = true → ot' t = ot t) (h : VRel T R bl ot x v) : VRel T R' bl' ot' x v := by
  cases x
  case alias t => exact Eq.trans h (ho t (by simp [AV.refs])).symm
  case eptr t e i off =>
    obtain ⟨b, n, cap, h1, h2⟩ := h
    exact ⟨b, n, cap, by rw [ho t (by simp [AV.refs])]; exact h1, h2⟩
  case tup xs =>
    obtain ⟨vs, h1, h2, h3, h4⟩ := h
    refine ⟨vs, h1, h2, fun j hj => (h3 j hj).mono hR fun id hid => ?_, h4⟩
    rw [h4 (xs.getD j .undef) (by rw [List.getD_eq_getElem?_getD, List.getElem?_eq_getElem hj]; exact List.getElem_mem hj)] at hid
    cases hid
  case d y => exact MRel.mono (T := T) (R := R) (bl := bl) (x := AV.d y) hR hb h
  case nils e => exact MRel.mono (T := T) (R := R) (bl := bl) (x := AV.nils e) hR hb h
  case full e r => exact MRel.mono (T := T) (R := R) (bl := bl) (x := AV.full e r) hR hb h
  case ptr i o => exact MRel.mono (T := T) (R := R) (bl := bl) (x := AV.ptr i o) hR hb h
  case dptr e o r => exact MRel.mono (T := T) (R := R) (bl := bl) (x := AV.dptr e o r) hR hb h
  case agg xs => exact MRel.mono (T := T) (R := R) (bl := bl) (x := AV.agg xs) hR hb h
  case fn f xs => exact MRel.mono (T := T) (R := R) (bl := bl) (x := AV.fn f xs) hR hb h
  case ifc t x => exact MRel.mono (T := T) (R := R) (bl := bl) (x := AV.ifc t x) hR hb h
  case undef => trivial
  all_goals exact (h : False).elim

/-- A map's entry. -/
def EntRel (T : Tys) (R : Rdr) (k l : TypeId) (row : List Dat) (en : MapEntry) : Prop :=
  ∃ kd vs, row = kd :: vs ∧ DRep T R kd en.key ∧ WT (T k).kind kd ∧ vs.length = (T l).cells.length ∧ en.val.cells.size = vs.length ∧
    (∀ j, j < vs.length → DRep T R (vs.getD j .nilP) (en.val.cells.getD j undef) ∧ WT (T ((T l).cells.getD j 0)).kind (vs.getD j .nilP)) ∧
    (((T l).kind.isAgg = true ∧ ∃ cs, en.val = .agg cs) ∨ ((T l).kind.isAgg = false ∧ one1 en.val = true))

def EntsRel (T : Tys) (R : Rdr) (k l : TypeId) : List (List Dat) → List MapEntry → Prop
  | [], [] => True
  | row :: rows, en :: es => EntRel T R k l row en ∧ EntsRel T R k l rows es
  | _, _ => False

/-- What other objects hold: a string that is ranged over; a map's entries. -/
def ObjRel (T : Tys) (R : Rdr) (e : TypeId) (rows : List (List Dat)) (v : Value) (b : Nat) (o : Obj) : Prop :=
  (e = iterTag ∧ v = .pointer (some ⟨b, 0, none⟩) ∧ ∃ (s : List UInt8) (i : Nat), rows = [[.str s, .int .i64 i]] ∧ o = .stringIter ⟨s.toArray⟩ i) ∨
  (∃ t k l es clock, e = mapTag t ∧ (T t).kind = .map k l ∧ v = .map (some b) ∧ o = .map es clock ∧ EntsRel T R k l rows es.toList)

theorem EntRel.mono {T : Tys} {R R' : Rdr} (hR : ∀ b i v, R b i v → R' b i v) {k l : TypeId} {row : List Dat} {en : MapEntry} (h : EntRel T R k l row en) : EntRel T R' k l row en := by
  obtain ⟨kd, vs, q1, q3, q4, q5, q6, q7, q8⟩ := h
  exact ⟨kd, vs, q1, q3.mono hR, q4, q5, q6, fun j hj => ⟨(q7 j hj).1.mono hR, (q7 j hj).2⟩, q8⟩

theorem EntsRel.mono {T : Tys} {R R' : Rdr} (hR : ∀ b i v, R b i v → R' b i v) {k l : TypeId} : ∀ {rows : List (List Dat)} {es : List MapEntry}, EntsRel T R k l rows es → EntsRel T R' k l rows es
  | [], [], _ => trivial
  | row :: rows, en :: es, h => ⟨h.1.mono hR, EntsRel.mono hR h.2⟩
  | [], _ :: _, h => h.elim
  | _ :: _, [], h => h.elim

theorem ObjRel.mono {T : Tys} {R R' : Rdr} (hR : ∀ b i v, R b i v → R' b i v) {e : TypeId} {rows : List (List Dat)} {v : Value} {b : Nat} {o : Obj} (h : ObjRel T R e rows v b o) : ObjRel T R' e rows v b o := by
  rcases h with h | ⟨t, k, l, es, clock, h1, h2, h3, h4, h5⟩
  · exact .inl h
  · exact .inr ⟨t, k, l, es, clock, h1, h2, h3, h4, h5.mono hR⟩

/-- A row of the call's own. -/
def OwnRel (T : Tys) (R : Rdr) (w : World) (e : TypeId) (rows : List (List Dat)) (v : Value) : Prop :=
  (rows = [] ∧ isTag e = false ∧ ∃ A, v = .slice A 0 0) ∨
  (isTag e = false ∧ ∃ (b cap : Nat) (cur : Array Value) (ty : TypeId) (fr : Nat × Nat) (vs : Nat → Nat → Value), v = .slice (some ⟨b, 0, none⟩) rows.length cap ∧ w.heap[b]? = some (.cells cur ty fr) ∧ (∀ i, i < cur.size → ¬ (fr.1 ≤ i ∧ i < fr.2)) ∧ rows.length ≤ cap ∧ 0 < cap ∧
    (T e).size = (T e).cells.length ∧ cur.size = cap * (T e).size ∧
    ∀ i, i < rows.length → RowRep T R e (rows.getD i []) (vs i) ∧ ∀ j, j < (T e).size → cur[i * (T e).size + j]? = some (vs i j)) ∨
  (isTag e = true ∧ (T e).kind = .other ∧ ∃ b o, w.heap[b]? = some o ∧ ObjRel T R e rows v b o)

def ownB : Value → Option Nat
  | .slice (some a) _ cap => if cap = 0 then none else some a.block
  | .pointer (some a) => some a.block
  | .map (some b) => some b
  | _ => none

theorem OwnRel.mono {T : Tys} {R R' : Rdr} {w w' : World} (hR : ∀ b i v, R b i v → R' b i v) {e : TypeId} {rows : List (List Dat)} {v : Value} (hw : ∀ b, ownB v = some b → w'.heap[b]? = w.heap[b]?) (h : OwnRel T R w e rows v) : OwnRel T R' w' e rows v := by
  rcases h with h | ⟨h0, b, cap, cur, ty, fr, vs, h1, h2, h3, h4, h5, h6, h7, h8⟩ | ⟨h0, h1, b, o, h2, h3⟩
  · exact .inl h
  · refine .inr (.inl ⟨h0, b, cap, cur, ty, fr, vs, h1, ?_, h3, h4, h5, h6, h7, fun i hi => ⟨(h8 i hi).1.mono hR, (h8 i hi).2⟩⟩)
    rw [hw b (by rw [h1]; simp [ownB]; omega)]
    exact h2
  · refine .inr (.inr ⟨h0, h1, b, o, ?_, h3.mono hR⟩)
    rw [hw b ?_]
    · exact h2
    · rcases h3 with ⟨_, hv, _⟩ | ⟨_, _, _, _, _, _, _, hv, _⟩ <;> rw [hv] <;> rfl

/-- What is known at the call's begin: the world, what is published, what may be written, the variables that came in by address, how many temporaries there are. -/
structure Ent where
  w0 : World
  pub0 : Nat → Prop
  W : Nat → Prop
  nx : Nat
  xb : Nat → Nat
  n : Nat

structure Gh where
  pub : Nat → Prop
  bl : Nat → Nat
  ot : Nat → Value
  oc : Nat → Nat → Value

def rdr (w : World) (pub : Nat → Prop) : Rdr := fun b i v => pub b ∧ w.cell? ⟨b, i, none⟩ = some v

/-- Who holds a block. -/
inductive Hd where
  | tmp (t : Nat)
  | cell (id off : Nat)
  | box (id : Nat)

noncomputable def cellAt (st : St) (id off : Nat) : AV := ((st.box id).getD []).getD off .undef

noncomputable def hb (g : Gh) (st : St) : Hd → Option Nat
  | .box id => if (st.box id).isSome = true then some (g.bl id) else none
  | .tmp t => if isOwn (st.get t) = true then ownB (g.ot t) else none
  | .cell id off => if isOwn (cellAt st id off) = true then ownB (g.oc id off) else none

def TRel (T : Tys) (w : World) (g : Gh) (t : Nat) (x : AV) (v : Value) : Prop :=
  match x with
  | .own e r => OwnRel T (rdr w g.pub) w e r v ∧ g.ot t = v
  | x => VRel T (rdr w g.pub) g.bl g.ot x v

def CRel (T : Tys) (w : World) (g : Gh) (id off : Nat) (x : AV) (v : Value) : Prop :=
  match x with
  | .own e r => OwnRel T (rdr w g.pub) w e r v ∧ g.oc id off = v
  | x => LRel T (rdr w g.pub) g.bl x v

def BxRel (T : Tys) (w : World) (g : Gh) (id : Nat) (cs : List AV) : Prop :=
  ∃ cur ty fr, w.heap[g.bl id]? = some (.cells cur ty fr) ∧ cur.size = cs.length ∧ (∀ i, i < cur.size → ¬ (fr.1 ≤ i ∧ i < fr.2)) ∧
    ∀ j, j < cs.length → CRel T w g id j (cs.getD j .undef) (cur.getD j undef)

structure Rel (T : Tys) (E : Ent) (g : Gh) (st : St) (a : Act) (w : World) : Prop where
  tm : ∀ t, TRel T w g t (st.get t) (a.tmps.getD t undef)
  bx : ∀ id cs, st.box id = some cs → BxRel T w g id cs
  ex : ∀ h h' b, hb g st h = some b → hb g st h' = some b → h = h'
  hp : ∀ h b, hb g st h = some b → ¬ g.pub b ∧ b < w.heap.size ∧ (E.w0.heap.size ≤ b ∨ E.W b)
  pb : ∀ b, g.pub b → b < w.heap.size ∧ (b < E.w0.heap.size → E.pub0 b ∨ E.W b)
  p0 : ∀ b, E.pub0 b → g.pub b
  keep : ∀ b, b < E.w0.heap.size → ¬ E.W b → w.heap[b]? = E.w0.heap[b]?
  wo : w.os = E.w0.os ∧ w.tape = E.w0.tape ∧ w.output = E.w0.output
  sz : E.w0.heap.size ≤ w.heap.size
  al : ∀ t u, (st.get t).refs u = true → isOwn (st.get u) = true
  pr : ∀ t id, id ∈ idsOf (st.get t) → (st.box id).isSome = true
  prb : ∀ id off id', id' ∈ idL (cellAt st id off) → (st.box id').isSome = true
  xt : ∀ i, i < E.nx → (st.box i).isSome = true ∧ g.bl i = E.xb i
  df : a.defers = []
  ns : a.tmps.size = E.n

/-- What holds at a call's end, however it ends. -/
structure Fr (E : Ent) (pub : Nat → Prop) (w : World) : Prop where
  pb : ∀ b, pub b → b < w.heap.size ∧ (b < E.w0.heap.size → E.pub0 b ∨ E.W b)
  p0 : ∀ b, E.pub0 b → pub b
  keep : ∀ b, b < E.w0.heap.size → ¬ E.W b → w.heap[b]? = E.w0.heap[b]?
  wo : w.os = E.w0.os ∧ w.tape = E.w0.tape ∧ w.output = E.w0.output
  sz : E.w0.heap.size ≤ w.heap.size

theorem Rel.fr {T : Tys} {E : Ent} {g : Gh} {st : St} {a : Act} {w : World} (H : Rel T E g st a w) : Fr E g.pub w := ⟨H.pb, H.p0, H.keep, H.wo, H.sz⟩

end Go.Ab
end

section
/-! How the relation goes from state to state. -/
set_option autoImplicit false
set_option linter.unusedVariables false
set_option linter.unusedSimpArgs false
namespace Go.Ab

theorem cell_of_heap {w w' : World} {b i : Nat} (h : w'.heap[b]? = w.heap[b]?) : w'.cell? ⟨b, i, none⟩ = w.cell? ⟨b, i, none⟩ := by
  simp [World.cell?, h]

theorem rdr_mono {w w' : World} {pub pub' : Nat → Prop} (h : ∀ b, pub b → pub' b ∧ w'.heap[b]? = w.heap[b]?) : ∀ b i v, rdr w pub b i v → rdr w' pub' b i v :=
  fun b i v ⟨h1, h2⟩ => ⟨(h b h1).1, by rw [cell_of_heap (h b h1).2]; exact h2⟩

theorem isOwn_eq {v : AV} (h : isOwn v = true) : ∃ e r, v = .own e r := by
  cases v <;> simp [isOwn] at h
  exact ⟨_, _, rfl⟩

theorem own_refs {v : AV} (h : isOwn v = true) (t : Nat) : v.refs t = false := by
  obtain ⟨e, r, rfl⟩ := isOwn_eq h
  rfl

theorem own_ids {v : AV} (h : isOwn v = true) : idsOf v = [] := by
  obtain ⟨e, r, rfl⟩ := isOwn_eq h
  rfl

theorem TRel_of_VRel {T : Tys} {w : World} {g : Gh} {t : Nat} {x : AV} {v : Value} (hn : isOwn x = false) (h : VRel T (rdr w g.pub) g.bl g.ot x v) : TRel T w g t x v := by
  cases x <;> first | exact h | simp [isOwn] at hn

theorem VRel_of_TRel {T : Tys} {w : World} {g : Gh} {t : Nat} {x : AV} {v : Value} (hn : isOwn x = false) (h : TRel T w g t x v) : VRel T (rdr w g.pub) g.bl g.ot x v := by
  cases x <;> first | exact h | simp [isOwn] at hn

theorem CRel_of_LRel {T : Tys} {w : World} {g : Gh} {id off : Nat} {x : AV} {v : Value} (h : LRel T (rdr w g.pub) g.bl x v) : CRel T w g id off x v := by
  cases x <;> first | exact h | exact (h : False).elim

theorem LRel_of_CRel {T : Tys} {w : World} {g : Gh} {id off : Nat} {x : AV} {v : Value} (hn : isOwn x = false) (h : CRel T w g id off x v) : LRel T (rdr w g.pub) g.bl x v := by
  cases x <;> first | exact h | simp [isOwn] at hn

theorem TRel_undef {T : Tys} {w : World} {g : Gh} {t : Nat} {v : Value} : TRel T w g t .undef v := trivial

variable {T : Tys} {E : Ent} {g : Gh} {st : St} {a : Act} {w : World}

/-- The same state, in a later world. -/
theorem Rel.move (H : Rel T E g st a w) {g' : Gh} {w' : World}
    (hpub : ∀ b, g.pub b → g'.pub b)
    (hbl : ∀ id, (st.box id).isSome = true → g'.bl id = g.bl id)
    (hot : ∀ t, isOwn (st.get t) = true → g'.ot t = g.ot t)
    (hoc : ∀ id off, isOwn (cellAt st id off) = true → g'.oc id off = g.oc id off)
    (hh : ∀ b, (g.pub b ∨ ∃ h, hb g st h = some b) → w'.heap[b]? = w.heap[b]?)
    (hsz : w.heap.size ≤ w'.heap.size)
    (hwo : w'.os = w.os ∧ w'.tape = w.tape ∧ w'.output = w.output)
    (hkeep : ∀ b, b < E.w0.heap.size → ¬ E.W b → w'.heap[b]? = w.heap[b]?)
    (hp' : ∀ b, g'.pub b → g.pub b ∨ (w.heap.size ≤ b ∧ b < w'.heap.size)) : Rel T E g' st a w' := by
  have hR : ∀ b i v, rdr w g.pub b i v → rdr w' g'.pub b i v := rdr_mono fun b hb => ⟨hpub b hb, hh b (.inl hb)⟩
  have hhb : ∀ h, hb g' st h = hb g st h := fun h => by
    cases h <;> simp only [hb]
    case tmp t => split <;> first | (rename_i h; rw [hot t h]) | rfl
    case cell id off => split <;> first | (rename_i h; rw [hoc id off h]) | rfl
    case box id => split <;> first | (rename_i h; rw [hbl id h]) | rfl
  have hown : ∀ e r v, OwnRel T (rdr w g.pub) w e r v → (∀ b, ownB v = some b → w'.heap[b]? = w.heap[b]?) → OwnRel T (rdr w' g'.pub) w' e r v := fun e r v h h' => h.mono hR h'
  refine ⟨fun t => ?_, fun id cs hid => ?_, fun h h' b h1 h2 => ?_, fun h b h1 => ?_, fun b h1 => ?_, fun b h1 => hpub b (H.p0 b h1), fun b h1 h2 => ?_, ?_, Nat.le_trans H.sz hsz, H.al, H.pr, H.prb, fun i hi => ?_, H.df, H.ns⟩
  · have ht := H.tm t
    by_cases ho : isOwn (st.get t) = true
    · obtain ⟨e, r, he⟩ := isOwn_eq ho
      rw [he] at ht ⊢
      obtain ⟨h1, h2⟩ := ht
      refine ⟨hown _ _ _ h1 fun b hb1 => hh b (.inr ⟨.tmp t, ?_⟩), by rw [hot t ho]; exact h2⟩
      rw [← h2] at hb1
      simp [hb, ho, hb1]
    · have ho' : isOwn (st.get t) = false := by simpa using ho
      refine TRel_of_VRel ho' ((VRel_of_TRel ho' ht).mono hR (fun id hid => hbl id (H.pr t id hid)) fun u hu => hot u (H.al t u hu))
  · obtain ⟨cur, ty, fr, h1, h2, h3, h4⟩ := H.bx id cs hid
    have his : (st.box id).isSome = true := by rw [hid]; rfl
    refine ⟨cur, ty, fr, ?_, h2, h3, fun j hj => ?_⟩
    · rw [hbl id his, hh (g.bl id) (.inr ⟨.box id, by simp [hb, his]⟩)]
      exact h1
    · have hc := h4 j hj
      have hca : cellAt st id j = cs.getD j .undef := by simp [cellAt, hid]
      by_cases ho : isOwn (cs.getD j .undef) = true
      · obtain ⟨e, r, he⟩ := isOwn_eq ho
        rw [he] at hc ⊢
        obtain ⟨h5, h6⟩ := hc
        refine ⟨hown _ _ _ h5 fun b hb1 => hh b (.inr ⟨.cell id j, ?_⟩), by rw [hoc id j (by rw [hca]; exact ho)]; exact h6⟩
        rw [← h6] at hb1
        simp only [hb]
        rw [if_pos (by rw [hca]; exact ho)]
        exact hb1
      · have ho' : isOwn (cs.getD j .undef) = false := by simpa using ho
        exact CRel_of_LRel ((LRel_of_CRel ho' hc).mono hR fun id' hid' => hbl id' (H.prb id j id' (by rw [hca]; exact hid')))
  · rw [hhb] at h1 h2; exact H.ex h h' b h1 h2
  · rw [hhb] at h1
    obtain ⟨h2, h3, h4⟩ := H.hp h b h1
    refine ⟨fun h5 => ?_, Nat.lt_of_lt_of_le h3 hsz, h4⟩
    rcases hp' b h5 with h6 | h6
    · exact h2 h6
    · omega
  · rcases hp' b h1 with h2 | h2
    · exact ⟨Nat.lt_of_lt_of_le (H.pb b h2).1 hsz, (H.pb b h2).2⟩
    · exact ⟨h2.2, fun h3 => absurd H.sz (by omega)⟩
  · rw [hkeep b h1 h2]; exact H.keep b h1 h2
  · exact ⟨hwo.1.trans H.wo.1, hwo.2.1.trans H.wo.2.1, hwo.2.2.trans H.wo.2.2⟩
  · exact ⟨(H.xt i hi).1, by rw [hbl i (H.xt i hi).1]; exact (H.xt i hi).2⟩

/-- What a temporary is written with, besides itself. -/
structure Wrote (a a' : Act) (d : Nat) : Prop where
  rest : ∀ u, u ≠ d → a'.tmps.getD u undef = a.tmps.getD u undef
  df : a'.defers = a.defers
  ns : a'.tmps.size = a.tmps.size

theorem Wrote.refl (a : Act) (d : Nat) : Wrote a a d := ⟨fun _ _ => rfl, rfl, rfl⟩
theorem Wrote.put (a : Act) (d : Nat) (x : Value) : Wrote a (a.put (some d) x) d :=
  ⟨fun u hu => by simp [Act.put, Array.getD_eq_getD_getElem?, Array.getElem?_setIfInBounds, Ne.symm hu], rfl, by simp [Act.put]⟩
theorem put_same (a : Act) (d : Nat) (x : Value) (h : d < a.tmps.size) : (a.put (some d) x).tmps.getD d undef = x := by
  simp [Act.put, Array.getD_eq_getD_getElem?, Array.getElem?_setIfInBounds, h]

/-- A temporary is written with what is no row of its own. -/
theorem Rel.put (H : Rel T E g st a w) {d : Nat} {v : AV} {a' : Act} (ha : Wrote a a' d) (hv : VRel T (rdr w g.pub) g.bl g.ot v (a'.tmps.getD d undef)) (hno : isOwn v = false)
    (hid : ∀ id, id ∈ idsOf v → (st.box id).isSome = true) (hrf : ∀ u, v.refs u = true → u ≠ d ∧ isOwn (st.get u) = true) : Rel T E g (st.put d v) a' w := by
  have hown : ∀ u, u ≠ d → isOwn (st.get u) = true → (st.put d v).get u = st.get u := fun u hu ho => by
    rw [get_put, if_neg hu, if_neg]
    intro h
    rw [own_refs ho] at h
    exact absurd h.2 (by simp)
  have hown' : ∀ u, isOwn ((st.put d v).get u) = true → u ≠ d ∧ isOwn (st.get u) = true := fun u ho => by
    rw [get_put] at ho
    by_cases hu : u = d
    · rw [if_pos hu, hno] at ho; cases ho
    · rw [if_neg hu] at ho
      split at ho
      · simp [isOwn] at ho
      · exact ⟨hu, ho⟩
  have hca : ∀ id off, cellAt (st.put d v) id off = cellAt st id off := fun id off => by simp [cellAt, box_put]
  have hhb : ∀ h b, hb g (st.put d v) h = some b → hb g st h = some b := fun h b h1 => by
    cases h <;> simp only [hb, box_put, hca] at h1 ⊢
    case tmp t =>
      split at h1
      · rename_i ho
        rw [if_pos (hown' t ho).2]; exact h1
      · cases h1
    all_goals exact h1
  refine ⟨fun t => ?_, fun id cs hid1 => H.bx id cs (by rw [← hid1, box_put]), fun h h' b h1 h2 => H.ex h h' b (hhb h b h1) (hhb h' b h2), fun h b h1 => H.hp h b (hhb h b h1), H.pb, H.p0, H.keep, H.wo, H.sz, fun t u h1 => ?_, fun t id h1 => ?_, fun id off id' h1 => ?_, fun i hi => ?_, by rw [ha.df]; exact H.df, by rw [ha.ns]; exact H.ns⟩
  · rw [get_put]
    by_cases ht : t = d
    · subst ht
      rw [if_pos rfl]
      exact TRel_of_VRel hno hv
    · rw [if_neg ht]
      split
      · exact TRel_undef
      · rw [ha.rest t ht]; exact H.tm t
  · rw [get_put] at h1
    by_cases ht : t = d
    · rw [if_pos ht] at h1
      obtain ⟨h2, h3⟩ := hrf u h1
      rw [hown u h2 h3]; exact h3
    · rw [if_neg ht] at h1
      split at h1
      · simp [AV.refs] at h1
      · rename_i hk
        have h2 := H.al t u h1
        by_cases hu : u = d
        · subst hu; exact absurd ⟨h2, h1⟩ hk
        · rw [hown u hu h2]; exact h2
  · rw [box_put]
    rw [get_put] at h1
    by_cases ht : t = d
    · rw [if_pos ht] at h1; exact hid id h1
    · rw [if_neg ht] at h1
      split at h1
      · simp [idsOf, idL] at h1
      · exact H.pr t id h1
  · rw [box_put]; rw [hca] at h1; exact H.prb id off id' h1
  · rw [box_put]; exact H.xt i hi

/-- What a temporary holds is forgotten. -/
theorem Rel.forget (H : Rel T E g st a w) (d : Nat) : Rel T E g (st.put d .undef) a w :=
  H.put (.refl a d) trivial rfl (fun id h => by simp [idsOf, idL] at h) (fun u h => by simp [AV.refs] at h)

/-- A temporary is given a row of its own. -/
theorem Rel.putOwn (H : Rel T E g st a w) {d : Nat} {e : TypeId} {r : List (List Dat)} {a' : Act} (ha : Wrote a a' d)
    (ho : OwnRel T (rdr w g.pub) w e r (a'.tmps.getD d undef))
    (hf : ∀ b, ownB (a'.tmps.getD d undef) = some b → (∀ h, hb g st h ≠ some b) ∧ ¬ g.pub b ∧ b < w.heap.size ∧ (E.w0.heap.size ≤ b ∨ E.W b)) :
    Rel T E { g with ot := fun t => if t = d then a'.tmps.getD d undef else g.ot t } (st.put d (.own e r)) a' w := by
  have hown : ∀ u, u ≠ d → isOwn (st.get u) = true → (st.put d (.own e r)).get u = st.get u := fun u hu ho => by
    rw [get_put, if_neg hu, if_neg]
    intro h
    rw [own_refs ho] at h
    exact absurd h.2 (by simp)
  have hnr : ∀ u, u ≠ d → ((st.put d (.own e r)).get u).refs d = false := fun u hu => by
    rw [get_put, if_neg hu]
    split
    · rfl
    · rename_i hk
      cases h : (st.get u).refs d
      · rfl
      · exact absurd ⟨H.al u d h, h⟩ hk
  have hca : ∀ id off, cellAt (st.put d (.own e r)) id off = cellAt st id off := fun id off => by simp [cellAt, box_put]
  have hhb : ∀ h b, hb { g with ot := fun t => if t = d then a'.tmps.getD d undef else g.ot t } (st.put d (.own e r)) h = some b → (h = .tmp d ∧ ownB (a'.tmps.getD d undef) = some b) ∨ (h ≠ .tmp d ∧ hb g st h = some b) := fun h b h1 => by
    cases h <;> simp only [hb, box_put, hca] at h1 ⊢
    case tmp t =>
      by_cases ht : t = d
      · subst ht
        left
        simp only [get_put, isOwn, if_true] at h1
        exact ⟨rfl, h1⟩
      · right
        refine ⟨by simpa using ht, ?_⟩
        rw [if_neg ht] at h1
        split at h1
        · rename_i ho
          rw [get_put, if_neg ht] at ho
          split at ho
          · simp [isOwn] at ho
          · rw [if_pos ho]; exact h1
        · cases h1
    all_goals exact .inr ⟨by simp, h1⟩
  refine ⟨fun t => ?_, fun id cs hid1 => ?_, fun h h' b h1 h2 => ?_, fun h b h1 => ?_, H.pb, H.p0, H.keep, H.wo, H.sz, fun t u h1 => ?_, fun t id h1 => ?_, fun id off id' h1 => ?_, fun i hi => ?_, by rw [ha.df]; exact H.df, by rw [ha.ns]; exact H.ns⟩
  · by_cases ht : t = d
    · subst ht
      rw [get_put, if_pos rfl]
      exact ⟨ho, by simp⟩
    · have h0 := hnr t ht
      rw [get_put, if_neg ht] at h0 ⊢
      split
      · exact TRel_undef
      · rename_i hk
        rw [if_neg hk] at h0
        rw [ha.rest t ht]
        have h1 := H.tm t
        by_cases ho1 : isOwn (st.get t) = true
        · obtain ⟨e1, r1, he1⟩ := isOwn_eq ho1
          rw [he1] at h1 ⊢
          exact ⟨h1.1, by simp [ht, h1.2]⟩
        · have ho2 : isOwn (st.get t) = false := by simpa using ho1
          refine TRel_of_VRel ho2 ((VRel_of_TRel ho2 h1).mono (fun _ _ _ h => h) (fun _ _ => rfl) fun u hu => ?_)
          have : u ≠ d := fun e => by rw [e, h0] at hu; cases hu
          simp [this]
  · exact H.bx id cs (by rw [← hid1, box_put])
  · rcases hhb h b h1 with ⟨rfl, h3⟩ | ⟨h3, h4⟩
    · rcases hhb h' b h2 with ⟨rfl, h5⟩ | ⟨h5, h6⟩
      · rfl
      · exact absurd h6 ((hf b h3).1 h')
    · rcases hhb h' b h2 with ⟨rfl, h5⟩ | ⟨h5, h6⟩
      · exact absurd h4 ((hf b h5).1 h)
      · exact H.ex h h' b h4 h6
  · rcases hhb h b h1 with ⟨rfl, h3⟩ | ⟨h3, h4⟩
    · exact (hf b h3).2
    · exact H.hp h b h4
  · rw [get_put] at h1
    by_cases ht : t = d
    · rw [if_pos ht] at h1; simp [AV.refs] at h1
    · rw [if_neg ht] at h1
      split at h1
      · simp [AV.refs] at h1
      · rename_i hk
        have h2 := H.al t u h1
        by_cases hu : u = d
        · subst hu; exact absurd ⟨h2, h1⟩ hk
        · rw [hown u hu h2]; exact h2
  · rw [box_put]
    rw [get_put] at h1
    by_cases ht : t = d
    · rw [if_pos ht] at h1; simp [idsOf, idL] at h1
    · rw [if_neg ht] at h1
      split at h1
      · simp [idsOf, idL] at h1
      · exact H.pr t id h1
  · rw [box_put]; rw [hca] at h1; exact H.prb id off id' h1
  · rw [box_put]; exact H.xt i hi

/-- The relation looks at what temporaries and variables hold. -/
theorem Rel.congr {st' : St} (K : Rel T E g st a w) (hg : ∀ t, st'.get t = st.get t) (hbx : ∀ id, st'.box id = st.box id) : Rel T E g st' a w := by
  have hc : ∀ id off, cellAt st' id off = cellAt st id off := fun id off => by simp [cellAt, hbx]
  have hhb : ∀ h, hb g st' h = hb g st h := fun h => by cases h <;> simp only [hb, hg, hbx, hc]
  exact ⟨fun u => by rw [hg]; exact K.tm u, fun id cs h => K.bx id cs (by rw [← hbx]; exact h), fun h h' b h1 h2 => K.ex h h' b (by rw [← hhb]; exact h1) (by rw [← hhb]; exact h2), fun h b h1 => K.hp h b (by rw [← hhb]; exact h1),
    K.pb, K.p0, K.keep, K.wo, K.sz, fun u v h => by rw [hg] at h ⊢; exact K.al u v h, fun u id h => by rw [hg] at h; rw [hbx]; exact K.pr u id h, fun id off id' h => by rw [hc] at h; rw [hbx]; exact K.prb id off id' h, fun i hi => by rw [hbx]; exact K.xt i hi, K.df, K.ns⟩

/-- Nobody holds the block. -/
structure Free (E : Ent) (g : Gh) (st : St) (w : World) (b : Nat) : Prop where
  no : ∀ h, hb g st h ≠ some b
  np : ¬ g.pub b
  lt : b < w.heap.size
  ok : E.w0.heap.size ≤ b ∨ E.W b

theorem hb_put_undef (g : Gh) (st : St) (t : Nat) (h : Hd) (b : Nat) (h1 : hb g (st.put t .undef) h = some b) : h ≠ .tmp t ∧ hb g st h = some b := by
  cases h <;> simp only [hb, box_put, cellAt] at h1 ⊢
  case tmp u =>
    split at h1
    · rename_i ho
      rw [get_put] at ho
      split at ho
      · simp [isOwn] at ho
      · rename_i hu
        split at ho
        · simp [isOwn] at ho
        · rw [if_pos ho]; exact ⟨by simpa using hu, h1⟩
    · cases h1
  all_goals exact ⟨by simp, h1⟩

/-- A temporary's own row is taken from it. -/
theorem Rel.loosen (H : Rel T E g st a w) {t : Nat} {e : TypeId} {r : List (List Dat)} (ht : st.get t = .own e r) :
    Rel T E g (st.put t .undef) a w ∧ OwnRel T (rdr w g.pub) w e r (a.tmps.getD t undef) ∧ (∀ b, ownB (a.tmps.getD t undef) = some b → Free E g (st.put t .undef) w b) := by
  have h1 := H.tm t
  rw [ht] at h1
  refine ⟨H.forget t, h1.1, fun b hb1 => ?_⟩
  have h2 : hb g st (.tmp t) = some b := by
    simp only [hb, ht, isOwn, if_true, h1.2]
    exact hb1
  obtain ⟨h3, h4, h5⟩ := H.hp _ _ h2
  refine ⟨fun h h6 => ?_, h3, h4, h5⟩
  obtain ⟨h7, h8⟩ := hb_put_undef g st t h b h6
  exact h7 (H.ex _ _ _ h8 h2)

/-- A free block is published. -/
theorem Rel.publish (H : Rel T E g st a w) {b0 : Nat} (hf : Free E g st w b0) : Rel T E { g with pub := fun b => g.pub b ∨ b = b0 } st a w := by
  have hR : ∀ b i v, rdr w g.pub b i v → rdr w (fun b => g.pub b ∨ b = b0) b i v := rdr_mono fun b hb => ⟨.inl hb, rfl⟩
  have hhb : ∀ h, hb { g with pub := fun b => g.pub b ∨ b = b0 } st h = hb g st h := fun h => by cases h <;> rfl
  refine ⟨fun t => ?_, fun id cs hid => ?_, fun h h' b h1 h2 => H.ex h h' b (by rw [← hhb]; exact h1) (by rw [← hhb]; exact h2), fun h b h1 => ?_, fun b h1 => ?_, fun b h1 => .inl (H.p0 b h1), H.keep, H.wo, H.sz, H.al, H.pr, H.prb, H.xt, H.df, H.ns⟩
  · have ht := H.tm t
    by_cases ho : isOwn (st.get t) = true
    · obtain ⟨e, r, he⟩ := isOwn_eq ho
      rw [he] at ht ⊢
      exact ⟨ht.1.mono hR fun _ _ => rfl, ht.2⟩
    · have ho' : isOwn (st.get t) = false := by simpa using ho
      exact TRel_of_VRel ho' ((VRel_of_TRel ho' ht).mono hR (fun _ _ => rfl) fun _ _ => rfl)
  · obtain ⟨cur, ty, fr, h1, h2, h3, h4⟩ := H.bx id cs hid
    refine ⟨cur, ty, fr, h1, h2, h3, fun j hj => ?_⟩
    have hc := h4 j hj
    by_cases ho : isOwn (cs.getD j .undef) = true
    · obtain ⟨e, r, he⟩ := isOwn_eq ho
      rw [he] at hc ⊢
      exact ⟨hc.1.mono hR fun _ _ => rfl, hc.2⟩
    · have ho' : isOwn (cs.getD j .undef) = false := by simpa using ho
      exact CRel_of_LRel ((LRel_of_CRel ho' hc).mono hR fun _ _ => rfl)
  · rw [hhb] at h1
    obtain ⟨h2, h3⟩ := H.hp h b h1
    exact ⟨fun h4 => h4.elim h2 fun h5 => hf.no h (by rw [← h5]; exact h1), h3⟩
  · rcases h1 with h1 | rfl
    · exact H.pb b h1
    · exact ⟨hf.lt, fun h2 => hf.ok.elim (fun h3 => absurd h2 (by omega)) .inr⟩

/-- A row of one's own, read as data. -/
theorem OwnRel.toD {T : Tys} {R R' : Rdr} {w : World} {e : TypeId} {r : List (List Dat)} {v : Value} (h : OwnRel T R w e r v) (he : isTag e = false) (hR : ∀ b i x, R b i x → R' b i x)
    (hB : ∀ b, ownB v = some b → ∀ i x, w.cell? ⟨b, i, none⟩ = some x → R' b i x) : DRep T R' (.lst e r) v := by
  rcases h with ⟨rfl, _, A, rfl⟩ | ⟨_, b, cap, cur, ty, fr, vs, rfl, h2, h3, h4, h5, h6, h7, h8⟩ | ⟨h0, _⟩
  · exact .lst e [] A 0 (fun _ _ => undef) (Nat.le_refl _) (fun h => absurd h (by simp)) (fun h => absurd h (by simp)) (fun i h => absurd h (by simp)) (fun i j h => absurd h (by simp)) (fun i j h => absurd h (by simp))
  · have hl : ∀ i, i < r.length → (r.getD i []).length = (T e).size := fun i hi => by rw [(h8 i hi).1.1, h6]
    refine .lst e r _ cap vs h4 (fun _ => h6) (fun _ => ⟨b, 0, rfl, fun i j hi hj => hB b (by simp [ownB]; omega) _ _ ?_⟩) hl (fun i j hi hj => ?_) (fun i j hi hj => ?_)
    · have := (h8 i hi).2 j hj
      simp only [World.cell?, h2, Nat.zero_add]
      simpa using this
    · exact (((h8 i hi).1.2 j (by rw [hl i hi]; exact hj)).1).mono hR
    · exact ((h8 i hi).1.2 j (by rw [hl i hi]; exact hj)).2
  · rw [he] at h0; cases h0

/-- A temporary's own row is published: it reads as data from now on. -/
theorem Rel.pubT (H : Rel T E g st a w) {t : Nat} {e : TypeId} {r : List (List Dat)} (ht : st.get t = .own e r) (he : isTag e = false) :
    ∃ g', Rel T E g' (st.put t (.d (.lst e r))) a w ∧ (∀ b, g.pub b → g'.pub b) ∧ g'.bl = g.bl ∧ DRep T (rdr w g'.pub) (.lst e r) (a.tmps.getD t undef) := by
  obtain ⟨h1, h2, h3⟩ := H.loosen ht
  have hg : ∀ u, ((st.put t .undef).put t (.d (.lst e r))).get u = (st.put t (.d (.lst e r))).get u := fun u => by
    rw [get_put, get_put, get_put, get_put]
    by_cases hu : u = t
    · simp [hu]
    · simp [hu, isOwn]
  have hbx : ∀ id, ((st.put t .undef).put t (.d (.lst e r))).box id = (st.put t (.d (.lst e r))).box id := fun id => by simp [box_put]
  have conv : ∀ {g'' : Gh}, Rel T E g'' ((st.put t .undef).put t (.d (.lst e r))) a w → Rel T E g'' (st.put t (.d (.lst e r))) a w := fun K => K.congr (fun u => (hg u).symm) (fun id => (hbx id).symm)
  cases ho : ownB (a.tmps.getD t undef) with
  | none =>
    have hd : DRep T (rdr w g.pub) (.lst e r) (a.tmps.getD t undef) := h2.toD he (fun _ _ _ h => h) fun b hb1 => by rw [ho] at hb1; cases hb1
    exact ⟨g, conv (h1.put (.refl a t) hd rfl (fun id h => by simp [idsOf, idL] at h) (fun u h => by simp [AV.refs] at h)), fun _ h => h, rfl, hd⟩
  | some b0 =>
    have hf := h3 b0 ho
    have hd : DRep T (rdr w (fun b => g.pub b ∨ b = b0)) (.lst e r) (a.tmps.getD t undef) := h2.toD he (rdr_mono fun b hb => ⟨.inl hb, rfl⟩) fun b hb1 i x hx => by
      rw [ho] at hb1
      cases hb1
      exact ⟨.inr rfl, hx⟩
    exact ⟨_, conv ((h1.publish hf).put (.refl a t) hd rfl (fun id h => by simp [idsOf, idL] at h) (fun u h => by simp [AV.refs] at h)), fun _ h => .inl h, rfl, hd⟩

end Go.Ab
end

section
/-! The relation, where a variable in memory is made or written. -/
set_option autoImplicit false
set_option linter.unusedVariables false
set_option linter.unusedSimpArgs false
namespace Go.Ab
variable {T : Tys} {E : Ent} {g : Gh} {st : St} {a : Act} {w : World}

theorem cellAt_setBox (st : St) (id0 : Nat) (cs : List AV) (id off : Nat) : cellAt (st.setBox id0 cs) id off = if id = id0 then cs.getD off .undef else cellAt st id off := by
  simp only [cellAt, box_setBox]
  split <;> rfl

theorem mem_of_getD {α : Type} {l : List α} {j : Nat} {d : α} (h : j < l.length) : l.getD j d ∈ l := by
  rw [List.getD_eq_getElem?_getD, List.getElem?_eq_getElem h]; exact List.getElem_mem h

/-- A new variable. -/
theorem Rel.newBox (H : Rel T E g st a w) {id0 : Nat} (h0 : st.box id0 = none) {cs : List AV} {cur : Array Value} {ty : TypeId} {w' : World}
    (hw : w' = { w with heap := w.heap.push (.cells cur ty) }) (hl : cur.size = cs.length)
    (hc : ∀ j, j < cs.length → LRel T (rdr w g.pub) g.bl (cs.getD j .undef) (cur.getD j undef))
    (hid : ∀ c ∈ cs, ∀ id ∈ idL c, (st.box id).isSome = true) :
    Rel T E { g with bl := fun i => if i = id0 then w.heap.size else g.bl i } (st.setBox id0 cs) a w' := by
  have hne : ∀ id, (st.box id).isSome = true → id ≠ id0 := fun id h e => by rw [e, h0] at h; cases h
  have hsz : w'.heap.size = w.heap.size + 1 := by simp [hw]
  have hold : ∀ b, b < w.heap.size → w'.heap[b]? = w.heap[b]? := fun b hb => by simp [hw, Array.getElem?_push, Nat.ne_of_lt hb]
  have H' : Rel T E { g with bl := fun i => if i = id0 then w.heap.size else g.bl i } st a w' := by
    refine H.move (fun _ h => h) (fun id h => by simp [hne id h]) (fun _ _ => rfl) (fun _ _ _ => rfl) (fun b hb => hold b ?_) (by omega) (by rw [hw]; exact ⟨rfl, rfl, rfl⟩) (fun b hb _ => hold b (Nat.lt_of_lt_of_le hb H.sz)) (fun b hb => .inl hb)
    rcases hb with hb | ⟨h, hb⟩
    · exact (H.pb b hb).1
    · exact (H.hp h b hb).2.1
  have hR : ∀ b i v, rdr w g.pub b i v → rdr w' g.pub b i v := rdr_mono fun b hb => ⟨hb, hold b (H.pb b hb).1⟩
  have hbx : ∀ id, id ≠ id0 → (st.setBox id0 cs).box id = st.box id := fun id h => by rw [box_setBox, if_neg h]
  have hown : ∀ j, isOwn (cs.getD j .undef) = false := fun j => by
    by_cases hj : j < cs.length
    · have := hc j hj
      cases hx : cs.getD j .undef <;> first | rfl | (rw [hx] at this; exact this.elim)
    · simp [List.getD_eq_getElem?_getD, List.getElem?_eq_none (Nat.le_of_not_lt hj), isOwn]
  have hhb : ∀ h b, hb { g with bl := fun i => if i = id0 then w.heap.size else g.bl i } (st.setBox id0 cs) h = some b → (h = .box id0 ∧ b = w.heap.size) ∨ hb { g with bl := fun i => if i = id0 then w.heap.size else g.bl i } st h = some b := fun h b h1 => by
    cases h <;> simp only [hb, box_setBox, cellAt_setBox, get_setBox] at h1 ⊢
    case tmp t => exact .inr h1
    case cell id off =>
      by_cases hi : id = id0
      · rw [if_pos hi, hown] at h1; cases h1
      · rw [if_neg hi] at h1; exact .inr h1
    case box id =>
      by_cases hi : id = id0
      · subst hi
        left
        simp at h1
        exact ⟨rfl, h1.symm⟩
      · rw [if_neg hi] at h1; exact .inr h1
  have hlt : ∀ h b, hb { g with bl := fun i => if i = id0 then w.heap.size else g.bl i } st h = some b → b < w.heap.size := fun h b h1 => by
    have : hb g st h = some b := by
      rw [← h1]
      cases h <;> simp only [hb]
      case box id => split <;> first | (rename_i h; rw [if_neg (hne id h)]) | rfl
    exact (H.hp h b this).2.1
  refine ⟨H'.tm, fun id cs1 hid1 => ?_, fun h h' b h1 h2 => ?_, fun h b h1 => ?_, H'.pb, H'.p0, H'.keep, H'.wo, H'.sz, H'.al, fun t id h1 => ?_, fun id off id' h1 => ?_, fun i hi => ?_, H'.df, H'.ns⟩
  · by_cases hi : id = id0
    · subst hi
      rw [box_setBox, if_pos rfl] at hid1
      cases hid1
      refine ⟨cur, ty, (0, 0), by simp [hw], hl, fun i _ => by simp, fun j hj => CRel_of_LRel ((hc j hj).mono hR fun id hid2 => ?_)⟩
      simp [hne id (hid _ (mem_of_getD hj) id hid2)]
    · rw [hbx id hi] at hid1
      exact H'.bx id cs1 hid1
  · rcases hhb h b h1 with ⟨rfl, rfl⟩ | h3
    · rcases hhb h' _ h2 with ⟨rfl, _⟩ | h4
      · rfl
      · exact absurd (hlt h' _ h4) (Nat.lt_irrefl _)
    · rcases hhb h' b h2 with ⟨rfl, rfl⟩ | h4
      · exact absurd (hlt h _ h3) (Nat.lt_irrefl _)
      · exact H'.ex h h' b h3 h4
  · rcases hhb h b h1 with ⟨rfl, rfl⟩ | h3
    · exact ⟨fun h4 => absurd (H.pb _ h4).1 (Nat.lt_irrefl _), by omega, .inl H.sz⟩
    · exact H'.hp h b h3
  · have h2 := H.pr t id h1
    rw [hbx id (hne id h2)]; exact h2
  · rw [cellAt_setBox] at h1
    have h2 : (st.box id').isSome = true := by
      split at h1
      · by_cases hj : off < cs.length
        · exact hid _ (mem_of_getD hj) id' h1
        · simp [List.getD_eq_getElem?_getD, List.getElem?_eq_none (Nat.le_of_not_lt hj), idL] at h1
      · exact H.prb id off id' h1
    rw [hbx id' (hne id' h2)]; exact h2
  · have h2 := H'.xt i hi
    rw [hbx i (hne i h2.1)]; exact h2

/-- A variable is written: what is no row of its own; the rows of its own stay where they were. -/
theorem Rel.writeBox (H : Rel T E g st a w) {id0 : Nat} {cs cs' : List AV} (h0 : st.box id0 = some cs) (hl : cs'.length = cs.length) {cur' : Array Value} {ty : TypeId} {fr : Nat × Nat} {w' : World}
    (hb0 : w'.heap[g.bl id0]? = some (.cells cur' ty fr)) (hl' : cur'.size = cs'.length) (hfr : ∀ i, i < cur'.size → ¬ (fr.1 ≤ i ∧ i < fr.2))
    (ho : ∀ b, b ≠ g.bl id0 → w'.heap[b]? = w.heap[b]?) (hsz : w'.heap.size = w.heap.size) (hwo : w'.os = w.os ∧ w'.tape = w.tape ∧ w'.output = w.output)
    (hc : ∀ j, j < cs'.length → (LRel T (rdr w g.pub) g.bl (cs'.getD j .undef) (cur'.getD j undef) ∧ ∀ id ∈ idL (cs'.getD j .undef), (st.box id).isSome = true) ∨ (cs'.getD j .undef = cs.getD j .undef ∧ CRel T w g id0 j (cs.getD j .undef) (cur'.getD j undef))) :
    Rel T E g (st.setBox id0 cs') a w' := by
  have his : (st.box id0).isSome = true := by rw [h0]; rfl
  have hheld : hb g st (.box id0) = some (g.bl id0) := by simp [hb, his]
  have hnp : ∀ b, g.pub b → b ≠ g.bl id0 := fun b h e => (H.hp _ _ hheld).1 (e ▸ h)
  have hR : ∀ b i v, rdr w g.pub b i v → rdr w' g.pub b i v := rdr_mono fun b hb => ⟨hb, ho b (hnp b hb)⟩
  have hbx : ∀ id, ((st.setBox id0 cs').box id).isSome = (st.box id).isSome := fun id => by
    rw [box_setBox]; split
    · rename_i e; rw [e, h0]; rfl
    · rfl
  have hca0 : ∀ j, cellAt st id0 j = cs.getD j .undef := fun j => by simp [cellAt, h0]
  have hownc : ∀ j, isOwn (cs'.getD j .undef) = true → cs'.getD j .undef = cs.getD j .undef := fun j hj => by
    by_cases hlt : j < cs'.length
    · rcases hc j hlt with ⟨h1, _⟩ | ⟨h1, _⟩
      · obtain ⟨e, r, he⟩ := isOwn_eq hj
        rw [he] at h1
        exact h1.elim
      · exact h1
    · simp [List.getD_eq_getElem?_getD, List.getElem?_eq_none (Nat.le_of_not_lt hlt), isOwn] at hj
  have hhb : ∀ h b, hb g (st.setBox id0 cs') h = some b → hb g st h = some b := fun h b h1 => by
    cases h <;> simp only [hb, hbx, cellAt_setBox, get_setBox] at h1 ⊢
    case tmp t => exact h1
    case cell id off =>
      by_cases hi : id = id0
      · subst hi
        rw [if_pos rfl] at h1
        split at h1
        · rename_i hj
          rw [hca0, ← hownc off hj, if_pos hj]; exact h1
        · cases h1
      · rw [if_neg hi] at h1; exact h1
    case box id => exact h1
  have hownB : ∀ e r v h, OwnRel T (rdr w g.pub) w e r v → (∀ b, ownB v = some b → hb g st h = some b) → h ≠ .box id0 → OwnRel T (rdr w' g.pub) w' e r v := fun e r v h k1 k2 k3 =>
    k1.mono hR fun b hb1 => ho b fun e1 => k3 (H.ex _ _ _ (k2 b hb1) (by rw [e1]; exact hheld))
  have hcr : ∀ id j x v, CRel T w g id j x v → (isOwn x = true → cellAt st id j = x) → (∀ id' ∈ idL x, True) → CRel T w' g id j x v := fun id j x v k1 k2 _ => by
    by_cases hx : isOwn x = true
    · obtain ⟨e, r, he⟩ := isOwn_eq hx
      subst he
      obtain ⟨k3, k4⟩ := k1
      refine ⟨hownB _ _ _ (.cell id j) k3 (fun b hb1 => ?_) (by simp), k4⟩
      simp only [hb, k2 hx, isOwn, if_true, k4]
      exact hb1
    · have hx' : isOwn x = false := by simpa using hx
      exact CRel_of_LRel ((LRel_of_CRel hx' k1).mono hR fun _ _ => rfl)
  refine ⟨fun t => ?_, fun id cs1 hid1 => ?_, fun h h' b h1 h2 => H.ex h h' b (hhb h b h1) (hhb h' b h2), fun h b h1 => ?_, fun b h1 => ?_, H.p0, fun b h1 h2 => ?_, ?_, by rw [hsz]; exact H.sz, H.al, fun t id h1 => by rw [hbx]; exact H.pr t id h1, fun id off id' h1 => ?_, fun i hi => by rw [hbx]; exact H.xt i hi, H.df, H.ns⟩
  · have ht := H.tm t
    show TRel T w' g t (st.get t) _
    by_cases hx : isOwn (st.get t) = true
    · obtain ⟨e, r, he⟩ := isOwn_eq hx
      rw [he] at ht ⊢
      refine ⟨hownB _ _ _ (.tmp t) ht.1 (fun b hb1 => ?_) (by simp), ht.2⟩
      simp only [hb, hx, if_true, ht.2]
      exact hb1
    · have hx' : isOwn (st.get t) = false := by simpa using hx
      exact TRel_of_VRel hx' ((VRel_of_TRel hx' ht).mono hR (fun _ _ => rfl) fun _ _ => rfl)
  · by_cases hi : id = id0
    · subst hi
      rw [box_setBox, if_pos rfl] at hid1
      cases hid1
      refine ⟨cur', ty, fr, hb0, hl', hfr, fun j hj => ?_⟩
      rcases hc j hj with ⟨h1, _⟩ | ⟨h1, h2⟩
      · exact CRel_of_LRel (h1.mono hR fun _ _ => rfl)
      · rw [h1]
        exact hcr id j _ _ h2 (fun _ => hca0 j) fun _ _ => trivial
    · rw [box_setBox, if_neg hi] at hid1
      obtain ⟨cur, ty1, fr1, h1, h2, h3, h4⟩ := H.bx id cs1 hid1
      refine ⟨cur, ty1, fr1, ?_, h2, h3, fun j hj => hcr id j _ _ (h4 j hj) (fun _ => by simp [cellAt, hid1]) fun _ _ => trivial⟩
      rw [ho (g.bl id) fun e => hi (by
        have := H.ex (.box id) (.box id0) (g.bl id) (by simp [hb, hid1]) (by rw [e]; exact hheld)
        simpa using this)]
      exact h1
  · obtain ⟨h2, h3, h4⟩ := H.hp h b (hhb h b h1)
    exact ⟨h2, by omega, h4⟩
  · obtain ⟨h2, h3⟩ := H.pb b h1
    exact ⟨by omega, h3⟩
  · rw [ho b fun e => ?_]
    · exact H.keep b h1 h2
    · subst e
      rcases (H.hp _ _ hheld).2.2 with h3 | h3
      · omega
      · exact h2 h3
  · exact ⟨hwo.1.trans H.wo.1, hwo.2.1.trans H.wo.2.1, hwo.2.2.trans H.wo.2.2⟩
  · rw [hbx]
    rw [cellAt_setBox] at h1
    split at h1
    · by_cases hj : off < cs'.length
      · rcases hc off hj with ⟨_, h2⟩ | ⟨h2, _⟩
        · exact h2 id' h1
        · exact H.prb id0 off id' (by rw [hca0, ← h2]; exact h1)
      · simp [List.getD_eq_getElem?_getD, List.getElem?_eq_none (Nat.le_of_not_lt hj), idL] at h1
    · exact H.prb id off id' h1

end Go.Ab
end

section
/-! Operands: what they are, and what becomes of rows that are shared from now on. -/
set_option autoImplicit false
set_option linter.unusedVariables false
set_option linter.unusedSimpArgs false
namespace Go.Ab
variable {T : Tys} {E : Ent} {g : Gh} {st : St} {a : Act} {w : World}

theorem ofValue_rel {R : Rdr} {bl : Nat → Nat} (v : Value) : MRel T R bl (ofValue v) v := by
  unfold ofValue
  split
  · exact DRep.int _ _
  · exact DRep.bool _
  · rename_i s
    have : (⟨s.data.toList.toArray⟩ : ByteArray) = s := by cases s; simp
    have h := DRep.str (T := T) (R := R) s.data.toList
    rw [this] at h
    exact h
  · exact DRep.nilI
  · exact DRep.nilF
  · exact DRep.nilP
  · exact (rfl : _ = _)
  · trivial

theorem VRel_of_MRel {R : Rdr} {bl : Nat → Nat} {ot : Nat → Value} {x : AV} {v : Value} (h : MRel T R bl x v) (hr : ∀ t, x.refs t = false) (ht : ∀ xs, x ≠ .tup xs) : VRel T R bl ot x v := by
  cases x
  case alias t => exact h.elim
  case eptr t e i o => exact h.elim
  case tup xs => exact absurd rfl (ht xs)
  all_goals exact h

theorem ofValue_leaf (v : Value) : isOwn (ofValue v) = false ∧ (∀ t, (ofValue v).refs t = false) ∧ idsOf (ofValue v) = [] ∧ ∀ xs, ofValue v ≠ .tup xs := by
  unfold ofValue
  split <;> refine ⟨rfl, fun _ => rfl, rfl, fun _ h => (by cases h)⟩

/-- An operand that is no row of its own. -/
theorem operand_rel (H : Rel T E g st a w) (x : Operand) (hn : isOwn (operand st.get x) = false) :
    VRel T (rdr w g.pub) g.bl g.ot (operand st.get x) (a.eval x) ∧ (∀ id, id ∈ idsOf (operand st.get x) → (st.box id).isSome = true) ∧ (∀ u, (operand st.get x).refs u = true → isOwn (st.get u) = true) := by
  cases x
  case tmp t => exact ⟨VRel_of_TRel hn (H.tm t), H.pr t, H.al t⟩
  case const v =>
    obtain ⟨h1, h2, h3, h4⟩ := ofValue_leaf v
    refine ⟨VRel_of_MRel (ofValue_rel v) h2 h4, fun id h => ?_, fun u h => ?_⟩
    · simp only [operand, h3] at h; cases h
    · simp only [operand, h2] at h; cases h
  case global gl => exact ⟨trivial, fun id h => (by cases h), fun u h => (by cases h)⟩
  case func f => exact ⟨DRep.fn f [] #[] rfl fun i h => absurd h (by simp), fun id h => (by cases h), fun u h => (by cases h)⟩

/-- Rows that are published. -/
theorem Rel.pubAll : ∀ (L : List (Nat × AV)) {g : Gh} {st : St}, Rel T E g st a w →
    (∀ p, p ∈ L → ∃ e r, p.2 = .d (.lst e r) ∧ ((st.get p.1 = .own e r ∧ isTag e = false) ∨ st.get p.1 = .d (.lst e r))) →
    ∃ g', Rel T E g' (putAll L st) a w ∧ (∀ b, g.pub b → g'.pub b) ∧ g'.bl = g.bl ∧ (∀ id, (putAll L st).box id = st.box id) ∧
      (∀ p, p ∈ L → ∃ e r, p.2 = .d (.lst e r) ∧ DRep T (rdr w g'.pub) (.lst e r) (a.tmps.getD p.1 undef)) ∧
      (∀ t, (∀ p, p ∈ L → p.1 ≠ t) → isOwn (st.get t) = true → (putAll L st).get t = st.get t ∧ g'.ot t = g.ot t)
  | [], g, st, H, _ => ⟨g, H, fun _ h => h, rfl, fun _ => rfl, fun p h => (by cases h), fun t _ _ => ⟨rfl, rfl⟩⟩
  | (t, v) :: L, g, st, H, hL => by
    obtain ⟨e, r, hv, hst⟩ := hL (t, v) (List.mem_cons_self)
    simp only at hv hst
    subst hv
    obtain ⟨g1, h1, h2, h3, h4, h5⟩ : ∃ g1, Rel T E g1 (st.put t (.d (.lst e r))) a w ∧ (∀ b, g.pub b → g1.pub b) ∧ g1.bl = g.bl ∧ DRep T (rdr w g1.pub) (.lst e r) (a.tmps.getD t undef) ∧ (∀ u, u ≠ t → isOwn (st.get u) = true → g1.ot u = g.ot u) := by
      rcases hst with ⟨hst, hnt⟩ | hst
      · obtain ⟨g1, h1, h2, h3, h4⟩ := H.pubT hst hnt
        refine ⟨g1, h1, h2, h3, h4, fun u hu ho => ?_⟩
        obtain ⟨e1, r1, he1⟩ := isOwn_eq ho
        have k1 := H.tm u
        have k2 := h1.tm u
        have : (st.put t (.d (.lst e r))).get u = .own e1 r1 := by
          rw [get_put, if_neg hu, if_neg, he1]
          rw [he1]
          intro h
          exact absurd h.2 (by simp [AV.refs])
        rw [this] at k2
        rw [he1] at k1
        exact k2.2.trans k1.2.symm
      · have hd : DRep T (rdr w g.pub) (.lst e r) (a.tmps.getD t undef) := by
          have := H.tm t
          rw [hst] at this
          exact this
        exact ⟨g, H.put (.refl a t) hd rfl (fun id h => by cases h) (fun u h => by cases h), fun _ h => h, rfl, hd, fun _ _ _ => rfl⟩
    have hL' : ∀ p, p ∈ L → ∃ e' r', p.2 = .d (.lst e' r') ∧ (((st.put t (.d (.lst e r))).get p.1 = .own e' r' ∧ isTag e' = false) ∨ (st.put t (.d (.lst e r))).get p.1 = .d (.lst e' r')) := fun p hp => by
      obtain ⟨e', r', k1, k2⟩ := hL p (List.mem_cons_of_mem _ hp)
      refine ⟨e', r', k1, ?_⟩
      rw [get_put]
      by_cases hpt : p.1 = t
      · right
        rw [if_pos hpt]
        rw [hpt] at k2
        rcases hst with ⟨hst, _⟩ | hst <;> rcases k2 with ⟨k2, _⟩ | k2 <;> rw [hst] at k2 <;> cases k2 <;> rfl
      · rw [if_neg hpt, if_neg]
        · exact k2
        · intro h
          rcases k2 with ⟨k2, _⟩ | k2 <;> rw [k2] at h <;> exact absurd h.2 (by simp [AV.refs])
    obtain ⟨g2, k1, k2, k3, k4, k5, k6⟩ := Rel.pubAll L h1 hL'
    refine ⟨g2, k1, fun b hb => k2 b (h2 b hb), k3.trans h3, fun id => (k4 id).trans (box_put st t id _), fun p hp => ?_, fun u hu ho => ?_⟩
    · rcases List.mem_cons.1 hp with rfl | hp
      · exact ⟨e, r, rfl, h4.mono (rdr_mono fun b hb => ⟨k2 b hb, rfl⟩)⟩
      · exact k5 p hp
    · have hut : u ≠ t := fun e => hu (t, _) List.mem_cons_self e.symm
      obtain ⟨e1, r1, he1⟩ := isOwn_eq ho
      have hg : (st.put t (.d (.lst e r))).get u = st.get u := by
        rw [get_put, if_neg hut, if_neg]
        rw [he1]
        intro h
        exact absurd h.2 (by simp [AV.refs])
      obtain ⟨q1, q2⟩ := k6 u (fun p hp => hu p (List.mem_cons_of_mem _ hp)) (by rw [hg]; exact ho)
      exact ⟨q1.trans hg, q2.trans (h5 u hut ho)⟩

theorem pubs_ok (st : St) (x : Operand) : ∀ p, p ∈ pubs st.get x → ∃ e r, p.2 = .d (.lst e r) ∧ ((st.get p.1 = .own e r ∧ isTag e = false) ∨ st.get p.1 = .d (.lst e r)) := by
  intro p hp
  unfold pubs at hp
  cases x <;> simp only at hp
  case tmp t =>
    split at hp
    · rename_i e r h
      cases hn : isTag e with
      | true => rw [hn] at hp; cases hp
      | false =>
        rw [hn] at hp
        simp only [cond_false, List.mem_singleton] at hp
        subst hp
        exact ⟨e, r, rfl, .inl ⟨h, hn⟩⟩
    · rename_i u h
      split at hp
      · rename_i e r h'
        cases hn : isTag e with
        | true => rw [hn] at hp; cases hp
        | false =>
          rw [hn] at hp
          simp only [cond_false, List.mem_singleton] at hp
          subst hp
          exact ⟨e, r, rfl, .inl ⟨h', hn⟩⟩
      · cases hp
    · cases hp
  all_goals cases hp

theorem pubss_ok (st : St) (xs : List Operand) : ∀ p, p ∈ pubss st.get xs → ∃ e r, p.2 = .d (.lst e r) ∧ ((st.get p.1 = .own e r ∧ isTag e = false) ∨ st.get p.1 = .d (.lst e r)) := by
  intro p hp
  obtain ⟨x, _, h⟩ := List.mem_flatMap.1 hp
  exact pubs_ok st x p h

/-- Is a view: no row of one's own, no way to one (but into an element). -/
theorem view_leaf (st : St) (x : Operand) : isOwn (view st.get x) = false ∧ ∀ t, view st.get x ≠ .alias t := by
  have hc : ∀ (b : Bool) (e : TypeId) (r : List (List Dat)), isOwn (cond b AV.undef (.d (.lst e r))) = false ∧ ∀ t, cond b AV.undef (.d (.lst e r)) ≠ .alias t := fun b e r => by
    cases b <;> exact ⟨rfl, fun _ h => (by cases h)⟩
  unfold view
  split
  · exact hc _ _ _
  · split
    · exact hc _ _ _
    · exact ⟨rfl, fun _ h => (by cases h)⟩
  · rename_i h1 h2
    refine ⟨?_, fun t h => ?_⟩
    · cases h : operand st.get x <;> first | rfl | exact absurd h (h1 _ _)
    · exact h2 t h

/-- A view's value, all rows of the list having been published. -/
theorem view_rel (H : Rel T E g st a w) {g' : Gh} {L : List (Nat × AV)} (hpub : ∀ b, g.pub b → g'.pub b) (hbl : g'.bl = g.bl)
    (hL : ∀ p, p ∈ L → ∃ e r, p.2 = .d (.lst e r) ∧ DRep T (rdr w g'.pub) (.lst e r) (a.tmps.getD p.1 undef)) (x : Operand) (hx : ∀ p, p ∈ pubs st.get x → p ∈ L)
    (hr : ∀ t, (view st.get x).refs t = false) :
    VRel T (rdr w g'.pub) g'.bl g'.ot (view st.get x) (a.eval x) ∧ (∀ id, id ∈ idsOf (view st.get x) → (st.box id).isSome = true) := by
  have hmono : ∀ v : AV, v = operand st.get x → isOwn v = false → (∀ t, v.refs t = false) → VRel T (rdr w g'.pub) g'.bl g'.ot v (a.eval x) ∧ (∀ id, id ∈ idsOf v → (st.box id).isSome = true) := fun v hv hn hr => by
    obtain ⟨h1, h2, h3⟩ := operand_rel H x (by rw [← hv]; exact hn)
    rw [← hv] at h1 h2
    exact ⟨h1.mono (rdr_mono fun b hb => ⟨hpub b hb, rfl⟩) (fun _ _ => by rw [hbl]) (fun t ht => by rw [hr t] at ht; cases ht), h2⟩
  unfold view at hr ⊢
  split
  · rename_i e r h
    cases x <;> simp only [operand] at h
    case tmp t =>
      cases hn : isTag e with
      | true => exact ⟨trivial, fun id h => (by cases h)⟩
      | false =>
        have hp : (t, AV.d (.lst e r)) ∈ pubs st.get (.tmp t) := by simp [pubs, h, hn]
        obtain ⟨e1, r1, h1, h2⟩ := hL _ (hx _ hp)
        cases h1
        exact ⟨h2, fun id h => (by cases h)⟩
    case const v => have := (ofValue_leaf v).1; rw [h] at this; cases this
    all_goals cases h
  · rename_i t h
    cases x <;> simp only [operand] at h
    case tmp u =>
      split
      · rename_i e r h'
        cases hn : isTag e with
        | true => exact ⟨trivial, fun id h => (by cases h)⟩
        | false =>
        have hp : (t, AV.d (.lst e r)) ∈ pubs st.get (.tmp u) := by simp [pubs, h, h', hn]
        obtain ⟨e1, r1, h1, h2⟩ := hL _ (hx _ hp)
        cases h1
        refine ⟨?_, fun id h => (by cases h)⟩
        have k := H.tm u
        rw [h] at k
        have k' := H.tm t
        rw [h'] at k'
        have : a.eval (.tmp u) = a.tmps.getD t undef := Eq.trans k k'.2
        rw [this]
        exact h2
      · exact ⟨trivial, fun id h => (by cases h)⟩
    case const v => have := (ofValue_leaf v).2.1 t; rw [h] at this; simp [AV.refs, Nat.beq_refl] at this
    all_goals cases h
  · rename_i h1 h2
    have hx' : ∀ t, (operand st.get x).refs t = false := fun t => by
      have := hr t
      split at this
      · rename_i e r h; exact absurd h (h1 e r)
      · rename_i u h; exact absurd h (h2 u)
      · exact this
    exact hmono _ rfl (by cases h : operand st.get x <;> first | rfl | exact absurd h (h1 _ _)) hx'

theorem tag_d {b : Bool} {e : TypeId} {r : List (List Dat)} {y : Dat} (h : cond b AV.undef (.d (.lst e r)) = .d y) : b = false ∧ y = .lst e r := by
  cases b
  · cases h; exact ⟨rfl, rfl⟩
  · cases h

theorem tag_cases (b : Bool) (e : TypeId) (r : List (List Dat)) : (b = true ∧ cond b AV.undef (.d (.lst e r)) = .undef) ∨ (b = false ∧ cond b AV.undef (.d (.lst e r)) = .d (.lst e r)) := by
  cases b
  · exact .inr ⟨rfl, rfl⟩
  · exact .inl ⟨rfl, rfl⟩

end Go.Ab
end

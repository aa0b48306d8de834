/- Part 11 of the proof that this seat's laws lean on: an abstract machine over the model's code, its soundness, and what it says of this program. -/
import Derived.Test.YticeaojhadjaaaaGreatDoorAxJ
import Derived.ChangeArms
import Derived.ChangeOld
import Derived.ChangeReads

section
set_option linter.unusedSimpArgs false
/-! A call's begin and end: arguments that are read as finite trees. -/
set_option autoImplicit false
set_option linter.unusedVariables false
namespace Go.Ab

/-- Data of numbers, truths, texts and lists, none of them long. -/
inductive Small (N : Nat) : Dat → Prop
  | int (k : IntKind) (n : Int) (h : k.min ≤ n ∧ n ≤ k.max) : Small N (.int k n)
  | bool (b : Bool) : Small N (.bool b)
  | str (s : List UInt8) (h : s.length ≤ N) : Small N (.str s)
  | lst (e : TypeId) (rows : List (List Dat)) (h : rows.length ≤ N) (hr : ∀ r ∈ rows, ∀ d ∈ r, Small N d) : Small N (.lst e rows)

def CellsOk (T : Tys) (R : Rdr) (N : Nat) : List TypeId → List Dat → List Value → Prop
  | [], [], [] => True
  | t :: ts, d :: ds, v :: vs => (DRep T R d v ∧ WT (T t).kind d ∧ Small N d) ∧ CellsOk T R N ts ds vs
  | _, _, _ => False

section
variable {T : Tys} {R : Rdr} {N : Nat}

theorem CellsOk.append : ∀ {ts ts' : List TypeId} {ds ds' : List Dat} {vs vs' : List Value}, CellsOk T R N ts ds vs → CellsOk T R N ts' ds' vs' → CellsOk T R N (ts ++ ts') (ds ++ ds') (vs ++ vs')
  | [], _, [], _, [], _, _, h => h
  | t :: ts, _, d :: ds, _, v :: vs, _, h, h' => ⟨h.1, CellsOk.append h.2 h'⟩
  | [], _, _ :: _, _, _, _, h, _ => h.elim
  | [], _, [], _, _ :: _, _, h, _ => h.elim
  | _ :: _, _, [], _, _, _, h, _ => h.elim
  | _ :: _, _, _ :: _, _, [], _, h, _ => h.elim

theorem CellsOk.len : ∀ {ts : List TypeId} {ds : List Dat} {vs : List Value}, CellsOk T R N ts ds vs → ds.length = ts.length ∧ vs.length = ts.length
  | [], [], [], _ => ⟨rfl, rfl⟩
  | t :: ts, d :: ds, v :: vs, h => by
    have := CellsOk.len h.2
    simp [this.1, this.2]
  | [], _ :: _, _, h => h.elim
  | [], [], _ :: _, h => h.elim
  | _ :: _, [], _, h => h.elim
  | _ :: _, _ :: _, [], h => h.elim

theorem CellsOk.at : ∀ {ts : List TypeId} {ds : List Dat} {vs : List Value} (j : Nat), CellsOk T R N ts ds vs → j < ts.length →
    DRep T R (ds.getD j .nilP) (vs.getD j undef) ∧ WT (T (ts.getD j 0)).kind (ds.getD j .nilP) ∧ Small N (ds.getD j .nilP)
  | t :: ts, d :: ds, v :: vs, 0, h, _ => h.1
  | t :: ts, d :: ds, v :: vs, j + 1, h, hj => by
    have := CellsOk.at j h.2 (by simpa using hj)
    simpa using this
  | [], _, _, _, _, hj => by simp at hj
  | _ :: _, [], _, _, h, _ => h.elim
  | _ :: _, _ :: _, [], _, h, _ => h.elim

theorem CellsOk.small : ∀ {ts : List TypeId} {ds : List Dat} {vs : List Value}, CellsOk T R N ts ds vs → ∀ d ∈ ds, Small N d
  | [], [], [], _, d, hd => by cases hd
  | t :: ts, d :: ds, v :: vs, h, x, hx => by
    rcases List.mem_cons.1 hx with rfl | hx
    · exact h.1.2.2
    · exact CellsOk.small h.2 x hx
  | [], _ :: _, _, h, _, _ => h.elim
  | [], [], _ :: _, h, _, _ => h.elim
  | _ :: _, [], _, h, _, _ => h.elim
  | _ :: _, _ :: _, [], h, _, _ => h.elim
end

def FieldsAt (P : Program) (L : TypeId → Prop) : Nat → List Field → Prop
  | _, [] => True
  | off, f :: fs => f.offset = off ∧ L f.type ∧ FieldsAt P L (off + P.cellsOf f.type) fs

/-- Types of plain data. -/
structure VT (P : Program) (T : Tys) (L : TypeId → Prop) : Prop where
  sz : ∀ t, L t → P.cellsOf t = (T t).cells.length
  kinds : ∀ t, L t →
    (∃ k, P.underlying t = some (.int k) ∧ (T t).kind = .int k ∧ (T t).cells = [t]) ∨
    (P.underlying t = some .bool ∧ (T t).kind = .bool ∧ (T t).cells = [t]) ∨
    (P.underlying t = some .string ∧ (T t).kind = .string ∧ (T t).cells = [t]) ∨
    (∃ e, P.underlying t = some (.slice e) ∧ (T t).kind = .slice e ∧ (T t).cells = [t] ∧ L e ∧ (T e).size = (T e).cells.length ∧ 0 < (T e).size) ∨
    (∃ fs, P.underlying t = some (.struct fs) ∧ (T t).kind = .struct ∧ (T t).cells = fs.toList.flatMap (fun f => (T f.type).cells) ∧ FieldsAt P L 0 fs.toList)

/-- A weight of what is read. -/
structure Wt {H : Type} (wt : DataW H → Nat) : Prop where
  str : ∀ s, s.length ≤ wt (.lit (.string s))
  slice : ∀ elems spare, elems.length ≤ wt (.slice elems spare) ∧ ∀ x ∈ elems, wt x ≤ wt (.slice elems spare)
  agg : ∀ parts, ∀ x ∈ parts, wt x ≤ wt (.agg parts)

section
variable {H : Type} {enc : TypeId × Value → H} {P : Program} {T : Tys} {L : TypeId → Prop} {w : World} {pub : Nat → Prop} {wt : DataW H → Nat} {N : Nat}

theorem fields_ok {R : Rdr} (hV : VT P T L) : ∀ (fs : List Field) (off : Nat) (cs : List Value), FieldsAt P L off fs → cs.length = off + (fs.map fun f => P.cellsOf f.type).sum →
    (∀ (i : Nat) (f : Field), fs[i]? = some f → ∃ ds, CellsOk T R N (T f.type).cells ds ((cs.drop f.offset).take (P.cellsOf f.type))) → ∃ ds, CellsOk T R N (fs.flatMap fun f => (T f.type).cells) ds (cs.drop off)
  | [], off, cs, _, hl, _ => by
    have : cs.drop off = [] := List.drop_eq_nil_of_le (by simp at hl; omega)
    rw [this]
    exact ⟨[], trivial⟩
  | f :: fs, off, cs, ⟨h1, h2, h3⟩, hl, hx => by
    obtain ⟨d1, q1⟩ := hx 0 f rfl
    obtain ⟨d2, q2⟩ := fields_ok hV fs (off + P.cellsOf f.type) cs h3 (by simp at hl; omega) (fun i f' hf => hx (i + 1) f' (by simpa using hf))
    refine ⟨d1 ++ d2, ?_⟩
    have := q1.append q2
    rw [h1, ← List.drop_drop, List.take_append_drop] at this
    rw [List.flatMap_cons]
    exact this

theorem struct_sum {fs : List Field} (hV : VT P T L) {off : Nat} (h : FieldsAt P L off fs) : (fs.flatMap fun f => (T f.type).cells).length = (fs.map fun f => P.cellsOf f.type).sum := by
  induction fs generalizing off with
  | nil => rfl
  | cons f fs ih =>
    obtain ⟨h1, h2, h3⟩ := h
    rw [List.flatMap_cons, List.length_append, ih h3, List.map_cons, List.sum_cons, hV.sz _ h2]

theorem cells_get {base : Nat} {a : Addr} {n : Nat} {cs : List Value} (h : w.cells? base a n = some cs) : cs.length = n ∧ ∀ j, j < n → w.cell? (a.add j) = cs[j]? := by
  unfold World.cells? at h
  split at h
  · exact ⟨by simpa using mapM_some_length h, fun j hj => mapM_some_get h j j (by simp [hj])⟩
  · cases h

theorem cell_spot {a : Addr} {v : Value} (h : w.cell? a = some v) : a.spot = none ∧ a.block < w.heap.size := by
  unfold World.cell? at h
  split at h
  · rename_i c ty fr hb
    refine ⟨?_, ?_⟩
    · cases hs : a.spot with
      | none => rfl
      | some x => rw [hs] at h; simp at h
    · exact (Array.getElem?_eq_some_iff.1 hb).1
  · cases h

theorem choose_list {β : Type} {p : Nat → β → Prop} : ∀ (n : Nat), (∀ i, i < n → ∃ b, p i b) → ∃ l : List β, l.length = n ∧ ∀ i (h : i < l.length), p i l[i]
  | 0, _ => ⟨[], rfl, fun i h => by simp at h⟩
  | n + 1, h => by
    obtain ⟨l, h1, h2⟩ := choose_list n fun i hi => h i (by omega)
    obtain ⟨b, hb⟩ := h n (by omega)
    refine ⟨l ++ [b], by simp [h1], fun i hi => ?_⟩
    by_cases hin : i < l.length
    · rw [List.getElem_append_left hin]; exact h2 i hin
    · have : i = l.length := by simp at hi; omega
      subst this
      simp only [List.getElem_concat_length]
      rw [h1]; exact hb

theorem add_block (a : Addr) (n : Nat) : (a.add n).block = a.block := by
  unfold Addr.add
  split <;> rfl
theorem add_plain (b o n : Nat) : Addr.add ⟨b, o, none⟩ n = ⟨b, o + n, none⟩ := by
  unfold Addr.add
  split
  · rename_i h; simp [h]
  · rfl
theorem add_spot {a : Addr} {n : Nat} (h : (a.add n).spot = none) (hn : n = 0) : a.spot = none := by
  subst hn
  simpa [Addr.add] using h

/-- What is read as a tree is data. -/
theorem dat_of_trod (hV : VT P T L) (hwt : Wt wt) (hpub : ∀ b, b < w.heap.size → pub b) : ∀ (n : Nat) (t : TypeId) (cs : List Value) (x : DataW H × List MemPlace), L t →
    DataW.trod enc P w 0 (fun _ => true) true n t cs = some x → wt x.1 ≤ N → ∃ ds, CellsOk T (rdr w pub) N (T t).cells ds cs
  | 0, t, cs, x, _, h, _ => by simp [DataW.trod] at h
  | n + 1, t, cs, x, hL, h, hw => by
    rcases hV.kinds t hL with ⟨k, h1, h2, h3⟩ | ⟨h1, h2, h3⟩ | ⟨h1, h2, h3⟩ | ⟨e, h1, h2, h3, h4, h5, h6⟩ | ⟨fs, h1, h2, h3, h4⟩
    · obtain ⟨i, rfl, rfl, hwf⟩ := DataW.trod_int h1 h
      rw [h3]
      exact ⟨[.int k i], ⟨.int k i, by rw [h2]; rfl, .int k i (by simpa [Lit.wf] using hwf)⟩, trivial⟩
    · obtain ⟨b, rfl, rfl⟩ := DataW.trod_bool h1 h
      rw [h3]
      exact ⟨[.bool b], ⟨.bool b, by rw [h2]; trivial, .bool b⟩, trivial⟩
    · obtain ⟨s, rfl, rfl, _⟩ := DataW.trod_string h1 h
      rw [h3]
      have hd : DRep T (rdr w pub) (.str s.data.toList) (.string s) := DRep.str s.data.toList
      exact ⟨[.str s.data.toList], ⟨hd, by rw [h2]; trivial, .str _ (Nat.le_trans (hwt.str _) hw)⟩, trivial⟩
    · rw [h3]
      rcases DataW.trod_slice h1 h with ⟨rfl, rfl⟩ | ⟨a, len, cap, elems, rest, m, hm, rfl, rfl, _, hlc, _, hel, hread, _, _⟩
      · refine ⟨[.lst e []], ⟨?_, by rw [h2]; rfl, .lst e [] (by simp) (fun r hr => by cases hr)⟩, trivial⟩
        exact DRep.lst e [] none 0 (fun _ _ => undef) (by simp) (fun h => by simp at h) (fun h => by simp at h) (fun i h => by simp at h) (fun i j h => by simp at h) (fun i j h => by simp at h)
      · obtain rfl : n = m := by omega
        have hslice := hwt.slice (elems.map (·.1)) (rest.map (·.1))
        have hone : ∀ i, i < len → ∃ r : List Dat × List Value, w.cells? 0 (a.add (i * P.cellsOf e)) (P.cellsOf e) = some r.2 ∧ CellsOk T (rdr w pub) N (T e).cells r.1 r.2 := fun i hi => by
          have hr := hread i hi
          rw [List.getElem?_eq_getElem (by omega), Option.bind_eq_some_iff] at hr
          obtain ⟨ecs, q1, q2⟩ := hr
          obtain ⟨ds, q3⟩ := dat_of_trod hV hwt hpub n e ecs _ h4 q2 (Nat.le_trans (hslice.2 _ (List.mem_map.2 ⟨_, List.getElem_mem _, rfl⟩)) hw)
          exact ⟨(ds, ecs), q1, q3⟩
        obtain ⟨l, hl1, hl2⟩ := choose_list len hone
        have hsz : P.cellsOf e = (T e).size := by rw [hV.sz e h4, h5]
        have hrl : (l.map (·.1)).length = len := by simp [hl1]
        have hget : ∀ i (hi : i < l.length), (l.map (·.1)).getD i [] = l[i].1 := fun i hi => by
          rw [List.getD_eq_getElem?_getD, List.getElem?_map, List.getElem?_eq_getElem hi]; rfl
        have hdat : DRep T (rdr w pub) (.lst e (l.map (·.1))) (.slice (some a) (l.map (·.1)).length cap) := by
          refine DRep.lst e (l.map (·.1)) (some a) cap (fun i j => ((l.getD i ([], [])).2).getD j undef) (by omega) (fun _ => h5) (fun h0 => ?_) (fun i hi => ?_) (fun i j hi hj => ?_) (fun i j hi hj => ?_)
          · have h0l : 0 < l.length := by omega
            obtain ⟨q1, q2⟩ := hl2 0 h0l
            obtain ⟨q3, q4⟩ := cells_get q1
            have hc := q4 0 (by omega)
            rw [List.getElem?_eq_getElem (by omega)] at hc
            have hspot : a.spot = none := add_spot (n := 0 * P.cellsOf e) (add_spot (n := 0) (cell_spot hc).1 rfl) (by omega)
            obtain ⟨ab, ao, asp⟩ := a
            obtain rfl : asp = none := hspot
            refine ⟨ab, ao, rfl, fun i j hi hj => ?_⟩
            have hil : i < l.length := by omega
            obtain ⟨p1, p2⟩ := hl2 i hil
            obtain ⟨p3, p4⟩ := cells_get p1
            have hc := p4 j (by omega)
            rw [List.getElem?_eq_getElem (by omega)] at hc
            have hlt := (cell_spot hc).2
            rw [add_block, add_block] at hlt
            refine ⟨hpub _ hlt, ?_⟩
            have e1 : ((l.getD i ([], [])).2).getD j undef = l[i].2[j]'(by omega) := by
              rw [List.getD_eq_getElem?_getD, List.getD_eq_getElem?_getD, List.getElem?_eq_getElem hil]
              simp only [Option.getD_some]
              rw [List.getElem?_eq_getElem (by omega)]
              rfl
            rw [e1, ← hc, add_plain, add_plain, hsz, Nat.add_assoc]
          · have hil : i < l.length := by omega
            rw [hget i hil, (hl2 i hil).2.len.1, ← h5]
          · have hil : i < l.length := by omega
            rw [hget i hil]
            have := ((hl2 i hil).2.at j (by omega)).1
            have e1 : (l.getD i ([], [])).2 = l[i].2 := by rw [List.getD_eq_getElem?_getD, List.getElem?_eq_getElem hil]; rfl
            show DRep T (rdr w pub) _ (((l.getD i ([], [])).2).getD j undef)
            rw [e1]
            exact this
          · have hil : i < l.length := by omega
            rw [hget i hil]
            exact ((hl2 i hil).2.at j (by omega)).2.1
        rw [hrl] at hdat
        refine ⟨[.lst e (l.map (·.1))], ⟨hdat, by rw [h2]; rfl, .lst e _ ?_ ?_⟩, trivial⟩
        · rw [hrl, ← hel]
          have := hslice.1
          rw [List.length_map] at this
          exact Nat.le_trans this hw
        · intro r hr d hd
          obtain ⟨p, hp, rfl⟩ := List.mem_map.1 hr
          obtain ⟨i, hi, rfl⟩ := List.getElem_of_mem hp
          exact (hl2 i hi).2.small d hd
    · obtain ⟨xs, m, hm, rfl, hlen, hxl, hread⟩ := DataW.trod_struct h1 h
      obtain rfl : n = m := by omega
      rw [h3]
      have := fields_ok (R := rdr w pub) (N := N) hV fs.toList 0 cs h4 (by rw [hlen, hV.sz t hL, h3, struct_sum hV h4]; omega) (fun i f hf => by
        have hf' : fs[i]? = some f := by simpa using hf
        have hLf : L f.type := by
          have : ∀ (fs : List Field) (off : Nat), FieldsAt P L off fs → ∀ f ∈ fs, L f.type := by
            intro fs
            induction fs with
            | nil => intro _ _ f hf; cases hf
            | cons g fs ih =>
              intro off hat f hf
              rcases List.mem_cons.1 hf with rfl | hf
              · exact hat.2.1
              · exact ih _ hat.2.2 f hf
          exact this _ _ h4 f (List.mem_of_getElem? hf)
        have hi : i < xs.length := by
          have := (Array.getElem?_eq_some_iff.1 hf').1
          omega
        have hr := hread i f hf'
        rw [List.getElem?_eq_getElem hi] at hr
        exact dat_of_trod hV hwt hpub n f.type _ _ hLf hr (Nat.le_trans (hwt.agg _ _ (List.mem_map.2 ⟨_, List.getElem_mem _, rfl⟩)) hw))
      simpa using this

/-- An argument of a type. -/
def ArgOk (T : Tys) (R : Rdr) (N : Nat) (t : TypeId) (x : AV) (v : Value) : Prop :=
  ((T t).kind.isAgg = true ∧ ∃ ds vs, x = .agg (ds.map .d) ∧ v = .agg vs ∧ CellsOk T R N (T t).cells ds vs.toList) ∨
  ((T t).kind.isAgg = false ∧ ∃ d, x = .d d ∧ CellsOk T R N (T t).cells [d] [v])

def ArgsOk (T : Tys) (R : Rdr) (N : Nat) : List TypeId → List AV → List Value → Prop
  | [], [], [] => True
  | t :: ts, x :: xs, v :: vs => ArgOk T R N t x v ∧ ArgsOk T R N ts xs vs
  | _, _, _ => False

theorem okWide_one {r : Reach} {base : Nat} {t : TypeId} {v : Value} (h : Cell.okWide P w r base t v) : one1 v = true := by
  cases v <;> first | rfl | (exfalso; unfold Cell.okWide at h; split at h <;> simp_all [Cell.ok])

theorem arg_of_trod (hV : VT P T L) (hwt : Wt wt) (hpub : ∀ b, b < w.heap.size → pub b) {r : Reach} {base : Nat} {t : TypeId} {v : Value} {d : DataW H} {ps : List MemPlace} (hL : L t)
    (hok : Value.okWide P w r base t v) (h : DataW.Trod enc P w 0 (fun _ => true) true t v d ps) (hw : wt d ≤ N) : ∃ x, ArgOk T (rdr w pub) N t x v := by
  obtain ⟨n, hn⟩ := h
  obtain ⟨ds, hd⟩ := dat_of_trod hV hwt hpub n t _ _ hL hn hw
  have hcell : (T t).kind.isAgg = false → (T t).cells = [t] → Cell.okWide P w r base t v → ∃ x, ArgOk T (rdr w pub) N t x v := fun h2 h3 hc => by
    have h1 := okWide_one hc
    have hcs : v.cells.toList = [v] := by rw [Value.cells_one h1]
    rw [hcs] at hd
    have hl := hd.len.1
    rw [h3] at hl
    obtain ⟨d0, rfl⟩ : ∃ d0, ds = [d0] := by
      match ds, hl with
      | [d0], _ => exact ⟨d0, rfl⟩
    exact ⟨.d d0, .inr ⟨h2, d0, rfl, hd⟩⟩
  rcases hV.kinds t hL with ⟨k, h1, h2, h3⟩ | ⟨h1, h2, h3⟩ | ⟨h1, h2, h3⟩ | ⟨e, h1, h2, h3, h4, h5, h6⟩ | ⟨fs, h1, h2, h3, h4⟩
  · exact hcell (by rw [h2]; rfl) h3 (by unfold Value.okWide at hok; rw [h1] at hok; exact hok)
  · exact hcell (by rw [h2]; rfl) h3 (by unfold Value.okWide at hok; rw [h1] at hok; exact hok)
  · exact hcell (by rw [h2]; rfl) h3 (by unfold Value.okWide at hok; rw [h1] at hok; exact hok)
  · exact hcell (by rw [h2]; rfl) h3 (by unfold Value.okWide at hok; rw [h1] at hok; exact hok)
  · unfold Value.okWide at hok
    rw [h1] at hok
    obtain ⟨vs, rfl, _, _⟩ := hok
    exact ⟨.agg (ds.map .d), .inl ⟨by rw [h2]; rfl, ds, vs, rfl, rfl, hd⟩⟩

theorem args_of_trod (hV : VT P T L) (hwt : Wt wt) (hpub : ∀ b, b < w.heap.size → pub b) {r : Reach} {base : Nat} : ∀ {ts : List TypeId} {vs : List Value} {ds : List (DataW H)} {ps : List MemPlace}, (∀ t ∈ ts, L t) →
    (∀ (j : Nat) t v, ts[j]? = some t → vs[j]? = some v → Value.okWide P w r base t v) → DataW.TrodAll enc P w 0 (fun _ => true) true ts vs ds ps → (∀ d ∈ ds, wt d ≤ N) → ∃ xs, ArgsOk T (rdr w pub) N ts xs vs
  | [], [], [], _, _, _, _, _ => ⟨[], trivial⟩
  | t :: ts, v :: vs, d :: ds, _, hL, hok, ⟨p, q, h1, h2, _⟩, hw => by
    obtain ⟨x, hx⟩ := arg_of_trod hV hwt hpub (hL t List.mem_cons_self) (hok 0 t v rfl rfl) h1 (hw d List.mem_cons_self)
    obtain ⟨xs, hxs⟩ := args_of_trod hV hwt hpub (fun t' ht => hL t' (List.mem_cons_of_mem _ ht)) (fun j t' v' h h' => hok (j + 1) t' v' (by simpa using h) (by simpa using h')) h2 (fun d' hd => hw d' (List.mem_cons_of_mem _ hd))
    exact ⟨x :: xs, hx, hxs⟩
  | [], _ :: _, _, _, _, _, h, _ => h.elim
  | [], [], _ :: _, _, _, _, h, _ => h.elim
  | _ :: _, [], _, _, _, _, h, _ => h.elim
  | _ :: _, _ :: _, [], _, _, _, h, _ => h.elim
end

/-! ### The types, looked through -/
noncomputable def memB (t : Nat) : List Nat → Bool
  | [] => false
  | u :: l => Nat.beq t u || memB t l
theorem memB_mem {t : Nat} : ∀ {l : List Nat}, memB t l = true → t ∈ l
  | u :: l, h => by
    unfold memB at h
    rw [Bool.or_eq_true] at h
    rcases h with h | h
    · rw [Nat.eq_of_beq_eq_true h]; exact List.mem_cons_self
    · exact List.mem_cons_of_mem _ (memB_mem h)
  | [], h => by cases h

noncomputable def fieldsB (P : Program) (L : List TypeId) : Nat → List Field → Bool
  | _, [] => true
  | off, f :: fs => Nat.beq f.offset off && (memB f.type L && fieldsB P L (off + P.cellsOf f.type) fs)
theorem fieldsB_at {P : Program} {L : List TypeId} : ∀ {fs : List Field} {off : Nat}, fieldsB P L off fs = true → FieldsAt P (· ∈ L) off fs
  | [], _, _ => trivial
  | f :: fs, off, h => by
    unfold fieldsB at h
    simp only [Bool.and_eq_true] at h
    exact ⟨Nat.eq_of_beq_eq_true h.1, memB_mem h.2.1, fieldsB_at h.2.2⟩

noncomputable def vtB (P : Program) (T : Tys) (L : List TypeId) (t : TypeId) : Bool :=
  Nat.beq (P.cellsOf t) (T t).cells.length &&
  match P.underlying t, (T t).kind with
  | some (.int k), .int k' => decide (k = k') && decide ((T t).cells = [t])
  | some .bool, .bool => decide ((T t).cells = [t])
  | some .string, .string => decide ((T t).cells = [t])
  | some (.slice e), .slice e' => Nat.beq e e' && (decide ((T t).cells = [t]) && (memB e L && (Nat.beq (T e).size (T e).cells.length && Nat.blt 0 (T e).size)))
  | some (.struct fs), .struct => decide ((T t).cells = fs.toList.flatMap fun f => (T f.type).cells) && fieldsB P L 0 fs.toList
  | _, _ => false

theorem vt_of {P : Program} {T : Tys} {L : List TypeId} (h : (L.all (vtB P T L)) = true) : VT P T (· ∈ L) := by
  rw [List.all_eq_true] at h
  refine ⟨fun t ht => ?_, fun t ht => ?_⟩
  · have := h t ht
    unfold vtB at this
    rw [Bool.and_eq_true] at this
    exact Nat.eq_of_beq_eq_true this.1
  · have := h t ht
    unfold vtB at this
    rw [Bool.and_eq_true] at this
    have h2 := this.2
    split at h2
    · rename_i k k' e1 e2
      simp only [Bool.and_eq_true, decide_eq_true_eq] at h2
      exact .inl ⟨k, e1, by rw [e2, h2.1], h2.2⟩
    · rename_i e1 e2
      simp only [decide_eq_true_eq] at h2
      exact .inr (.inl ⟨e1, e2, h2⟩)
    · rename_i e1 e2
      simp only [decide_eq_true_eq] at h2
      exact .inr (.inr (.inl ⟨e1, e2, h2⟩))
    · rename_i e e' e1 e2
      simp only [Bool.and_eq_true, decide_eq_true_eq] at h2
      obtain ⟨a1, a2, a3, a4, a5⟩ := h2
      refine .inr (.inr (.inr (.inl ⟨e, e1, by rw [e2, Nat.eq_of_beq_eq_true a1], a2, memB_mem a3, Nat.eq_of_beq_eq_true a4, by simpa [Nat.blt_eq] using a5⟩)))
    · rename_i fs e1 e2
      simp only [Bool.and_eq_true, decide_eq_true_eq] at h2
      exact .inr (.inr (.inr (.inr ⟨fs, e1, e2, h2.1, fieldsB_at h2.2⟩)))
    · cases h2
end Go.Ab
end

section
set_option linter.unusedSimpArgs false
/-! A call's begin and end, put together. -/
set_option autoImplicit false
set_option linter.unusedVariables false
namespace Go.Ab
section
variable {P : Program} {T : Tys} {w : World}

/-- An argument that is data leads nowhere and owns nothing. -/
theorem arg_free {R : Rdr} {N : Nat} {t : TypeId} {x : AV} {v : Value} (h : ArgOk T R N t x v) : idsOf x = [] ∧ isOwn x = false ∧ (∀ u, x.refs u = false) := by
  rcases h with ⟨_, ds, vs, rfl, _, _⟩ | ⟨_, d, rfl, _⟩
  · refine ⟨?_, rfl, fun u => rfl⟩
    show (ds.map AV.d).flatMap idL = []
    rw [List.flatMap_eq_nil_iff]
    intro y hy
    obtain ⟨d, _, rfl⟩ := List.mem_map.1 hy
    rfl
  · exact ⟨rfl, rfl, fun u => rfl⟩

theorem arg_rel {N : Nat} {g : Gh} {u : Nat} {t : TypeId} {x : AV} {v : Value} (h : ArgOk T (rdr w g.pub) N t x v) : TRel T w g u x v := by
  rcases h with ⟨_, ds, vs, rfl, rfl, hc⟩ | ⟨_, d, rfl, hc⟩
  · have hl := hc.len
    refine ⟨vs, rfl, by simp [hl.1, ← hl.2], fun j hj => ?_⟩
    rw [List.length_map] at hj
    have ha := (hc.at j (by omega)).1
    have e1 : (ds.map AV.d).getD j .undef = .d (ds.getD j .nilP) := by
      rw [List.getD_eq_getElem?_getD, List.getElem?_map, List.getElem?_eq_getElem hj, List.getD_eq_getElem?_getD, List.getElem?_eq_getElem hj]; rfl
    have e2 : vs.toList.getD j undef = vs.getD j undef := by
      simp [List.getD_eq_getElem?_getD, Array.getD_eq_getD_getElem?]
    rw [e1]
    rw [e2] at ha
    exact ha
  · cases hT : (T t).cells with
    | nil => rw [hT] at hc; exact hc.elim
    | cons a l => rw [hT] at hc; exact hc.1.1

theorem args_len {R : Rdr} {N : Nat} : ∀ {ts : List TypeId} {xs : List AV} {vs : List Value}, ArgsOk T R N ts xs vs → xs.length = vs.length
  | [], [], [], _ => rfl
  | _ :: _, _ :: _, _ :: _, h => by simp [args_len h.2]
  | [], _ :: _, _, h => h.elim
  | [], [], _ :: _, h => h.elim
  | _ :: _, [], _, h => h.elim
  | _ :: _, _ :: _, [], h => h.elim
theorem args_at {R : Rdr} {N : Nat} : ∀ {ts : List TypeId} {xs : List AV} {vs : List Value} (j : Nat), ArgsOk T R N ts xs vs → j < xs.length → ∃ t, ArgOk T R N t (xs.getD j .undef) (vs.getD j undef)
  | t :: _, _ :: _, _ :: _, 0, h, _ => ⟨t, h.1⟩
  | _ :: ts, x :: xs, v :: vs, j + 1, h, hj => by
    obtain ⟨t, ht⟩ := args_at j h.2 (by simpa using hj)
    exact ⟨t, by simpa using ht⟩
  | [], [], [], _, _, hj => by simp at hj
  | [], _ :: _, _, _, h, _ => h.elim
  | [], [], _ :: _, _, h, _ => h.elim
  | _ :: _, [], _, _, h, _ => h.elim
  | _ :: _, _ :: _, [], _, h, _ => h.elim

/-- The call's begin. -/
noncomputable def ent0 (w : World) (n : Nat) : Ent := { w0 := w, pub0 := fun b => b < w.heap.size, W := fun _ => False, nx := 0, xb := fun _ => 0, n := n }
noncomputable def gh0 (w : World) : Gh := { pub := fun b => b < w.heap.size, bl := fun _ => 0, ot := fun _ => undef, oc := fun _ _ => undef }

theorem rel_start {N : Nat} {ts : List TypeId} {args : List AV} {vals : Array Value} {n : Nat} (h : ArgsOk T (rdr w fun b => b < w.heap.size) N ts args vals.toList) (hn : vals.size ≤ n) :
    Rel T (ent0 w n) (gh0 w) ⟨numbered 0 args, boxesFrom 0 []⟩ (subA vals n) w := by
  have hlen : args.length = vals.size := by simpa using args_len h
  have hget : ∀ t, St.get ⟨numbered 0 args, boxesFrom 0 []⟩ t = if t < args.length then args.getD t .undef else .undef := fun t => by
    show getA t (numbered 0 args) = _
    rw [getA_numbered]
    simp
  have hbox : ∀ id, St.box ⟨numbered 0 args, boxesFrom 0 []⟩ id = none := fun id => rfl
  have hcell : ∀ id off, cellAt ⟨numbered 0 args, boxesFrom 0 []⟩ id off = .undef := fun id off => by
    unfold cellAt
    rw [hbox]
    simp
  have hfree : ∀ t, idsOf (St.get ⟨numbered 0 args, boxesFrom 0 []⟩ t) = [] ∧ isOwn (St.get ⟨numbered 0 args, boxesFrom 0 []⟩ t) = false ∧ ∀ u, (St.get ⟨numbered 0 args, boxesFrom 0 []⟩ t).refs u = false := fun t => by
    rw [hget]
    by_cases ht : t < args.length
    · rw [if_pos ht]
      obtain ⟨_, ha⟩ := args_at t h ht
      exact arg_free ha
    · rw [if_neg ht]
      exact ⟨rfl, rfl, fun _ => rfl⟩
  have hhb : ∀ hd, hb (gh0 w) ⟨numbered 0 args, boxesFrom 0 []⟩ hd = none := fun hd => by
    cases hd with
    | box id => simp [hb, hbox]
    | tmp t => simp [hb, (hfree t).2.1]
    | cell id off => simp [hb, hcell, isOwn]
  refine { tm := fun t => ?_, bx := fun id cs hc => ?_, ex := fun a b c hc => ?_, hp := fun a b hc => ?_, pb := fun b hb => ⟨hb, fun _ => .inl hb⟩, p0 := fun b hb => hb, keep := fun _ _ _ => rfl, wo := ⟨rfl, rfl, rfl⟩, sz := Nat.le_refl _, al := fun t u hr => ?_, pr := fun t id hid => ?_, prb := fun id off id' hid => ?_, xt := fun i hi => ?_, df := rfl, ns := ?_ }
  · rw [hget]
    by_cases ht : t < args.length
    · rw [if_pos ht]
      obtain ⟨_, ha⟩ := args_at t h ht
      have e : (subA vals n).tmps.getD t undef = vals.toList.getD t undef := by
        show (vals ++ Array.replicate (n - vals.size) undef).getD t undef = _
        have ht' : t < vals.size := by omega
        simp [Array.getD_eq_getD_getElem?, List.getD_eq_getElem?_getD, Array.getElem?_append, ht']
      rw [e]
      exact arg_rel ha
    · rw [if_neg ht]
      trivial
  · rw [hbox] at hc; cases hc
  · rw [hhb] at hc; cases hc
  · rw [hhb] at hc; cases hc
  · rw [(hfree t).2.2 u] at hr; cases hr
  · rw [(hfree t).1] at hid; cases hid
  · rw [hcell] at hid; cases hid
  · exact absurd hi (Nat.not_lt_zero _)
  · show (vals ++ Array.replicate (n - vals.size) undef).size = n
    simp; omega

/-- Nothing that was there has changed. -/
structure Same (w w' : World) : Prop where
  os : w'.os = w.os
  tape : w'.tape = w.tape
  output : w'.output = w.output
  sz : w.heap.size ≤ w'.heap.size
  heap : ∀ b, b < w.heap.size → w'.heap[b]? = w.heap[b]?

theorem end_bool {n : Nat} {t : TypeId} {b : Bool} {e : Ending} {w' : World} (ht : (T t).kind = .bool) (h : Post T (ent0 w n) [] (.ret false [t] [.bool b] []) e w') : e = .returned (.bool b) ∧ Same w w' := by
  cases e with
  | panicked chain => exact h.elim
  | outgrown => exact h.elim
  | returned v =>
    obtain ⟨g', rv, hR, _, _, h4⟩ := h
    have hs : Same w w' := ⟨hR.wo.1, hR.wo.2.1, hR.wo.2.2, hR.sz, fun b hb => hR.keep b hb (fun f => f)⟩
    rcases h4 with ⟨h5, _⟩ | ⟨_, rfl, h6⟩
    · cases h5
    · rcases h6 with ⟨t', h7, h8⟩ | ⟨h7, _⟩
      · obtain rfl : t = t' := by simpa using h7
        obtain ⟨q1, q2, q3, q4⟩ := h8
        rcases q4 with ⟨q4, _⟩ | ⟨_, q5⟩
        · rw [ht] at q4; cases q4
        · have h0 := (q3 0 (by simp)).1
          rw [Value.cells_one q5] at h0
          have h0' : DRep T (rdr w' g'.pub) (.bool b) v := h0
          cases h0'
          exact ⟨rfl, hs⟩
      · exact absurd rfl h7

/-- A function that gives a truth, called with data. -/
theorem calls_bool {f : FuncId} {N : Nat} {ts : List TypeId} {args : List AV} {vals : Array Value} {t : TypeId} {b : Bool} (ht : (T t).kind = .bool) (hg : Good P T f args [] (.ret false [t] [.bool b] []))
    (h : ArgsOk T (rdr w fun b => b < w.heap.size) N ts args vals.toList) : Calls P f vals w fun e w' => e = .returned (.bool b) ∧ Same w w' := by
  obtain ⟨fn, h1, h2, h3, h4, h5⟩ := hg
  have hlen : args.length = vals.size := by simpa using args_len h
  have := h5 (ent0 w fn.ntmps) (gh0 w) w vals rfl rfl rfl hlen.symm (rel_start h (by omega))
  exact this.mono fun e w' hp => end_bool ht hp

theorem Same.kept {w' : World} (h : Same w w') (may : MemPlace → Prop) : w.keptBut w' may := by
  refine ⟨h.os, h.output, fun i hi => ?_⟩
  rw [h.heap i hi]
  cases hw : w.heap[i]? with
  | none => simp
  | some o => cases o <;> simp

theorem Same.at {w' : World} (h : Same w w') {p : MemPlace} (hp : p.block < w.heap.size) : w.sameAt w' p := by
  cases p with
  | cell b off =>
    show w'.cell? ⟨b, off, none⟩ = w.cell? ⟨b, off, none⟩
    have e : w'.heap[b]? = w.heap[b]? := h.heap b hp
    unfold World.cell?
    simp only [e]
  | map b => exact h.heap _ hp
end
end Go.Ab
end

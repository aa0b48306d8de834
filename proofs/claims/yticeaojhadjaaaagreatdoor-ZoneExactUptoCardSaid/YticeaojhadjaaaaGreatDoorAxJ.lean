/- Part 10 of the proof that this seat's laws lean on: an abstract machine over the model's code, its soundness, and what it says of this program. -/
import Derived.Test.YticeaojhadjaaaaGreatDoorAxI
import Derived.Orders

section
/-! Regions that draw their order. -/
set_option autoImplicit false
set_option linter.unusedVariables false
set_option linter.unusedSimpArgs false
namespace Go.Ab
variable {P : Program} {C : Cfg} {E : Ent} {g : Gh} {st : St} {a : Act} {w : World} {o : Oper}

/-- An operation of a region, as it went in the text's order: what it read and wrote, its effect; tag: 0 it ran, 1 it never runs, 2 it panics. -/
structure En where
  o : Oper
  r : Rec
  f : Eff
  tag : Nat
  v : Dat


/-- Does the operation run, by its guard? -/
noncomputable def wants (all : List Oper) (get : Nat → AV) (o : Oper) : Option Bool :=
  match o.guard with
  | none => some true
  | some (j, want) => match (all[j]?).bind (·.dst) with
    | none => none
    | some t => match get t with
      | .d (.bool b) => some (b == want)
      | .tup [] => some false
      | _ => none

noncomputable def guardT (all : List Oper) (o : Oper) : List Nat :=
  match o.guard with
  | none => []
  | some (j, _) => match (all[j]?).bind (·.dst) with
    | none => []
    | some t => [t]

/-- What is known of an operation of the list, at the state of the text's order. -/
structure EnOk (C : Cfg) (all : List Oper) (owns : List Nat) (vals : List AV) (e : En) (st : St) : Prop where
  run : e.tag = 0 → (wants all st.get e.o = some true ∧ ev1 C st.get st.box e.o = some (.inl e.f)) ∨ (wants all st.get e.o = some false ∧ e.f = skipEff)
  pan : e.tag = 2 → wants all st.get e.o = some true ∧ ev1 C st.get st.box e.o = some (.inr e.v)
  dst : e.tag = 0 → dstOk C.n e.o.dst e.f.v = true ∧ effOk e.f e.o.dst = true
  rT : e.tag ≠ 1 → ∀ t, t ∈ guardT all e.o ∨ t ∈ withTgts st.get (opTmps e.o) → t ∈ e.r.rT
  rB : e.tag ≠ 1 → ∀ id, id ∈ opBoxes st.get st.box e.o → id ∈ e.r.rB
  wT : e.tag = 0 → e.r.wT = (e.f.ws e.o.dst).map (·.1)
  wB : e.tag = 0 → e.r.wB = e.f.bw.map (·.1)
  ow : e.tag = 0 → ∀ t, t ∈ (e.f.ws e.o.dst).map (·.1) → isOwn (st.get t) = true → t ∈ owns
  vl : e.tag = 0 → ∀ v, v ∈ (e.f.ws e.o.dst).map (·.2) → v ∈ vals

/-- The way of a region in the text's order. -/
inductive Plan (C : Cfg) (all : List Oper) (s0 : List (Nat × AV)) (owns' : List Nat) (vals' : List AV) : List Oper → Nat → List Rec → Option (Nat × Dat) → St → List En → St → Option (Nat × Dat) → Prop
  | nil {i recs pan st} : Plan C all s0 owns' vals' [] i recs pan st [] st pan
  | dead {o l i recs p v st es st' pan'} (h1 : edgesOk i o.after.toList = true) (h2 : Nat.testBit (ancOf recs o.after.toList) p = true)
      (h : Plan C all s0 owns' vals' l (i + 1) (⟨i, ancOf recs o.after.toList, [], [], [], []⟩ :: recs) (some (p, v)) st es st' pan') :
      Plan C all s0 owns' vals' (o :: l) i recs (some (p, v)) st (⟨o, ⟨i, ancOf recs o.after.toList, [], [], [], []⟩, noEff, 1, .nilP⟩ :: es) st' pan'
  | live {o l i recs pan st f r es st' pan'} (h1 : edgesOk i o.after.toList = true) (h2 : ∀ p v, pan = some (p, v) → Nat.testBit (ancOf recs o.after.toList) p = false) (hi : r.i = i) (ha : r.anc = ancOf recs o.after.toList)
      (hc : clear r.anc r recs = true) (hok : EnOk C all owns' vals' ⟨o, r, f, 0, .nilP⟩ st)
      (h : Plan C all s0 owns' vals' l (i + 1) (r :: recs) pan (f.app o.dst st) es st' pan') :
      Plan C all s0 owns' vals' (o :: l) i recs pan st (⟨o, r, f, 0, .nilP⟩ :: es) st' pan'
  | pan {o l i recs st v r es st' pan'} (h1 : edgesOk i o.after.toList = true) (hi : r.i = i) (ha : r.anc = ancOf recs o.after.toList)
      (hc : clear r.anc r recs = true) (hok : EnOk C all owns' vals' ⟨o, r, noEff, 2, v⟩ st)
      (h : Plan C all s0 owns' vals' l (i + 1) (r :: recs) (some (i, v)) st es st' pan') :
      Plan C all s0 owns' vals' (o :: l) i recs none st (⟨o, r, noEff, 2, v⟩ :: es) st' pan'

/-- What is known of truths that were told. -/
def KnOk (kn : List (Nat × Bool)) (st : St) : Prop := ∀ t b, getK t kn = some b → st.get t = .d (.bool b)

theorem guardV_eq {kn : List (Nat × Bool)} {st : St} (hk : KnOk kn st) (t : Nat) : (∀ b, guardV kn t (st.get t) = some (some b) → st.get t = .d (.bool b)) ∧ (guardV kn t (st.get t) = some none → st.get t = .tup []) := by
  unfold guardV
  cases h : getK t kn with
  | some b => exact ⟨fun b' e => by cases e; exact hk t _ h, fun e => by cases e⟩
  | none =>
    simp only
    refine ⟨fun b e => ?_, fun e => ?_⟩
    · split at e
      · rename_i h1; cases e; exact h1
      · cases e
      · cases e
    · split at e
      · cases e
      · rename_i h1; exact h1
      · cases e

/-- The first of a list, or what was. -/
noncomputable def orA (u : Nat) (l : List (Nat × AV)) (d : AV) : AV := if (l.map (·.1)).any (Nat.beq u) = true then getA u l else d

theorem orA_nil (u : Nat) (d : AV) : orA u [] d = d := rfl
theorem orA_cons (u t : Nat) (v : AV) (l : List (Nat × AV)) (d : AV) : orA u ((t, v) :: l) d = if u = t then v else orA u l d := by
  unfold orA
  rw [List.map_cons, List.any_cons, getA_cons]
  by_cases h : u = t
  · subst h; simp
  · rw [if_neg h, if_neg h, nbeq_false h, Bool.false_or]
theorem orA_append (u : Nat) (d : AV) (l2 : List (Nat × AV)) : ∀ l1 : List (Nat × AV), orA u (l1 ++ l2) d = orA u l1 (orA u l2 d)
  | [] => rfl
  | (t, v) :: l1 => by rw [List.cons_append, orA_cons, orA_cons, orA_append u d l2 l1]
theorem orA_mem (u : Nat) (l : List (Nat × AV)) (d : AV) : (orA u l d = d) ∨ (u, orA u l d) ∈ l := by
  induction l with
  | nil => exact .inl rfl
  | cons p l ih =>
    obtain ⟨t, v⟩ := p
    rw [orA_cons]
    split
    · rename_i h; subst h; exact .inr List.mem_cons_self
    · rcases ih with h | h
      · exact .inl h
      · exact .inr (List.mem_cons_of_mem _ h)

theorem tgt_refs {v : AV} (h : v.tgt = []) (t : Nat) : v.refs t = false := by cases v <;> first | rfl | (simp [AV.tgt] at h)

theorem putAll_get : ∀ (l : List (Nat × AV)) (st : St), (∀ p ∈ l, p.2.tgt = [] ∧ isOwn p.2 = false) → (∀ p ∈ l, isOwn (st.get p.1) = true → ∀ u, (st.get u).refs p.1 = false) → ∀ u, (putAll l st).get u = orA u l.reverse (st.get u)
  | [], st, _, _, u => rfl
  | (t, v) :: l, st, h1, h2, u => by
    have hp : ∀ u, (st.put t v).get u = if u = t then v else st.get u := fun u => by
      rw [get_put]
      split
      · rfl
      · split
        · rename_i h; rw [h2 (t, v) List.mem_cons_self h.1 u] at h; cases h.2
        · rfl
    show (putAll l (st.put t v)).get u = _
    rw [putAll_get l (st.put t v) (fun p hp => h1 p (List.mem_cons_of_mem _ hp)) (fun p hpl ho u => ?_) u, List.reverse_cons, orA_append, hp, orA_cons, orA_nil]
    rw [hp] at ho ⊢
    have hv := h1 (t, v) List.mem_cons_self
    split at ho
    · rw [hv.2] at ho; cases ho
    · split
      · exact tgt_refs hv.1 _
      · exact h2 p (List.mem_cons_of_mem _ hpl) ho u

theorem updAll_get : ∀ (l : List (Nat × AV)) (st : St) (u : Nat), (updAll l st).get u = orA u l.reverse (st.get u)
  | [], st, u => rfl
  | (t, v) :: l, st, u => by
    show (updAll l ⟨(t, v) :: st.tmps, st.boxes⟩).get u = _
    rw [updAll_get l, List.reverse_cons, orA_append, orA_cons, orA_nil]
    show orA u l.reverse (getA u ((t, v) :: st.tmps)) = _
    rw [getA_cons]; rfl

theorem boxAll_get : ∀ (l : List (Nat × List AV)) (st : St) (u : Nat), (boxAll l st).get u = st.get u
  | [], _, _ => rfl
  | (i, cs) :: l, st, u => boxAll_get l (st.setBox i cs) u

theorem putAll_box : ∀ (l : List (Nat × AV)) (st : St) (id : Nat), (putAll l st).box id = st.box id
  | [], _, _ => rfl
  | (t, v) :: l, st, id => (putAll_box l (st.put t v) id).trans (box_put st t id v)

theorem updAll_box : ∀ (l : List (Nat × AV)) (st : St) (id : Nat), (updAll l st).box id = st.box id
  | [], _, _ => rfl
  | p :: l, st, id => updAll_box l ⟨p :: st.tmps, st.boxes⟩ id

theorem getB_append (id : Nat) (l2 : List (Nat × List AV)) : ∀ l1 : List (Nat × List AV), getB id (l1 ++ l2) = (getB id l1).or (getB id l2)
  | [] => by simp [getB_nil]
  | (i, c) :: l1 => by rw [List.cons_append, getB_cons, getB_cons, getB_append id l2 l1]; split <;> simp

theorem boxAll_box : ∀ (l : List (Nat × List AV)) (st : St) (id : Nat), (boxAll l st).box id = (getB id l.reverse).or (st.box id)
  | [], _, _ => by simp [boxAll, getB_nil]
  | (i, cs) :: l, st, id => by
    show (boxAll l (st.setBox i cs)).box id = _
    rw [boxAll_box l, List.reverse_cons, getB_append, getB_cons, getB_nil, box_setBox]
    cases getB id l.reverse <;> simp <;> split <;> simp

theorem getA_ws {f : Eff} {dst : Option Nat} {st : St} (ho : effOk f dst = true) (hn : ∀ t, t ∈ (f.ws dst).map (·.1) → isOwn (st.get t) = true → ∀ u, (st.get u).refs t = false) :
    ∀ u, (f.app dst st).get u = orA u (f.ws dst) (st.get u) := by
  simp only [effOk, Bool.and_eq_true, List.all_eq_true, Bool.not_eq_true', List.isEmpty_iff] at ho
  obtain ⟨h1, h2⟩ := ho
  have hput := putAll_get f.tw st (fun p hp => ⟨(h1 p hp).1.1, (h1 p hp).1.2⟩) fun p hp => hn p.1 (by
    simp only [Eff.ws, List.map_append, List.mem_append]; right; exact List.mem_map_of_mem (List.mem_reverse.2 hp))
  have h3 : ∀ u, (boxAll f.bw (updAll f.uw (putAll f.tw st))).get u = orA u (f.uw.reverse ++ f.tw.reverse) (st.get u) := fun u => by
    rw [boxAll_get, updAll_get, hput, orA_append]
  intro u
  unfold Eff.app
  cases dst with
  | none => exact h3 u
  | some d =>
    show ((boxAll f.bw (updAll f.uw (putAll f.tw st))).put d f.v).get u = _
    have hd : orA d (f.uw.reverse ++ f.tw.reverse) (st.get d) = st.get d := by
      rcases orA_mem d (f.uw.reverse ++ f.tw.reverse) (st.get d) with h | h
      · exact h
      · exfalso
        rcases List.mem_append.1 h with h | h
        · have := (h2 _ (List.mem_reverse.1 h)).2
          simp [notDst] at this
        · have := (h1 _ (List.mem_reverse.1 h)).2
          simp [notDst] at this
    have e : (f.ws (some d)) = (d, f.v) :: (f.uw.reverse ++ f.tw.reverse) := by simp [Eff.ws]
    rw [get_put, h3, h3, hd, e, orA_cons]
    split
    · rfl
    · split
      · rename_i hh
        exfalso
        have hno := hn d (by rw [e]; simp) hh.1
        rcases orA_mem u (f.uw.reverse ++ f.tw.reverse) (st.get u) with h | h
        · rw [h, hno u] at hh; cases hh.2
        · rcases List.mem_append.1 h with h | h
          · rw [tgt_refs (h2 _ (List.mem_reverse.1 h)).1] at hh; cases hh.2
          · rw [tgt_refs (h1 _ (List.mem_reverse.1 h)).1.1] at hh; cases hh.2
      · rfl

theorem box_app (f : Eff) (dst : Option Nat) (st : St) : ∀ id, (f.app dst st).box id = (getB id f.bw.reverse).or (st.box id) := fun id => by
  unfold Eff.app
  cases dst with
  | none => show (boxAll f.bw (updAll f.uw (putAll f.tw st))).box id = _; rw [boxAll_box, updAll_box, putAll_box]
  | some d =>
    show ((boxAll f.bw (updAll f.uw (putAll f.tw st))).put d f.v).box id = _
    rw [box_put, boxAll_box, updAll_box, putAll_box]

theorem wants_run {all : List Oper} {st : St} (h : o.guard = none) : wants all st.get o = some true := by simp [wants, h]
theorem wants_guard {all : List Oper} {st : St} {j t : Nat} {want b : Bool} (h : o.guard = some (j, want)) (ht : (all[j]?).bind (·.dst) = some t) (hv : st.get t = .d (.bool b)) : wants all st.get o = some (b == want) := by
  simp only [wants, h, ht, hv]
theorem wants_skip {all : List Oper} {st : St} {j t : Nat} {want : Bool} (h : o.guard = some (j, want)) (ht : (all[j]?).bind (·.dst) = some t) (hv : st.get t = .tup []) : wants all st.get o = some false := by
  simp only [wants, h, ht, hv]
theorem guardT_none {all : List Oper} (h : o.guard = none) : guardT all o = [] := by simp [guardT, h]
theorem guardT_some {all : List Oper} {j t : Nat} {want : Bool} (h : o.guard = some (j, want)) (ht : (all[j]?).bind (·.dst) = some t) : guardT all o = [t] := by simp [guardT, h, ht]

/-- What the rest of a region gives. -/
def RestOk (C : Cfg) (all : List Oper) (s0 : List (Nat × AV)) (k : St → Out) (r : Res) (l : List Oper) (i : Nat) (recs : List Rec) (pan : Option (Nat × Dat)) (owns : List Nat) (vals : List AV) (st : St) : Prop :=
  ∃ owns' vals' es st' pan', (∀ t ∈ owns, t ∈ owns') ∧ (∀ v ∈ vals, v ∈ vals') ∧ Plan C all s0 owns' vals' l i recs pan st es st' pan' ∧ noLead owns' s0 vals' = true ∧
    (match pan' with | none => k st' = some r | some pv => r = .panic pv.2)

theorem getK_filter {kn : List (Nat × Bool)} {q : Nat → Bool} {t : Nat} {b : Bool} : getK t (kn.filter fun p => q p.1) = some b → getK t kn = some b ∧ q t = true := by
  induction kn with
  | nil => intro h; cases h
  | cons p kn ih =>
    intro h
    rw [List.filter_cons] at h
    unfold getK
    by_cases ht : t = p.1
    · subst ht
      cases hq : q p.1 with
      | true =>
        rw [if_pos hq] at h
        unfold getK at h
        rw [Nat.beq_refl, cond_true] at h ⊢
        exact ⟨h, rfl⟩
      | false =>
        rw [if_neg (by rw [hq]; simp)] at h
        have := (ih h).2
        rw [hq] at this; cases this
    · rw [nbeq_false ht, cond_false]
      split at h
      · unfold getK at h
        rw [nbeq_false ht, cond_false] at h
        exact ih h
      · exact ih h

theorem put_plain {t u : Nat} {v : AV} (hu : u ≠ t) (h : (st.get u).tgt = []) : (st.put t v).get u = st.get u := by
  rw [get_put, if_neg hu, if_neg (by rw [tgt_refs h]; simp)]

theorem putAll_plain {u : Nat} : ∀ (l : List (Nat × AV)) (st : St), (∀ p ∈ l, u ≠ p.1) → (st.get u).tgt = [] → (putAll l st).get u = st.get u
  | [], _, _, _ => rfl
  | p :: l, st, h, ht => by
    have e := put_plain (v := p.2) (h p List.mem_cons_self) ht
    exact (putAll_plain l (st.put p.1 p.2) (fun q hq => h q (List.mem_cons_of_mem _ hq)) (by rw [e]; exact ht)).trans e

theorem app_plain {u : Nat} {f : Eff} {dst : Option Nat} (hu : u ∉ (f.ws dst).map (·.1)) (h : (st.get u).tgt = []) : (f.app dst st).get u = st.get u := by
  have h1 : ∀ p ∈ f.tw, u ≠ p.1 := fun p hp e => hu (by rw [e]; refine List.mem_map_of_mem ?_; unfold Eff.ws; exact List.mem_append_right _ (List.mem_reverse.2 hp))
  have h2 : ∀ p ∈ f.uw, u ≠ p.1 := fun p hp e => hu (by rw [e]; refine List.mem_map_of_mem ?_; unfold Eff.ws; exact List.mem_append_left _ (List.mem_append_right _ (List.mem_reverse.2 hp)))
  have h3 : (boxAll f.bw (updAll f.uw (putAll f.tw st))).get u = st.get u := by
    rw [boxAll_get, updAll_get]
    have : orA u f.uw.reverse ((putAll f.tw st).get u) = (putAll f.tw st).get u := by
      rcases orA_mem u f.uw.reverse ((putAll f.tw st).get u) with h | h
      · exact h
      · exact absurd rfl (h2 _ (List.mem_reverse.1 h))
    rw [this]
    exact putAll_plain f.tw st h1 h
  unfold Eff.app
  cases dst with
  | none => exact h3
  | some d =>
    refine (put_plain (fun e => hu ?_) (by rw [h3]; exact h)).trans h3
    rw [e]; simp [Eff.ws]

theorem KnOk.step {kn : List (Nat × Bool)} (hk : KnOk kn st) (f : Eff) (dst : Option Nat) : KnOk (kn.filter fun p => !(memN p.1 ((f.ws dst).map (·.1)))) (f.app dst st) := fun t b h => by
  obtain ⟨h1, h2⟩ := getK_filter (q := fun i => !(memN i ((f.ws dst).map (·.1)))) h
  rw [app_plain ?_ (by rw [hk t b h1]; rfl)]
  · exact hk t b h1
  · intro hm
    simp only [memN, Bool.not_eq_true', List.any_eq_false] at h2
    exact h2 t hm (by simp)

theorem KnOk.cons {kn : List (Nat × Bool)} (hk : KnOk kn st) {t : Nat} {b : Bool} (h : st.get t = .d (.bool b)) : KnOk ((t, b) :: kn) st := fun u c hu => by
  unfold getK at hu
  by_cases e : u = t
  · subst e; rw [Nat.beq_refl, cond_true] at hu; cases hu; exact h
  · rw [nbeq_false e, cond_false] at hu; exact hk u c hu

theorem mem_ownsPut {l : List Nat} {t : Nat} (h : t ∈ l) (ho : isOwn (st.get t) = true) : t ∈ ownsPut st l := List.mem_filter.2 ⟨h, ho⟩

theorem drawStep_plan {all : List Oper} {s0 : List (Nat × AV)} {r : Res} {k : St → Out} {l : List Oper} {i : Nat} {recs : List Rec} {pan : Option (Nat × Dat)} {owns : List Nat} {vals : List AV} {kn : List (Nat × Bool)} {gT : List Nat} {f : Eff}
    (ih : ∀ {i : Nat} {recs : List Rec} {pan : Option (Nat × Dat)} {owns : List Nat} {vals : List AV} {kn : List (Nat × Bool)} {st : St}, KnOk kn st → evDraw C all s0 l i recs pan owns vals kn st k = some r → RestOk C all s0 k r l i recs pan owns vals st)
    (hk : KnOk kn st) (he : edgesOk i o.after.toList = true) (hd : deadBy pan (ancOf recs o.after.toList) = false) (hgT : guardT all o = gT)
    (hrun : (wants all st.get o = some true ∧ ev1 C st.get st.box o = some (.inl f)) ∨ (wants all st.get o = some false ∧ f = skipEff))
    (h : drawStep C o (evDraw C all s0 l) i recs pan owns vals st k gT kn f = some r) : RestOk C all s0 k r (o :: l) i recs pan owns vals st := by
  rw [drawStep_eq] at h
  obtain ⟨hc, h⟩ := cond_ends h (by simp)
  simp only [Bool.and_eq_true] at hc
  rw [appK_eq] at h
  obtain ⟨owns', vals', es, st', pan', q1, q2, q3, q4, q5⟩ := ih (hk.step f o.dst) h
  refine ⟨owns', vals', _, st', pan', fun t ht => q1 t (List.mem_append_right _ ht), fun v hv => q2 v (List.mem_append_right _ hv), .live he (fun p v hp => ?_) rfl rfl hc.2 ?_ q3, q4, q5⟩
  · subst hp; exact hd
  · exact { run := fun _ => hrun, pan := fun e => (by cases e), dst := fun _ => hc.1
            rT := fun _ t ht => by
              show t ∈ gT ++ _
              rw [← hgT]
              rcases ht with ht | ht
              · exact List.mem_append_left _ ht
              · exact List.mem_append_right _ ht
            rB := fun _ id h => h
            wT := fun _ => rfl, wB := fun _ => rfl
            ow := fun _ t ht ho => q1 t (List.mem_append_left _ (mem_ownsPut ht ho))
            vl := fun _ v hv => q2 v (List.mem_append_left _ hv) }

theorem drawRun_plan (hb : C.bind = bindR) {all : List Oper} {s0 : List (Nat × AV)} {r : Res} {k : St → Out} {l : List Oper} {i : Nat} {recs : List Rec} {pan : Option (Nat × Dat)} {owns : List Nat} {vals : List AV} {kn : List (Nat × Bool)} {gT : List Nat}
    (ih : ∀ {i : Nat} {recs : List Rec} {pan : Option (Nat × Dat)} {owns : List Nat} {vals : List AV} {kn : List (Nat × Bool)} {st : St}, KnOk kn st → evDraw C all s0 l i recs pan owns vals kn st k = some r → RestOk C all s0 k r l i recs pan owns vals st)
    (hk : KnOk kn st) (he : edgesOk i o.after.toList = true) (hd : deadBy pan (ancOf recs o.after.toList) = false) (hgT : guardT all o = gT) (hw : wants all st.get o = some true)
    (h : drawRun C o (evDraw C all s0 l) i recs pan owns vals st k gT kn = some r) : RestOk C all s0 k r (o :: l) i recs pan owns vals st := by
  unfold drawRun at h
  rw [ev_free hb] at h
  cases h1 : ev1 C st.get st.box o with
  | none => rw [h1] at h; cases h
  | some x =>
    rw [h1] at h
    cases x with
    | inl f => exact drawStep_plan ih hk he hd hgT (.inl ⟨hw, h1⟩) h
    | inr v =>
      cases pan with
      | some pv => cases h
      | none =>
        obtain ⟨hc, h⟩ := cond_ends h (by simp)
        obtain ⟨owns', vals', es, st', pan', q1, q2, q3, q4, q5⟩ := ih hk h
        refine ⟨owns', vals', _, st', pan', q1, q2, .pan he rfl rfl hc ?_ q3, q4, q5⟩
        exact { run := fun e => (by cases e), pan := fun _ => ⟨hw, h1⟩, dst := fun e => (by cases e)
                rT := fun _ t ht => by
                  show t ∈ gT ++ _
                  rw [← hgT]
                  rcases ht with ht | ht
                  · exact List.mem_append_left _ ht
                  · exact List.mem_append_right _ ht
                rB := fun _ id h => h
                wT := fun e => (by cases e)
                wB := fun e => (by cases e)
                ow := fun e => (by cases e)
                vl := fun e => (by cases e) }

theorem evDraw_plan (hb : C.bind = bindR) {all : List Oper} {s0 : List (Nat × AV)} {r : Res} {k : St → Out} : ∀ (l : List Oper) {i : Nat} {recs : List Rec} {pan : Option (Nat × Dat)} {owns : List Nat} {vals : List AV} {kn : List (Nat × Bool)} {st : St},
    KnOk kn st → evDraw C all s0 l i recs pan owns vals kn st k = some r → RestOk C all s0 k r l i recs pan owns vals st
  | [], i, recs, pan, owns, vals, kn, st, hk, h => by
    replace h : drawNil s0 i recs pan owns vals kn st k = some r := h
    unfold drawNil at h
    obtain ⟨hc, h⟩ := cond_ends h (by simp)
    refine ⟨owns, vals, [], st, pan, fun _ h => h, fun _ h => h, .nil, hc, ?_⟩
    cases pan with
    | none => exact h
    | some pv => exact (Option.some.inj h).symm
  | o :: l, i, recs, pan, owns, vals, kn, st, hk, h => by
    have ih := fun {i recs pan owns vals kn st} => evDraw_plan hb (all := all) (s0 := s0) (r := r) (k := k) l (i := i) (recs := recs) (pan := pan) (owns := owns) (vals := vals) (kn := kn) (st := st)
    replace h : drawCons C all o (evDraw C all s0 l) i recs pan owns vals kn st k = some r := h
    unfold drawCons at h
    obtain ⟨he, h⟩ := cond_ends h (by simp)
    cases hd : deadBy pan (ancOf recs o.after.toList) with
    | true =>
      rw [hd, cond_true] at h
      cases pan with
      | none => cases hd
      | some pv =>
        obtain ⟨owns', vals', es, st', pan', q1, q2, q3, q4, q5⟩ := ih hk h
        exact ⟨owns', vals', _, st', pan', q1, q2, .dead he hd q3, q4, q5⟩
    | false =>
      rw [hd, cond_false] at h
      split at h
      · rename_i hg
        exact drawRun_plan hb ih hk he hd (guardT_none hg) (wants_run hg) h
      · rename_i j want hg
        split at h
        · cases h
        · rename_i t ht
          obtain ⟨g1, g2⟩ := guardV_eq hk t
          split at h
          · rename_i b hgv
            have hv := g1 b hgv
            have hw := wants_guard hg ht hv
            have hgT := guardT_some hg ht
            cases b <;> cases want <;> simp only [cond_true, cond_false] at h
            · exact drawRun_plan hb ih (hk.cons hv) he hd hgT hw h
            · exact drawStep_plan ih (hk.cons hv) he hd hgT (.inr ⟨hw, rfl⟩) h
            · exact drawStep_plan ih (hk.cons hv) he hd hgT (.inr ⟨hw, rfl⟩) h
            · exact drawRun_plan hb ih (hk.cons hv) he hd hgT hw h
          · rename_i hgv
            exact drawStep_plan ih hk he hd (guardT_some hg ht) (.inr ⟨wants_skip hg ht (g2 hgv), rfl⟩) h
          · cases h

end Go.Ab
end

section
/-! Regions that draw their order: every order leads to the same. -/
set_option autoImplicit false
set_option linter.unusedVariables false
set_option linter.unusedSimpArgs false
namespace Go.Ab
variable {P : Program} {C : Cfg} {E : Ent} {g : Gh} {st : St} {a : Act} {w : World} {o : Oper}

noncomputable def En.step (e : En) (st : St) : St := if e.tag = 0 then e.f.app e.o.dst st else st
noncomputable def runE (es : List En) (st : St) : St := es.foldl (fun s e => e.step s) st

structure Fact (C : Cfg) (all : List Oper) (owns : List Nat) (vals : List AV) (pan' : Option (Nat × Dat)) (full : List En) (st0 : St) (j : Nat) (e : En) : Prop where
  o : all[j]? = some e.o
  ri : e.r.i = j
  ok : e.tag ≠ 1 → EnOk C all owns vals e (runE (full.take j) st0)
  clr : e.tag ≠ 1 → ∀ j' e', j' < j → full[j']? = some e' → e.r.clash e'.r = true → Nat.testBit e.r.anc j' = true
  edge : ∀ ed ∈ e.o.after.toList, bindsE ed = true → ed.on < j
  anc : ∀ x, Nat.testBit e.r.anc x = true → ∃ ed ∈ e.o.after.toList, bindsE ed = true ∧ (x = ed.on ∨ ∃ e', full[ed.on]? = some e' ∧ Nat.testBit e'.r.anc x = true)
  dead : e.tag = 1 → ∃ p v, pan' = some (p, v) ∧ Nat.testBit e.r.anc p = true
  pan : e.tag = 2 → pan' = some (j, e.v)
  tag : e.tag = 0 ∨ e.tag = 1 ∨ e.tag = 2

theorem ancAt_bit {k x : Nat} : ∀ {recs : List Rec}, Nat.testBit (ancAt k recs) x = true → ∃ r ∈ recs, r.i = k ∧ Nat.testBit r.anc x = true
  | [], h => by simp [ancAt] at h
  | r :: recs, h => by
    unfold ancAt at h
    by_cases e : k = r.i
    · subst e
      rw [Nat.beq_refl, cond_true] at h
      exact ⟨r, List.mem_cons_self, rfl, h⟩
    · rw [nbeq_false e, cond_false] at h
      obtain ⟨r', h1, h2⟩ := ancAt_bit h
      exact ⟨r', List.mem_cons_of_mem _ h1, h2⟩

theorem ancOf_bit {recs : List Rec} {x : Nat} : ∀ {l : List Edge}, Nat.testBit (ancOf recs l) x = true → ∃ ed ∈ l, bindsE ed = true ∧ (x = ed.on ∨ Nat.testBit (ancAt ed.on recs) x = true)
  | [], h => by simp [ancOf] at h
  | ed :: l, h => by
    unfold ancOf at h
    cases hb : bindsE ed with
    | true =>
      rw [hb, cond_true] at h
      have h' : ((2 ^ ed.on ||| ancAt ed.on recs) ||| ancOf recs l).testBit x = true := h
      rw [Nat.testBit_or, Nat.testBit_or, Bool.or_eq_true, Bool.or_eq_true] at h'
      rcases h' with (h1 | h1) | h1
      · rw [Nat.testBit_two_pow] at h1
        exact ⟨ed, List.mem_cons_self, hb, .inl (by simpa using (of_decide_eq_true h1).symm)⟩
      · exact ⟨ed, List.mem_cons_self, hb, .inr h1⟩
      · obtain ⟨e', q1, q2⟩ := ancOf_bit h1
        exact ⟨e', List.mem_cons_of_mem _ q1, q2⟩
    | false =>
      rw [hb, cond_false] at h
      obtain ⟨e', q1, q2⟩ := ancOf_bit h
      exact ⟨e', List.mem_cons_of_mem _ q1, q2⟩

theorem runE_append (es : List En) (e : En) (st : St) : runE (es ++ [e]) st = e.step (runE es st) := by simp [runE]

/-- All that a plan tells, place by place. -/
theorem plan_facts {all : List Oper} {s0 : List (Nat × AV)} {owns : List Nat} {vals : List AV} {full : List En} {st0 : St} {l : List Oper} {i : Nat} {recs : List Rec} {pan : Option (Nat × Dat)} {es : List En} {st' : St} {pan' : Option (Nat × Dat)}
    (h : Plan C all s0 owns vals l i recs pan st es st' pan') : full.drop i = es → i ≤ full.length → all.drop i = l → recs = ((full.take i).map (·.r)).reverse → st = runE (full.take i) st0 → (∀ j e, j < i → full[j]? = some e → e.r.i = j) →
    (∀ j e, i ≤ j → full[j]? = some e → Fact C all owns vals pan' full st0 j e) ∧ st' = runE full st0 ∧ es.length = l.length ∧
      (∀ p v, pan = some (p, v) → pan' = some (p, v)) ∧ (∀ p v, pan' = some (p, v) → pan = some (p, v) ∨ ∃ e, full[p]? = some e ∧ e.tag = 2) := by
  have rec_of : ∀ {i : Nat} {recs : List Rec} {r : Rec}, recs = ((full.take i).map (·.r)).reverse → r ∈ recs → ∃ j e, j < i ∧ full[j]? = some e ∧ e.r = r := fun {i recs r} hr hm => by
    rw [hr, List.mem_reverse] at hm
    obtain ⟨e, he, rfl⟩ := List.mem_map.1 hm
    obtain ⟨j, hj, rfl⟩ := List.mem_iff_getElem.1 he
    rw [List.length_take] at hj
    refine ⟨j, full[j], by omega, by rw [List.getElem?_eq_getElem], by rw [List.getElem_take]⟩
  have rec_mem : ∀ {i : Nat} {recs : List Rec} {j : Nat} {e : En}, recs = ((full.take i).map (·.r)).reverse → j < i → full[j]? = some e → e.r ∈ recs := fun {i recs j e} hr hj he => by
    rw [hr, List.mem_reverse]
    refine List.mem_map_of_mem (List.mem_iff_getElem?.2 ⟨j, ?_⟩)
    rw [List.getElem?_take, if_pos hj]; exact he
  have clr_of : ∀ {i : Nat} {recs : List Rec} {r : Rec} {anc : Nat}, recs = ((full.take i).map (·.r)).reverse → (∀ j e, j < i → full[j]? = some e → e.r.i = j) → clear anc r recs = true → ∀ j' e', j' < i → full[j']? = some e' → r.clash e'.r = true → Nat.testBit anc j' = true :=
    fun {i recs r anc} hr hri hc j' e' hj' he' hcl => by
      unfold clear at hc
      rw [List.all_eq_true] at hc
      have := hc _ (rec_mem hr hj' he')
      rw [hcl, hri j' e' hj' he'] at this
      simpa using this
  have anc_of : ∀ {i : Nat} {recs : List Rec} {edges : List Edge}, recs = ((full.take i).map (·.r)).reverse → (∀ j e, j < i → full[j]? = some e → e.r.i = j) → ∀ x, Nat.testBit (ancOf recs edges) x = true → ∃ ed ∈ edges, bindsE ed = true ∧ (x = ed.on ∨ ∃ e', full[ed.on]? = some e' ∧ Nat.testBit e'.r.anc x = true) :=
    fun {i recs edges} hr hri x hx => by
      obtain ⟨ed, h1, h2, h3⟩ := ancOf_bit hx
      refine ⟨ed, h1, h2, h3.imp id fun h3 => ?_⟩
      obtain ⟨r, q1, q2, q3⟩ := ancAt_bit h3
      obtain ⟨j, e, p1, p2, rfl⟩ := rec_of hr q1
      rw [hri j e p1 p2] at q2
      subst q2
      exact ⟨e, p2, q3⟩
  have edge_of : ∀ {i : Nat} {edges : List Edge}, edgesOk i edges = true → ∀ ed ∈ edges, bindsE ed = true → ed.on < i := fun {i edges} h ed hed hb => by
    unfold edgesOk at h
    rw [List.all_eq_true] at h
    have := h ed hed
    rw [hb] at this
    simpa using this
  have head : ∀ {i : Nat} {e : En} {es : List En}, full.drop i = e :: es → full[i]? = some e ∧ full.drop (i + 1) = es ∧ i + 1 ≤ full.length ∧ full.take (i + 1) = full.take i ++ [e] := fun {i e es} hd => by
    have h1 : full[i]? = some e := by
      have : (full.drop i)[0]? = some e := by rw [hd]; rfl
      rwa [List.getElem?_drop, Nat.add_zero] at this
    have hlt : i < full.length := by
      rcases Nat.lt_or_ge i full.length with h | h
      · exact h
      · rw [List.getElem?_eq_none h] at h1; cases h1
    refine ⟨h1, ?_, hlt, ?_⟩
    · have : full.drop (i + 1) = (full.drop i).drop 1 := by rw [List.drop_drop]
      rw [this, hd]; rfl
    · rw [List.take_succ_eq_append_getElem hlt]
      rw [List.getElem?_eq_getElem hlt] at h1
      rw [Option.some.inj h1]
  have ohead : ∀ {i : Nat} {o : Oper} {l : List Oper}, all.drop i = o :: l → all[i]? = some o ∧ all.drop (i + 1) = l := fun {i o l} hd => by
    have h1 : all[i]? = some o := by
      have : (all.drop i)[0]? = some o := by rw [hd]; rfl
      rwa [List.getElem?_drop, Nat.add_zero] at this
    refine ⟨h1, ?_⟩
    have : all.drop (i + 1) = (all.drop i).drop 1 := by rw [List.drop_drop]
    rw [this, hd]; rfl
  have next : ∀ {i : Nat} {recs : List Rec} {e : En}, recs = ((full.take i).map (·.r)).reverse → full.take (i + 1) = full.take i ++ [e] → e.r :: recs = ((full.take (i + 1)).map (·.r)).reverse := fun {i recs e} hr ht => by
    rw [ht, hr]; simp
  have nexti : ∀ {i : Nat} {e : En}, (∀ j e, j < i → full[j]? = some e → e.r.i = j) → full[i]? = some e → e.r.i = i → ∀ j e, j < i + 1 → full[j]? = some e → e.r.i = j := fun {i e} hri h1 h2 j e' hj he' => by
    by_cases hji : j = i
    · subst hji; rw [h1] at he'; cases he'; exact h2
    · exact hri j e' (by omega) he'
  induction h with
  | nil =>
    intro hd hi hl hr hs hri
    have hlen : full.length ≤ _ := List.drop_eq_nil_iff.1 hd
    refine ⟨fun j e hj he => ?_, ?_, rfl, fun p v h => h, fun p v h => .inl h⟩
    · rw [List.getElem?_eq_none (by omega)] at he; cases he
    · rw [hs, List.take_of_length_le hlen]
  | @dead o l i recs p v st es st' pan' h1 h2 hp ih =>
    intro hd hi hl hr hs hri
    obtain ⟨g1, g2, g3, g4⟩ := head hd
    obtain ⟨o1, o2⟩ := ohead hl
    obtain ⟨q1, q2, q3, q4, q5⟩ := ih g2 g3 o2 (next hr g4) (by rw [g4, runE_append, ← hs]; simp [En.step]) (nexti hri g1 rfl)
    refine ⟨fun j e hj he => ?_, q2, by simp [q3], q4, q5⟩
    rcases Nat.lt_or_ge j (i + 1) with hlt | hge
    · obtain rfl : j = i := by omega
      rw [g1] at he; cases he
      exact { o := o1, ri := rfl, ok := fun h => absurd rfl h, clr := fun h => absurd rfl h, edge := edge_of h1, anc := anc_of hr hri, dead := fun _ => ⟨_, _, q4 _ _ rfl, h2⟩, pan := fun h => (by cases h), tag := .inr (.inl rfl) }
    · exact q1 j e hge he
  | @live o l i recs pan st f r es st' pan' h1 h2 hi' ha hc hok hp ih =>
    intro hd hi hl hr hs hri
    obtain ⟨g1, g2, g3, g4⟩ := head hd
    obtain ⟨o1, o2⟩ := ohead hl
    obtain ⟨q1, q2, q3, q4, q5⟩ := ih g2 g3 o2 (next hr g4) (by rw [g4, runE_append, ← hs]; simp [En.step]) (nexti hri g1 hi')
    refine ⟨fun j e hj he => ?_, q2, by simp [q3], q4, q5⟩
    rcases Nat.lt_or_ge j (i + 1) with hlt | hge
    · obtain rfl : j = i := by omega
      rw [g1] at he; cases he
      exact { o := o1, ri := hi', ok := fun _ => hs ▸ hok, clr := fun _ => clr_of hr hri hc, edge := edge_of h1, anc := fun x hx => anc_of hr hri x (by rw [← ha]; exact hx), dead := fun h => (by cases h), pan := fun h => (by cases h), tag := .inl rfl }
    · exact q1 j e hge he
  | @pan o l i recs st v r es st' pan' h1 hi' ha hc hok hp ih =>
    intro hd hi hl hr hs hri
    obtain ⟨g1, g2, g3, g4⟩ := head hd
    obtain ⟨o1, o2⟩ := ohead hl
    obtain ⟨q1, q2, q3, q4, q5⟩ := ih g2 g3 o2 (next hr g4) (by rw [g4, runE_append, ← hs]; simp [En.step]) (nexti hri g1 hi')
    have hpp := q4 _ _ rfl
    refine ⟨fun j e hj he => ?_, q2, by simp [q3], fun p v h => (by cases h), fun p v h => ?_⟩
    · rcases Nat.lt_or_ge j (i + 1) with hlt | hge
      · obtain rfl : j = i := by omega
        rw [g1] at he; cases he
        exact { o := o1, ri := hi', ok := fun _ => hs ▸ hok, clr := fun _ => clr_of hr hri hc, edge := edge_of h1, anc := fun x hx => anc_of hr hri x (by rw [← ha]; exact hx), dead := fun h => (by cases h), pan := fun _ => hpp, tag := .inr (.inr rfl) }
      · exact q1 j e hge he
    · rw [hpp] at h; cases h
      exact .inr ⟨_, g1, rfl⟩

end Go.Ab
end

section
/-! Regions that draw their order: the law. -/
set_option autoImplicit false
set_option linter.unusedVariables false
set_option linter.unusedSimpArgs false
namespace Go.Ab
variable {P : Program} {C : Cfg} {E : Ent} {g : Gh} {st : St} {a : Act} {w : World} {o : Oper}

/-- What a list of operations leaves at a place, the last that writes there. -/
noncomputable def look {α : Type} (wv : En → Option α) (l : List En) (d : α) : α := l.foldl (fun d e => (wv e).getD d) d

theorem look_cons {α : Type} (wv : En → Option α) (e : En) (l : List En) (d : α) : look wv (e :: l) d = look wv l ((wv e).getD d) := rfl
theorem look_snoc {α : Type} (wv : En → Option α) (e : En) (l : List En) (d : α) : look wv (l ++ [e]) d = (wv e).getD (look wv l d) := by simp [look]

theorem look_filter {α : Type} (wv : En → Option α) {p q : En → Bool} : ∀ (l : List En) (d : α), (∀ e ∈ l, (wv e).isSome = true → p e = q e) → look wv (l.filter p) d = look wv (l.filter q) d
  | [], d, _ => rfl
  | e :: l, d, h => by
    have ih := fun d => look_filter wv l d fun e' he' => h e' (List.mem_cons_of_mem _ he')
    cases hw : wv e with
    | none =>
      have h1 : ∀ (p : En → Bool), look wv ((e :: l).filter p) d = look wv (l.filter p) d := fun p => by
        rw [List.filter_cons]
        split
        · rw [look_cons, hw]; rfl
        · rfl
      rw [h1, h1, ih]
    | some v =>
      have := h e List.mem_cons_self (by rw [hw]; rfl)
      rw [List.filter_cons, List.filter_cons, this]
      split
      · rw [look_cons, look_cons, ih]
      · exact ih d

noncomputable def En.tv (t : Nat) (e : En) : Option AV := if e.tag = 0 then (if ((e.f.ws e.o.dst).map (·.1)).any (Nat.beq t) = true then some (getA t (e.f.ws e.o.dst)) else none) else none
noncomputable def En.bv (id : Nat) (e : En) : Option (Option (List AV)) := if e.tag = 0 then (getB id e.f.bw.reverse).map some else none

theorem tv_live {e : En} (h : e.tag = 0) (t : Nat) (d : AV) : (e.tv t).getD d = orA t (e.f.ws e.o.dst) d := by
  unfold En.tv orA
  rw [if_pos h]
  split <;> rfl
theorem bv_live {e : En} (h : e.tag = 0) (id : Nat) (d : Option (List AV)) : (e.bv id).getD d = (getB id e.f.bw.reverse).or d := by
  unfold En.bv
  rw [if_pos h]
  cases getB id e.f.bw.reverse <;> rfl
theorem tv_dead {e : En} (h : e.tag ≠ 0) (t : Nat) : e.tv t = none := by simp [En.tv, h]
theorem bv_dead {e : En} (h : e.tag ≠ 0) (t : Nat) : e.bv t = none := by simp [En.bv, h]

def VOk (owns : List Nat) (v : AV) : Prop := ∀ t ∈ owns, v.refs t = false

theorem look_VOk {owns : List Nat} {t : Nat} : ∀ (l : List En) (d : AV), (∀ e ∈ l, e.tag = 0 → ∀ v ∈ (e.f.ws e.o.dst).map (·.2), VOk owns v) → VOk owns d → VOk owns (look (En.tv t) l d)
  | [], d, _, h => h
  | e :: l, d, h, hd => by
    rw [look_cons]
    refine look_VOk l _ (fun e' he' => h e' (List.mem_cons_of_mem _ he')) ?_
    by_cases h0 : e.tag = 0
    · rw [tv_live h0]
      rcases orA_mem t (e.f.ws e.o.dst) d with h1 | h1
      · rw [h1]; exact hd
      · exact h e List.mem_cons_self h0 _ (List.mem_map_of_mem h1)
    · rw [tv_dead h0]; exact hd

/-- A plan's facts, all together. -/
structure Plans (C : Cfg) (all : List Oper) (owns : List Nat) (vals : List AV) (pan : Option (Nat × Dat)) (es : List En) (st0 : St) : Prop where
  fact : ∀ j e, es[j]? = some e → Fact C all owns vals pan es st0 j e
  len : es.length = all.length
  lead : ∀ v ∈ vals, VOk owns v
  s0 : ∀ t, VOk owns (st0.get t)
  pan : ∀ p v, pan = some (p, v) → ∃ e, es[p]? = some e ∧ e.tag = 2

variable {all : List Oper} {owns : List Nat} {vals : List AV} {pan : Option (Nat × Dat)} {es : List En} {st0 : St}

theorem Plans.vok (L : Plans C all owns vals pan es st0) {e : En} (he : e ∈ es) (h0 : e.tag = 0) : ∀ v ∈ (e.f.ws e.o.dst).map (·.2), VOk owns v := fun v hv => by
  obtain ⟨j, hj, rfl⟩ := List.mem_iff_getElem.1 he
  have F := L.fact j _ (List.getElem?_eq_getElem hj)
  exact L.lead v ((F.ok (by rw [h0]; simp)).vl h0 v hv)

/-- The states of the text's order, place by place. -/
theorem Plans.text (L : Plans C all owns vals pan es st0) : ∀ j, j ≤ es.length → (∀ t, (runE (es.take j) st0).get t = look (En.tv t) (es.take j) (st0.get t)) ∧ (∀ id, (runE (es.take j) st0).box id = look (En.bv id) (es.take j) (st0.box id))
  | 0, _ => ⟨fun _ => rfl, fun _ => rfl⟩
  | j + 1, hj => by
    obtain ⟨h1, h2⟩ := L.text j (by omega)
    have hlt : j < es.length := by omega
    rw [List.take_succ_eq_append_getElem hlt, runE_append]
    have F := L.fact j _ (List.getElem?_eq_getElem hlt)
    unfold En.step
    by_cases h0 : es[j].tag = 0
    · have K := F.ok (by rw [h0]; simp)
      have hv : ∀ u, VOk owns ((runE (es.take j) st0).get u) := fun u => by
        rw [h1]
        exact look_VOk _ _ (fun e he => L.vok (List.mem_of_mem_take he)) (L.s0 u)
      have hg := getA_ws (K.dst h0).2 fun t ht ho u => hv u t (K.ow h0 t ht ho)
      rw [if_pos h0]
      refine ⟨fun t => ?_, fun id => ?_⟩
      · rw [hg, h1, look_snoc, tv_live h0]
      · rw [box_app, h2, look_snoc, bv_live h0]
    · rw [if_neg h0]
      refine ⟨fun t => ?_, fun id => ?_⟩
      · rw [h1, look_snoc, tv_dead h0]; rfl
      · rw [h2, look_snoc, bv_dead h0]; rfl

theorem Plans.take (L : Plans C all owns vals pan es st0) (j : Nat) : es.take j = es.filter fun e => decide (e.r.i < j) := by
  have ri : ∀ k (hk : k < es.length), es[k].r.i = k := fun k hk => (L.fact k _ (List.getElem?_eq_getElem hk)).ri
  conv => rhs; rw [← List.take_append_drop j es, List.filter_append]
  have h1 : (es.take j).filter (fun e => decide (e.r.i < j)) = es.take j := by
    rw [List.filter_eq_self]
    intro e he
    obtain ⟨k, hk, rfl⟩ := List.mem_iff_getElem.1 he
    rw [List.length_take] at hk
    rw [List.getElem_take, ri k (by omega)]
    simp; omega
  have h2 : (es.drop j).filter (fun e => decide (e.r.i < j)) = [] := by
    rw [List.filter_eq_nil_iff]
    intro e he
    obtain ⟨k, hk, rfl⟩ := List.mem_iff_getElem.1 he
    rw [List.length_drop] at hk
    rw [List.getElem_drop, ri (j + k) (by omega)]
    simp
  rw [h1, h2, List.append_nil]

/-- What has run so far: whatever runs, all runs before that must. -/
structure Down (es : List En) (lst : Nat → Bool) : Prop where
  dc : ∀ k e, es[k]? = some e → lst k = true → ∀ ed ∈ e.o.after.toList, bindsE ed = true → lst ed.on = true

theorem Plans.anc (L : Plans C all owns vals pan es st0) {lst : Nat → Bool} (D : Down es lst) : ∀ (k : Nat) (e : En), es[k]? = some e → (∀ ed ∈ e.o.after.toList, bindsE ed = true → lst ed.on = true) → ∀ x, Nat.testBit e.r.anc x = true → lst x = true := by
  intro k
  induction k using Nat.strongRecOn with
  | ind k ih =>
    intro e he hed x hx
    have F := L.fact k e he
    obtain ⟨ed, h1, h2, h3⟩ := F.anc x hx
    rcases h3 with rfl | ⟨e', h4, h5⟩
    · exact hed ed h1 h2
    · exact ih ed.on (F.edge ed h1 h2) e' h4 (fun ed' q1 q2 => D.dc ed.on e' h4 (hed ed h1 h2) ed' q1 q2) x h5

theorem meets_of {a b : List Nat} {x : Nat} (h1 : x ∈ a) (h2 : x ∈ b) : meets a b = true := by
  unfold meets
  rw [List.any_eq_true]
  exact ⟨x, h1, by unfold memN; rw [List.any_eq_true]; exact ⟨x, h2, Nat.beq_refl x⟩⟩

/-- Where an operation is ready, all others that write what it reads or writes have run if they stand before it, and have not if they stand behind it. -/
theorem Plans.order (L : Plans C all owns vals pan es st0) {lst : Nat → Bool} (D : Down es lst) {j : Nat} {e : En} (he : es[j]? = some e) (hj : lst j = false) (ht : e.tag ≠ 1) (hed : ∀ ed ∈ e.o.after.toList, bindsE ed = true → lst ed.on = true)
    {k : Nat} {e' : En} (he' : es[k]? = some e') (ht' : e'.tag ≠ 1) (hkj : k ≠ j)
    (hcl : (∃ t, t ∈ e'.r.wT ∧ (t ∈ e.r.rT ∨ t ∈ e.r.wT)) ∨ ∃ t, t ∈ e'.r.wB ∧ (t ∈ e.r.rB ∨ t ∈ e.r.wB)) : lst k = decide (k < j) := by
  have F := L.fact j e he
  have F' := L.fact k e' he'
  rcases Nat.lt_or_ge k j with h | h
  · rw [decide_eq_true h]
    have hc : e.r.clash e'.r = true := by
      unfold Rec.clash
      rcases hcl with ⟨t, q1, q2 | q2⟩ | ⟨t, q1, q2 | q2⟩
      · simp [meets_of q1 q2]
      · simp [meets_of q2 (List.mem_append_right e'.r.rT q1)]
      · simp [meets_of q1 q2]
      · simp [meets_of q2 (List.mem_append_right e'.r.rB q1)]
    exact L.anc D j e he hed k (F.clr ht k e' h he' hc)
  · have h : j < k := by omega
    rw [decide_eq_false (by omega)]
    have hc : e'.r.clash e.r = true := by
      unfold Rec.clash
      rcases hcl with ⟨t, q1, q2 | q2⟩ | ⟨t, q1, q2 | q2⟩
      · simp [meets_of q1 (List.mem_append_left e.r.wT q2)]
      · simp [meets_of q1 (List.mem_append_right e.r.rT q2)]
      · simp [meets_of q1 (List.mem_append_left e.r.wB q2)]
      · simp [meets_of q1 (List.mem_append_right e.r.rB q2)]
    have hb := F'.clr ht' j e h he hc
    cases hk : lst k with
    | false => rfl
    | true =>
      have := L.anc D k e' he' (D.dc k e' he' hk) j hb
      rw [hj] at this; cases this

noncomputable def listedOf (lst : Nat → Bool) (es : List En) : List En := es.filter fun e => lst e.r.i

theorem mem_index {e : En} (h : e ∈ es) (L : Plans C all owns vals pan es st0) : es[e.r.i]? = some e := by
  obtain ⟨j, hj, rfl⟩ := List.mem_iff_getElem.1 h
  have := (L.fact j _ (List.getElem?_eq_getElem hj)).ri
  rw [this, List.getElem?_eq_getElem hj]

theorem tv_some {e : En} {t : Nat} (h : (e.tv t).isSome = true) : e.tag = 0 ∧ t ∈ (e.f.ws e.o.dst).map (·.1) := by
  unfold En.tv at h
  split at h
  · rename_i h0
    split at h
    · rename_i h1
      rw [List.any_eq_true] at h1
      obtain ⟨u, hu, e1⟩ := h1
      rw [Nat.eq_of_beq_eq_true e1]
      exact ⟨h0, hu⟩
    · cases h
  · cases h

theorem bv_some {e : En} {t : Nat} (h : (e.bv t).isSome = true) : e.tag = 0 ∧ t ∈ e.f.bw.map (·.1) := by
  unfold En.bv at h
  split at h
  · rename_i h0
    cases hg : getB t e.f.bw.reverse with
    | none => rw [hg] at h; cases h
    | some c => exact ⟨h0, List.mem_map_of_mem (List.mem_reverse.1 (getB_mem hg))⟩
  · cases h

theorem Plans.agreeT (L : Plans C all owns vals pan es st0) {lst : Nat → Bool} (D : Down es lst) {j : Nat} {e : En} (he : es[j]? = some e) (hj : lst j = false) (ht : e.tag ≠ 1) (hed : ∀ ed ∈ e.o.after.toList, bindsE ed = true → lst ed.on = true)
    {t : Nat} (h : t ∈ e.r.rT ∨ t ∈ e.r.wT) (d : AV) : look (En.tv t) (listedOf lst es) d = look (En.tv t) (es.take j) d := by
  rw [L.take j]
  refine look_filter _ es d fun e' he' hs => ?_
  have hi := mem_index he' L
  obtain ⟨h0, h1⟩ := tv_some hs
  by_cases hk : e'.r.i = j
  · rw [hk, hj]; simp
  · exact L.order D he hj ht hed hi (by rw [h0]; simp) hk (.inl ⟨t, by rw [((L.fact _ _ hi).ok (by rw [h0]; simp)).wT h0]; exact h1, h⟩)

theorem Plans.agreeB (L : Plans C all owns vals pan es st0) {lst : Nat → Bool} (D : Down es lst) {j : Nat} {e : En} (he : es[j]? = some e) (hj : lst j = false) (ht : e.tag ≠ 1) (hed : ∀ ed ∈ e.o.after.toList, bindsE ed = true → lst ed.on = true)
    {t : Nat} (h : t ∈ e.r.rB ∨ t ∈ e.r.wB) (d : Option (List AV)) : look (En.bv t) (listedOf lst es) d = look (En.bv t) (es.take j) d := by
  rw [L.take j]
  refine look_filter _ es d fun e' he' hs => ?_
  have hi := mem_index he' L
  obtain ⟨h0, h1⟩ := bv_some hs
  by_cases hk : e'.r.i = j
  · rw [hk, hj]; simp
  · exact L.order D he hj ht hed hi (by rw [h0]; simp) hk (.inr ⟨t, by rw [((L.fact _ _ hi).ok (by rw [h0]; simp)).wB h0]; exact h1, h⟩)

/-- One more has run. -/
theorem Plans.moreT (L : Plans C all owns vals pan es st0) {lst lst' : Nat → Bool} (D : Down es lst) {j : Nat} {e : En} (he : es[j]? = some e) (hj : lst j = false) (h0 : e.tag = 0) (hed : ∀ ed ∈ e.o.after.toList, bindsE ed = true → lst ed.on = true)
    (hl : ∀ k, lst' k = if k = j then true else lst k) (t : Nat) (d : AV) : look (En.tv t) (listedOf lst' es) d = (e.tv t).getD (look (En.tv t) (listedOf lst es) d) := by
  have hlt : j < es.length := by
    rcases Nat.lt_or_ge j es.length with h | h
    · exact h
    · rw [List.getElem?_eq_none h] at he; cases he
  have ht : e.tag ≠ 1 := by rw [h0]; simp
  cases hs : e.tv t with
  | none =>
    refine look_filter _ es d fun e' he' hs' => ?_
    have hi := mem_index he' L
    rw [hl]
    split
    · rename_i hk
      rw [hk, he] at hi
      cases hi
      rw [hs] at hs'; cases hs'
    · rfl
  | some v =>
    have hw : t ∈ e.r.wT := by
      rw [((L.fact _ _ he).ok ht).wT h0]
      exact (tv_some (by rw [hs]; rfl)).2
    have h1 : look (En.tv t) (listedOf lst' es) d = look (En.tv t) (es.take (j + 1)) d := by
      rw [L.take (j + 1)]
      refine look_filter _ es d fun e' he' hs' => ?_
      have hi := mem_index he' L
      obtain ⟨h0', h1'⟩ := tv_some hs'
      rw [hl]
      by_cases hk : e'.r.i = j
      · rw [if_pos hk, hk]; simp
      · rw [if_neg hk, L.order D he hj ht hed hi (by rw [h0']; simp) hk (.inl ⟨t, by rw [((L.fact _ _ hi).ok (by rw [h0']; simp)).wT h0']; exact h1', .inr hw⟩)]
        exact decide_eq_decide.2 ⟨fun h => by omega, fun h => by omega⟩
    rw [h1, List.take_succ_eq_append_getElem hlt, look_snoc]
    rw [List.getElem?_eq_getElem hlt] at he
    rw [Option.some.inj he, hs]
    rfl

theorem Plans.moreB (L : Plans C all owns vals pan es st0) {lst lst' : Nat → Bool} (D : Down es lst) {j : Nat} {e : En} (he : es[j]? = some e) (hj : lst j = false) (h0 : e.tag = 0) (hed : ∀ ed ∈ e.o.after.toList, bindsE ed = true → lst ed.on = true)
    (hl : ∀ k, lst' k = if k = j then true else lst k) (t : Nat) (d : Option (List AV)) : look (En.bv t) (listedOf lst' es) d = (e.bv t).getD (look (En.bv t) (listedOf lst es) d) := by
  have hlt : j < es.length := by
    rcases Nat.lt_or_ge j es.length with h | h
    · exact h
    · rw [List.getElem?_eq_none h] at he; cases he
  have ht : e.tag ≠ 1 := by rw [h0]; simp
  cases hs : e.bv t with
  | none =>
    refine look_filter _ es d fun e' he' hs' => ?_
    have hi := mem_index he' L
    rw [hl]
    split
    · rename_i hk
      rw [hk, he] at hi
      cases hi
      rw [hs] at hs'; cases hs'
    · rfl
  | some v =>
    have hw : t ∈ e.r.wB := by
      rw [((L.fact _ _ he).ok ht).wB h0]
      exact (bv_some (by rw [hs]; rfl)).2
    have h1 : look (En.bv t) (listedOf lst' es) d = look (En.bv t) (es.take (j + 1)) d := by
      rw [L.take (j + 1)]
      refine look_filter _ es d fun e' he' hs' => ?_
      have hi := mem_index he' L
      obtain ⟨h0', h1'⟩ := bv_some hs'
      rw [hl]
      by_cases hk : e'.r.i = j
      · rw [if_pos hk, hk]; simp
      · rw [if_neg hk, L.order D he hj ht hed hi (by rw [h0']; simp) hk (.inr ⟨t, by rw [((L.fact _ _ hi).ok (by rw [h0']; simp)).wB h0']; exact h1', .inr hw⟩)]
        exact decide_eq_decide.2 ⟨fun h => by omega, fun h => by omega⟩
    rw [h1, List.take_succ_eq_append_getElem hlt, look_snoc]
    rw [List.getElem?_eq_getElem hlt] at he
    rw [Option.some.inj he, hs]
    rfl

end Go.Ab
end

section
/-! Regions that draw their order: sound. -/
set_option autoImplicit false
set_option linter.unusedVariables false
set_option linter.unusedSimpArgs false
namespace Go.Ab
variable {P : Program} {C : Cfg} {E : Ent} {g : Gh} {st : St} {a : Act} {w : World} {o : Oper}

theorem binds_any (e : Edge) : Region.binds .any e = bindsE e := by
  obtain ⟨on, ground⟩ := e
  cases ground <;> rfl

theorem wanted_of {T : Tys} (H : Rel T E g st a w) {ops : Array Oper} {b : Bool} (h : wants ops.toList st.get o = some b) : Region.wanted o (yielded ops a.tmps) = b := by
  unfold wants at h
  split at h
  · rename_i hg
    cases h
    simp [Region.wanted, hg]
  · rename_i j want hg
    have hw0 : Region.wanted o (yielded ops a.tmps) = (yielded ops a.tmps j == some want) := by simp [Region.wanted, hg]
    split at h
    · cases h
    · rename_i t ht
      have htm := H.tm t
      split at h
      · rename_i c hb
        cases h
        rw [hb] at htm
        have htm' : DRep T (rdr w g.pub) (.bool c) (a.tmps.getD t undef) := htm
        have hv : a.tmps.getD t undef = .bool c := by
          generalize a.tmps.getD t undef = v at htm'
          cases htm'; rfl
        have hlt : t < a.tmps.size := by
          rcases Nat.lt_or_ge t a.tmps.size with h1 | h1
          · exact h1
          · rw [Array.getD_eq_getD_getElem?, Array.getElem?_eq_none h1] at hv; cases hv
        have hy : yielded ops a.tmps j = some c := by rw [tmp_get ht hlt, hv]
        rw [hw0, hy]; cases c <;> cases want <;> rfl
      · rename_i hb
        cases h
        rw [hb] at htm
        obtain ⟨vs, hv, _⟩ := htm
        have hy : yielded ops a.tmps j = none := by
          rcases Nat.lt_or_ge t a.tmps.size with h1 | h1
          · rw [tmp_get ht h1, hv]
          · have h' : (ops[j]?).bind (·.dst) = some t := by rw [← ht]; simp
            simp only [yielded, h', Option.bind_some, Array.getElem?_eq_none h1]
        rw [hw0, hy]; rfl
      · cases h

theorem wants_congr {all : List Oper} {get get' : Nat → AV} (h : ∀ t, t ∈ guardT all o → get' t = get t) : wants all get' o = wants all get o := by
  unfold wants
  unfold guardT at h
  split
  · rfl
  · rename_i j want hg
    rw [hg] at h
    simp only at h
    split
    · rfl
    · rename_i t ht
      rw [ht] at h
      rw [h t (by simp)]

theorem Rel.drawn {T : Tys} (H : Rel T E g st a w) (n : Nat) : Rel T E g st a { w with drawn := n } :=
  ⟨H.tm, H.bx, H.ex, H.hp, H.pb, H.p0, H.keep, H.wo, H.sz, H.al, H.pr, H.prb, H.xt, H.df, H.ns⟩

theorem getD_setB (l : Array Bool) (i k : Nat) (h : i < l.size) : (l.setIfInBounds i true).getD k false = if k = i then true else l.getD k false := by
  rw [Array.getD_eq_getD_getElem?, Array.getD_eq_getD_getElem?, Array.getElem?_setIfInBounds]
  by_cases e : i = k
  · subst e; simp [h]
  · rw [if_neg e, if_neg (fun h => e h.symm)]

variable {owns : List Nat} {vals : List AV} {pan : Option (Nat × Dat)} {es : List En} {st0 : St}

theorem any_order (K : Ok P C E) {r : Res} {k : St → Out} {ops : Array Oper} {Q : Exit → Act → World → Prop} (L : Plans C ops.toList owns vals pan es st0)
    (hend : (pan = none → k (runE es st0) = some r) ∧ ∀ p v, pan = some (p, v) → r = .panic v)
    (hn : ∀ g' st' a' w', Rel C.ty E g' st' a' w' → k st' = some r → Q .normal a' w')
    (hp : ∀ d pub' a' w' vv, r = .panic d → a'.defers = [] → Fr E pub' w' → DRep C.ty (rdr w' pub') d vv → Q (.panic [{ v := vv, recovered := false }]) a' w') :
    ∀ (fuel : Nat) (todo : List Nat) (listed : Array Bool) (g : Gh) (s : St) (a : Act) (w : World), listed.size = ops.size → todo.length ≤ fuel → (∀ j, j < ops.size → listed.getD j false = false → j ∈ todo) →
      Down es (fun j => listed.getD j false) → (∀ p v, pan = some (p, v) → listed.getD p false = false) →
      (∀ t, s.get t = look (En.tv t) (listedOf (fun j => listed.getD j false) es) (st0.get t)) → (∀ id, s.box id = look (En.bv id) (listedOf (fun j => listed.getD j false) es) (st0.box id)) →
      Rel C.ty E g s a w → wpAny P .any ops Q fuel listed a w := by
  have hlen : es.length = ops.size := by rw [L.len]; simp
  have fin : ∀ (listed : Array Bool) (g : Gh) (s : St) (a : Act) (w : World), listed.size = ops.size → (∀ p v, pan = some (p, v) → listed.getD p false = false) →
      (∀ t, s.get t = look (En.tv t) (listedOf (fun j => listed.getD j false) es) (st0.get t)) → (∀ id, s.box id = look (En.bv id) (listedOf (fun j => listed.getD j false) es) (st0.box id)) →
      Rel C.ty E g s a w → Region.ready .any ops listed = [] → Q .normal a w := by
    intro listed g s a w hsz hpan hg hb H hr
    have hall : ∀ j, j < ops.size → listed.getD j false = true := by
      intro j
      induction j using Nat.strongRecOn with
      | ind j ih =>
        intro hj
        cases hl : listed.getD j false with
        | true => rfl
        | false =>
          exfalso
          have hes : j < es.length := by omega
          have F := L.fact j _ (List.getElem?_eq_getElem hes)
          have hmem : j ∈ Region.ready .any ops listed := by
            refine mem_ready.2 ⟨?_, es[j].o, ?_, fun ed hed hbd => ?_⟩
            · rw [Array.getD_eq_getD_getElem?, Array.getElem?_eq_getElem (by omega)] at hl ⊢
              exact hl
            · have := F.o
              rwa [Array.getElem?_toList] at this
            · rw [binds_any] at hbd
              have hlt := F.edge ed (Array.mem_toList_iff.2 hed) hbd
              exact ih ed.on hlt (by omega)
          rw [hr] at hmem
          cases hmem
    have hfull : listedOf (fun j => listed.getD j false) es = es := by
      unfold listedOf
      rw [List.filter_eq_self]
      intro e he
      have hi := mem_index he L
      refine hall _ ?_
      rcases Nat.lt_or_ge e.r.i es.length with h | h
      · omega
      · rw [List.getElem?_eq_none h] at hi; cases hi
    cases pan with
    | some pv =>
      obtain ⟨e, h1, h2⟩ := L.pan pv.1 pv.2 rfl
      have hlt : pv.1 < es.length := by
        rcases Nat.lt_or_ge pv.1 es.length with h | h
        · exact h
        · rw [List.getElem?_eq_none h] at h1; cases h1
      have := hpan pv.1 pv.2 rfl
      rw [hall pv.1 (by omega)] at this
      cases this
    | none =>
      obtain ⟨t1, t2⟩ := L.text es.length (Nat.le_refl _)
      rw [List.take_length] at t1 t2
      refine hn g (runE es st0) a w (H.congr (fun t => ?_) fun id => ?_) (hend.1 rfl)
      · rw [t1, hg, hfull]
      · rw [t2, hb, hfull]
  intro fuel
  induction fuel with
  | zero =>
    intro todo listed g s a w hsz htodo hun hdn hpan hg hb H
    have hr : Region.ready .any ops listed = [] := by
      rw [List.eq_nil_iff_forall_not_mem]
      intro i hi
      obtain ⟨h1, o, h2, h3⟩ := mem_ready.1 hi
      have hlt : i < ops.size := (Array.getElem?_eq_some_iff.1 h2).1
      have := hun i hlt (by
        rw [Array.getD_eq_getD_getElem?, Array.getElem?_eq_getElem (by omega)] at h1 ⊢
        exact h1)
      rw [List.length_eq_zero_iff.1 (by omega : todo.length = 0)] at this
      cases this
    exact ⟨hr, fin listed g s a w hsz hpan hg hb H hr⟩
  | succ fuel ih =>
    intro todo listed g s a w hsz htodo hun hdn hpan hg hb H
    refine ⟨fin listed g s a w hsz hpan hg hb H, fun i hi => ?_⟩
    obtain ⟨h1, o, h2, h3⟩ := mem_ready.1 hi
    have hlt : i < ops.size := (Array.getElem?_eq_some_iff.1 h2).1
    have hj : listed.getD i false = false := by
      rw [Array.getD_eq_getD_getElem?, Array.getElem?_eq_getElem (by omega)] at h1 ⊢
      exact h1
    have hes : i < es.length := by omega
    obtain ⟨e, he⟩ : ∃ e, es[i]? = some e := ⟨es[i], List.getElem?_eq_getElem hes⟩
    have F := L.fact i e he
    have ho : e.o = o := by
      have := F.o
      rw [Array.getElem?_toList, h2] at this
      exact (Option.some.inj this).symm
    subst ho
    have hed : ∀ ed ∈ e.o.after.toList, bindsE ed = true → listed.getD ed.on false = true := fun ed h hbd => h3 ed (Array.mem_toList_iff.1 h) (by rw [binds_any]; exact hbd)
    have htag : e.tag ≠ 1 := fun h => by
      obtain ⟨p, v, q1, q2⟩ := F.dead h
      have := L.anc hdn i e he hed p q2
      rw [show listed.getD p false = false from hpan p v q1] at this
      cases this
    have Ek := F.ok htag
    obtain ⟨t1, t2⟩ := L.text i (by omega)
    have agT : ∀ t, t ∈ e.r.rT ∨ t ∈ e.r.wT → s.get t = (runE (es.take i) st0).get t := fun t ht => by
      rw [hg, t1]
      exact L.agreeT hdn he hj htag hed ht _
    have agB : ∀ t, t ∈ e.r.rB → s.box t = (runE (es.take i) st0).box t := fun t ht => by
      rw [hb, t2]
      exact L.agreeB hdn he hj htag hed (.inl ht) _
    have hcg : ∀ {R : Type} (fail : R) (kp : Dat → R) (kk : Eff → R), evOp C fail kp s.get s.box e.o kk = evOp C fail kp (runE (es.take i) st0).get (runE (es.take i) st0).box e.o kk := fun fail kp kk =>
      Cg.ev_congr ⟨fun t ht => agT t (.inl (Ek.rT htag t (.inr ht))), fun id hid => agB id (Ek.rB htag id hid)⟩
    have hwants : wants ops.toList s.get e.o = wants ops.toList (runE (es.take i) st0).get e.o := wants_congr fun t ht => agT t (.inl (Ek.rT htag t (.inl ht)))
    -- what follows
    have next : e.tag = 0 → ∀ g' a' w', Rel C.ty E g' (e.f.app e.o.dst s) a' w' → wpAny P .any ops Q fuel (listed.setIfInBounds i true) a' w' := fun h0 g' a' w' H' => by
      have hi' : i < listed.size := by omega
      have hl : ∀ k, (listed.setIfInBounds i true).getD k false = if k = i then true else listed.getD k false := fun k => getD_setB listed i k hi'
      have hv : ∀ u, VOk owns (s.get u) := fun u => by
        rw [hg]
        exact look_VOk _ _ (fun e he => L.vok (List.mem_filter.1 he).1) (L.s0 u)
      have hws := getA_ws (Ek.dst h0).2 fun t ht ho u => hv u t (Ek.ow h0 t ht (by rw [← agT t (.inr (by rw [Ek.wT h0]; exact ht))]; exact ho))
      refine ih (todo.erase i) _ g' _ a' w' (by simpa using hsz) ?_ (fun j hj' hu => ?_) ⟨fun k e' he' hk ed hed' hbd => ?_⟩ (fun p v hp' => ?_) (fun t => ?_) (fun id => ?_) H'
      · rw [List.length_erase_of_mem (hun i hlt hj)]; omega
      · rw [hl] at hu
        split at hu
        · cases hu
        · rename_i hne
          exact (List.mem_erase_of_ne hne).2 (hun j hj' hu)
      · show (listed.setIfInBounds i true).getD ed.on false = true
        have hk : (listed.setIfInBounds i true).getD k false = true := hk
        rw [hl] at hk ⊢
        split
        · rfl
        · split at hk
          · rename_i hki
            subst hki
            rw [he] at he'; cases he'
            exact hed ed hed' hbd
          · exact hdn.dc k e' he' hk ed hed' hbd
      · rw [hl, if_neg ?_]
        · exact hpan p v hp'
        · intro hpi
          subst hpi
          obtain ⟨e', q1, q2⟩ := L.pan p v hp'
          rw [he] at q1; cases q1
          rw [h0] at q2; cases q2
      · rw [hws, hg, L.moreT hdn he hj h0 hed hl, tv_live h0]
      · rw [box_app, hb, L.moreB hdn he hj h0 hed hl, bv_live h0]
    unfold wpOp
    simp only [h2]
    rcases F.tag with h0 | h0 | h0
    · rcases Ek.run h0 with ⟨hw, hev⟩ | ⟨hw, hf⟩
      · rw [wanted_of H (by rw [hwants]; exact hw), if_pos rfl]
        left
        have hev' : evOp C (R := One) none (fun v => some (.inr v)) s.get s.box e.o (fun f => some (.inl f)) = some (.inl e.f) := by rw [hcg]; exact hev
        rcases ev_any (P := P) K.hT K.hM K.hbind K.hCD K.hCI H hev' (by simp) with ⟨f, hf, hnx⟩ | ⟨v, hv, _⟩
        · cases hf
          exact hnx _ _ (by rw [K.hn]; exact (Ek.dst h0).1) fun g' a' w' H' => next h0 g' a' w' H'
        · cases hv
      · rw [wanted_of H (by rw [hwants]; exact hw), if_neg (by simp)]
        refine next h0 g _ w ?_
        rw [hf]
        have hd := (Ek.dst h0).1
        rw [hf] at hd
        exact H.putDst (v := .tup []) (by rw [K.hn]; exact hd) ⟨#[], rfl, rfl, fun j hj => by simp at hj, fun x hx => by cases hx⟩ rfl (fun id hid => by cases hid) fun u hu => by cases hu
    · exact absurd h0 htag
    · obtain ⟨hw, hev⟩ := Ek.pan h0
      rw [wanted_of H (by rw [hwants]; exact hw), if_pos rfl]
      left
      have hev' : evOp C (R := One) none (fun v => some (.inr v)) s.get s.box e.o (fun f => some (.inl f)) = some (.inr e.v) := by rw [hcg]; exact hev
      rcases ev_any (P := P) K.hT K.hM K.hbind K.hCD K.hCI H hev' (by simp) with ⟨f, hf, _⟩ | ⟨v, hv, hpn⟩
      · cases hf
      · cases hv
        have hpp := F.pan h0
        exact hpn _ _ fun pub' a' w' vv q1 q2 q3 => hp e.v pub' a' w' vv (hend.2 _ _ hpp) q1 q2 q3

/-- A region that draws its order. -/
theorem draw_sound (K : Ok P C E) (hm : P.follows .mixedOrders = true) {r : Res} {id : Nat} {ops : Array Oper} {k : St → Out} {Q : Exit → Act → World → Prop} (H : Rel C.ty E g st a w)
    (h : evDraw C ops.toList st.tmps ops.toList 0 [] none [] [] [] st k = some r)
    (hn : ∀ g' st' a' w', Rel C.ty E g' st' a' w' → k st' = some r → Q .normal a' w')
    (hp : ∀ d pub' a' w' vv, r = .panic d → a'.defers = [] → Fr E pub' w' → DRep C.ty (rdr w' pub') d vv → Q (.panic [{ v := vv, recovered := false }]) a' w') : (Code.region id ops true).wp P Q a w := by
  refine wp_region_any hm ?_
  obtain ⟨owns, vals, es, st', pan, _, _, q3, q4, q5⟩ := evDraw_plan K.hbind (s0 := st.tmps) ops.toList (st := st) (kn := []) (fun t b h => by cases h) h
  obtain ⟨f1, f2, f3, f4, f5⟩ := plan_facts q3 (full := es) (st0 := st) rfl (Nat.zero_le _) rfl rfl rfl fun j e hj => absurd hj (Nat.not_lt_zero _)
  unfold noLead at q4
  simp only [List.all_eq_true, Bool.and_eq_true, Bool.not_eq_true'] at q4
  have L : Plans C ops.toList owns vals pan es st :=
    { fact := fun j e he => f1 j e (Nat.zero_le _) he, len := f3, lead := fun v hv t ht => (q4 t ht).2 v hv
      s0 := fun t u hu => by
        rcases getA_mem (t := t) (l := st.tmps) with h | h
        · rw [show st.get t = .undef from h]; rfl
        · exact (q4 u hu).1 _ h
      pan := fun p v hp' => by
        rcases f5 p v hp' with h | h
        · cases h
        · exact h }
  have hnone : ∀ j, (Array.replicate ops.size false).getD j false = false := fun j => by
    rw [Array.getD_eq_getD_getElem?, Array.getElem?_replicate]
    split <;> rfl
  have hl0 : listedOf (fun j => (Array.replicate ops.size false).getD j false) es = [] := by
    unfold listedOf
    rw [List.filter_eq_nil_iff]
    intro e _
    show ¬ (Array.replicate ops.size false).getD e.r.i false = true
    rw [hnone]; simp
  refine any_order K L ⟨fun hp0 => by rw [hp0] at q5; rw [← f2]; exact q5, fun p v hp0 => by rw [hp0] at q5; exact q5⟩ hn hp ops.size (List.range ops.size) _ g st a _ (by simp) (by simp) (fun j hj _ => by simpa using hj) ⟨fun k e _ hk => ?_⟩ (fun p v _ => hnone p) (fun t => ?_) (fun id => ?_) (H.drawn _)
  · have hk : (Array.replicate ops.size false).getD k false = true := hk
    rw [hnone] at hk; cases hk
  · rw [hl0]; rfl
  · rw [hl0]; rfl

end Go.Ab
end

section
/-! Code is sound: from any place on to the function's end. -/
set_option autoImplicit false
set_option linter.unusedVariables false
set_option linter.unusedSimpArgs false
namespace Go.Ab
variable {P : Program} {C : Cfg} {E : Ent} {g : Gh} {st : St} {a : Act} {w : World}

/-- The todo list at a place. -/
def start (c : Code) (k : List Item) : List Item :=
  match c with
  | .loop x => .code x :: .inLoop x :: k
  | c => .code c :: k

theorem fin_start {b : Frame} {R : Ending → World → Prop} {c : Code} {k : List Item} (h : Fin P b R (start c k) a w) : Fin P b R (.code c :: k) a w := by
  cases c <;> first | exact h | exact h.step fun cs => step_loop

/-- What is asked where code is run: the function, its frame, what places give. -/
structure OkC (P : Program) (C : Cfg) (E : Ent) (fn : Func) (body : Code) (b : Frame) (R : Ending → World → Prop) (r : Res) : Prop extends Ok P C E where
  hf : P.funcs[b.fn]? = some fn
  hk : b.kind = .normal
  hR : ∀ d pub' w' vv, r = .panic d → Fr E pub' w' → DRep C.ty (rdr w' pub') d vv → R (.panicked [{ v := vv, recovered := false }]) w'
  hCC : ∀ p c items, At body p c items → ∀ st, C.CC p st = some r → ∀ g a w, Rel C.ty E g st a w → Fin P b R (start c items) a w
  hnx : E.nx ≤ 1000
  hmix : P.follows .mixedOrders = true

theorem goPt_sound {fn : Func} {body : Code} {b : Frame} {R : Ending → World → Prop} {r : Res} (K : OkC P C E fn body b R r) {p : Nat} {c : Code} {items : List Item} (hat : At body p c items) {other : Out} (H : Rel C.ty E g st a w)
    (h : goPt C p st other = some r) (ho : other = some r → Fin P b R (start c items) a w) : Fin P b R (start c items) a w := by
  rcases goPt_cases h with ⟨l, hl, hc, h⟩ | ⟨_, h⟩
  · obtain ⟨g', H'⟩ := norm_rel H K.hnx hc
    exact K.hCC p c items hat _ h g' a w H'
  · exact ho h

def exOf : Ex → Exit
  | .normal => .normal
  | .exit id => .exit id
  | .ret => .ret

theorem region_sound {fn : Func} {body : Code} {b : Frame} {R : Ending → World → Prop} {r : Res} (K : OkC P C E fn body b R r) {id : Nat} {ops : Array Oper} {draw : Bool} {items : List Item} (H : Rel C.ty E g st a w) {k : Ab.K}
    (h : cond draw (evDraw C ops.toList st.tmps ops.toList 0 [] none [] [] [] st (k .normal)) (evOps C ops.toList ops.toList st (k .normal)) = some r) (hk : ∀ e st' g' a' w', Rel C.ty E g' st' a' w' → k e st' = some r → FinX P fn b R items (exOf e) a' w') : Fin P b R (.code (.region id ops draw) :: items) a w := by
  refine fin_of_wp K.hf K.hk ?_
  have hp : ∀ d pub' a' w' vv, r = .panic d → a'.defers = [] → Fr E pub' w' → DRep C.ty (rdr w' pub') d vv → FinX P fn b R items (.panic [{ v := vv, recovered := false }]) a' w' := fun d pub' a' w' vv h1 h2 h3 h4 => ⟨h2, K.hR d pub' w' vv h1 h3 h4⟩
  have hn : ∀ g' st' a' w', Rel C.ty E g' st' a' w' → k .normal st' = some r → FinX P fn b R items .normal a' w' := fun g' st' a' w' h1 h2 => hk .normal st' g' a' w' h1 h2
  cases draw with
  | false => exact wp_region_list (evOps_sound K.toOk hp ops.toList H h hn)
  | true => exact draw_sound K.toOk K.hmix H h hn hp

theorem step_scope' {b : Frame} {k : List Item} {cs : List Frame} {c : Code} : step P (lone (b.at a (.code (.scope c) :: k)) cs w) = .next (lone (b.at a (.code c :: .inScope c :: k)) cs w) :=
  step_lone_go (by simp [stepG, stepG.exec, Frame.at])
theorem step_inScope' {b : Frame} {k : List Item} {cs : List Frame} {c : Code} : step P (lone (b.at a (.inScope c :: k)) cs w) = .next (lone (b.at a k) cs w) :=
  step_lone_go (by simp [stepG, stepG.exec, Frame.at])

theorem sound_code {fn : Func} {body : Code} {b : Frame} {R : Ending → World → Prop} {r : Res} (K : OkC P C E fn body b R r) : ∀ (c : Code) {p : Nat} {items : List Item} {g : Gh} {st : St} {a : Act} {w : World} {k : Ab.K}, At body p c items → Rel C.ty E g st a w → evCode C c p st k = some r →
    (∀ e st' g' a' w', Rel C.ty E g' st' a' w' → k e st' = some r → FinX P fn b R items (exOf e) a' w') → Fin P b R (.code c :: items) a w := by
  intro c
  induction c with
  | skip =>
    intro p items g st a w k hat H h hk
    exact Fin.step (fun cs => step_skip) (hk .normal st g a w H h)
  | region id ops draw =>
    intro p items g st a w k hat H h hk
    exact region_sound K H h hk
  | seq x y ihx ihy =>
    intro p items g st a w k hat H h hk
    refine Fin.step (fun cs => step_seq) (ihx hat.seqL H h fun e st' g' a' w' H' h' => ?_)
    cases e with
    | normal =>
      unfold kSeq at h'
      simp only at h'
      rcases goPt_cases h' with ⟨l, hl, hc, h'⟩ | ⟨_, h'⟩
      · obtain ⟨g2, H2⟩ := norm_rel H' K.hnx hc
        exact fin_start (K.hCC _ _ _ hat.seqR _ h' g2 a' w' H2)
      · exact ihy hat.seqR H' h' hk
    | exit id => exact hk (.exit id) st' g' a' w' H' h'
    | ret => exact hk .ret st' g' a' w' H' h'
  | cond cnd x y ihx ihy =>
    intro p items g st a w k hat H h hk
    replace h : evCond cnd st (fun st => evCode C x (2 * p) st k) (fun st => evCode C y (2 * p + 1) st k) = some r := h
    unfold evCond at h
    split at h
    · rename_i t
      split at h
      · rename_i bv hb
        have hv : a.eval (.tmp t) = .bool bv := eval_bool H (x := .tmp t) hb
        have htm : DRep C.ty (rdr w g.pub) (.bool bv) (a.tmps.getD t undef) := by rw [show a.tmps.getD t undef = .bool bv from hv]; exact DRep.bool bv
        have Hb : Rel C.ty E g (st.put t (.d (.bool bv))) a w := H.put (.refl a t) htm rfl (fun id h => by cases h) (fun u h => by cases h)
        cases bv with
        | true =>
          rw [cond_true, putK_eq] at h
          exact Fin.step (fun cs => step_cond hv) (ihx hat.condT Hb h hk)
        | false =>
          rw [cond_false, putK_eq] at h
          exact Fin.step (fun cs => step_cond hv) (ihy hat.condF Hb h hk)
      · cases h
    · rename_i bv
      cases bv with
      | true => exact Fin.step (fun cs => step_cond (t := true) rfl) (ihx hat.condT H h hk)
      | false => exact Fin.step (fun cs => step_cond (t := false) rfl) (ihy hat.condF H h hk)
    · cases h
  | block id x ih =>
    intro p items g st a w k hat H h hk
    refine Fin.step (fun cs => step_block) (ih hat.block H h fun e st' g' a' w' H' h' => ?_)
    cases e with
    | normal => exact Fin.step (fun cs => step_inBlock) (hk .normal st' g' a' w' H' h')
    | exit j =>
      have h' : cond (Nat.beq j id) (k .normal st') (k (.exit j) st') = some r := h'
      by_cases hj : j = id
      · subst hj
        rw [Nat.beq_refl, cond_true] at h'
        exact ⟨items, by simp [exitTo], hk .normal st' g' a' w' H' h'⟩
      · rw [nbeq_false hj, cond_false] at h'
        obtain ⟨k', h1, h2⟩ := hk (.exit j) st' g' a' w' H' h'
        exact ⟨k', by simp only [exitTo]; rw [if_neg (by simpa using fun e => hj e.symm)]; exact h1, h2⟩
    | ret => exact hk .ret st' g' a' w' H' h'
  | loop x ih =>
    intro p items g st a w k hat H h hk
    replace h : goPt C p st none = some r := h
    exact fin_start (goPt_sound K hat H h fun h2 => by cases h2)
  | exit id =>
    intro p items g st a w k hat H h hk
    obtain ⟨k', h1, h2⟩ := hk (.exit id) st g a w H h
    exact Fin.step (fun cs => step_exit h1) h2
  | label l =>
    intro p items g st a w k hat H h hk
    exact Fin.step (fun cs => step_label) (hk .normal st g a w H h)
  | ret =>
    intro p items g st a w k hat H h hk
    exact fin_of_wp K.hf K.hk (wp_ret (hk .ret st g a w H h))
  | scope x ih =>
    intro p items g st a w k hat H h hk
    refine Fin.step (fun cs => step_scope') (ih hat.scope H h fun e st' g' a' w' H' h' => ?_)
    cases e with
    | normal => exact Fin.step (fun cs => step_inScope') (hk .normal st' g' a' w' H' h')
    | exit j => exact hk (.exit j) st' g' a' w' H' h'
    | ret => exact hk .ret st' g' a' w' H' h'
  | _ => intro p items g st a w k hat H h hk; cases h

end Go.Ab
end

section
/-! From a place inside the code on. -/
set_option autoImplicit false
set_option linter.unusedVariables false
set_option linter.unusedSimpArgs false
namespace Go.Ab
variable {P : Program} {C : Cfg} {E : Ent} {g : Gh} {st : St} {a : Act} {w : World}

theorem sound_start {fn : Func} {body : Code} {b : Frame} {R : Ending → World → Prop} {r : Res} (K : OkC P C E fn body b R r) {c : Code} {p : Nat} {items : List Item} {k : Ab.K} (hat : At body p c items) (H : Rel C.ty E g st a w) (h : evFrom C [] c p st k = some r)
    (hk : ∀ e st' g' a' w', Rel C.ty E g' st' a' w' → k e st' = some r → FinX P fn b R items (exOf e) a' w') : Fin P b R (start c items) a w := by
  cases c
  case loop x =>
    have h' : evCode C x (2 * p) st (kLoop C p k) = some r := h
    refine sound_code K x hat.loop H h' fun e st' g' a' w' H' h2 => ?_
    cases e with
    | normal =>
      have h2 : goPt C p st' none = some r := h2
      exact Fin.step (fun cs => step_inLoop) (goPt_sound K hat H' h2 fun h3 => by cases h3)
    | exit j => exact hk (.exit j) st' g' a' w' H' h2
    | ret => exact hk .ret st' g' a' w' H' h2
  all_goals exact sound_code K _ hat H h hk

theorem sound_from {fn : Func} {body : Code} {b : Frame} {R : Ending → World → Prop} {r : Res} (K : OkC P C E fn body b R r) : ∀ (bits : List Bool) {c : Code} {p : Nat} {items : List Item} {k : Ab.K}, At body p c items → Rel C.ty E g st a w → evFrom C bits c p st k = some r →
    (∀ e st' g' a' w', Rel C.ty E g' st' a' w' → k e st' = some r → FinX P fn b R items (exOf e) a' w') → ∃ c' items', At body (pathOf bits p) c' items' ∧ Fin P b R (start c' items') a w
  | [], c, p, items, k, hat, H, h, hk => ⟨c, items, hat, sound_start K hat H h hk⟩
  | bit :: bs, c, p, items, k, hat, H, h, hk => by
    cases c <;> cases bit <;> try (cases h; done)
    case seq.false x y =>
      refine sound_from K bs hat.seqL H h fun e st' g' a' w' H' h' => ?_
      cases e with
      | normal =>
        have h' : goPt C (2 * p + 1) st' (evCode C y (2 * p + 1) st' k) = some r := h'
        rcases goPt_cases h' with ⟨l, hl, hc, h'⟩ | ⟨_, h'⟩
        · obtain ⟨g2, H2⟩ := norm_rel H' K.hnx hc
          exact fin_start (K.hCC _ _ _ hat.seqR _ h' g2 a' w' H2)
        · exact sound_code K y hat.seqR H' h' hk
      | exit id => exact hk (.exit id) st' g' a' w' H' h'
      | ret => exact hk .ret st' g' a' w' H' h'
    case seq.true x y => exact sound_from K bs hat.seqR H h hk
    case cond.false cnd x y => exact sound_from K bs hat.condT H h hk
    case cond.true cnd x y => exact sound_from K bs hat.condF H h hk
    case block.false id x =>
      refine sound_from K bs hat.block H h fun e st' g' a' w' H' h' => ?_
      cases e with
      | normal => exact Fin.step (fun cs => step_inBlock) (hk .normal st' g' a' w' H' h')
      | exit j =>
        have h' : cond (Nat.beq j id) (k .normal st') (k (.exit j) st') = some r := h'
        by_cases hj : j = id
        · subst hj
          rw [Nat.beq_refl, cond_true] at h'
          exact ⟨items, by simp [exitTo], hk .normal st' g' a' w' H' h'⟩
        · rw [nbeq_false hj, cond_false] at h'
          obtain ⟨k', h1, h2⟩ := hk (.exit j) st' g' a' w' H' h'
          exact ⟨k', by simp only [exitTo]; rw [if_neg (by simpa using fun e => hj e.symm)]; exact h1, h2⟩
      | ret => exact hk .ret st' g' a' w' H' h'
    case loop.false x =>
      refine sound_from K bs hat.loop H h fun e st' g' a' w' H' h' => ?_
      cases e with
      | normal =>
        have h2 : goPt C p st' none = some r := h'
        exact Fin.step (fun cs => step_inLoop) (goPt_sound K hat H' h2 fun h3 => by cases h3)
      | exit j => exact hk (.exit j) st' g' a' w' H' h'
      | ret => exact hk .ret st' g' a' w' H' h'
    case scope.false x =>
      refine sound_from K bs hat.scope H h fun e st' g' a' w' H' h' => ?_
      cases e with
      | normal => exact Fin.step (fun cs => step_inScope') (hk .normal st' g' a' w' H' h')
      | exit j => exact hk (.exit j) st' g' a' w' H' h'
      | ret => exact hk .ret st' g' a' w' H' h'

end Go.Ab
end

section
/-! What functions give: the least answers that fit. -/
set_option autoImplicit false
set_option linter.unusedVariables false
set_option linter.unusedSimpArgs false
namespace Go.Ab

/-- A question: a call; the rest of a function from a place on. -/
inductive Key where
  | call (f : FuncId) (args : List AV) (xs : List (List AV))
  | pt (f : FuncId) (xs : List (List AV)) (p : Nat) (st : St)

abbrev Orc := Key → Option Res

/-- The tables of a program: types; of each function which places are kept, and which operations bear a mark; what is known of calls by other roads. -/
structure Tab where
  P : Program
  T : Tys
  live : FuncId → Nat → Option (List (Nat × Nat) × List (Nat × Nat))
  flag : FuncId → Nat → Nat
  X : FuncId → List AV → List (List AV) → Option Res

/-- What an interface value's method gives. -/
noncomputable def Tab.inv (B : Tab) (O : Orc) : TCI := fun m x args xs =>
  match x with
  | .ifc t cells => match methOf B.P t m with
    | some f => O (.call f (mkVal (B.T t).kind (coerces B.T (B.T t).cells 0 cells) :: args) xs)
    | none => none
  | _ => none

noncomputable def Tab.cfg (B : Tab) (f : FuncId) (fn : Func) (xs : List (List AV)) (O : Orc) : Cfg :=
  { ty := B.T, n := fn.ntmps, CD := fun f a x => O (.call f a x), CC := fun p st => O (.pt f xs p st), CI := B.inv O, meth := methOf B.P, live := B.live f, flag := B.flag f, bind := bindR }

noncomputable def Tab.step (B : Tab) (O : Orc) : Orc
  | .call f args xs => match B.X f args xs with
    | some r => some r
    | none => match B.P.funcs[f]? with
      | some fn => evFn (B.cfg f fn (erasess xs) O) fn args xs
      | none => none
  | .pt f xs p st => match B.P.funcs[f]? with
    | some fn => evPt (B.cfg f fn xs O) fn xs p st
    | none => none

/-- What comes out does so by finitely many answers. -/
def Supp (O : Orc) (F : Orc → Out) : Prop := ∀ r, F O = some r → ∃ L : List Key, (∀ q ∈ L, (O q).isSome = true) ∧ ∀ O' : Orc, (∀ q ∈ L, O' q = O q) → F O' = some r

theorem supp_const (O : Orc) (x : Out) : Supp O fun _ => x := fun r h => ⟨[], fun q hq => (by cases hq), fun _ _ => h⟩
theorem supp_none (O : Orc) : Supp O fun _ => none := supp_const O _
theorem supp_cond {O : Orc} {b : Bool} {F G : Orc → Out} (hF : b = true → Supp O F) (hG : b = false → Supp O G) : Supp O fun O => cond b (F O) (G O) := by
  cases b with
  | true => exact hF rfl
  | false => exact hG rfl

theorem supp_ask {O : Orc} {q : Key} {F : Orc → Option Res → Out} (hN : F O none = none) (h : ∀ r, Supp O fun O => F O (some r)) : Supp O fun O => F O (O q) := fun r hr => by
  cases hq : O q with
  | none => simp only [hq, hN] at hr; cases hr
  | some x =>
    simp only [hq] at hr
    obtain ⟨L, h1, h2⟩ := h x r hr
    refine ⟨q :: L, fun q' hq' => ?_, fun O' hO' => ?_⟩
    · rcases List.mem_cons.1 hq' with rfl | h
      · rw [hq]; rfl
      · exact h1 q' h
    · show F O' (O' q) = some r
      rw [hO' q List.mem_cons_self, hq]
      exact h2 O' fun q' hq' => hO' q' (List.mem_cons_of_mem _ hq')

variable {B : Tab} {f : FuncId} {fn : Func} {xs : List (List AV)} {O : Orc}

def isCallV : Op → Bool
  | .call ⟨.value _, _, _⟩ => true
  | .call ⟨.invoke _ _, _, _⟩ => true
  | _ => false

theorem evBuiltin_same {R : Type} {fail : R} {k : Eff → R} {get : Nat → AV} {b : Builtin} {args : List Operand} {ts : List TypeId} {C C' : Cfg} (h : C.ty = C'.ty) : evBuiltin C fail get b args ts k = evBuiltin C' fail get b args ts k := by
  unfold evBuiltin; rw [h]

theorem evOp_same' {R : Type} {fail : R} {kp : Dat → R} {k : Eff → R} {get : Nat → AV} {box : Nat → Option (List AV)} {o : Oper} (h : isCallV o.op = false) {C C' : Cfg} (h1 : C.ty = C'.ty) (h2 : C.flag = C'.flag) :
    evOp C fail kp get box o k = evOp C' fail kp get box o k := by
  cases hop : o.op
  case call c =>
    obtain ⟨callee, args, ats⟩ := c
    cases callee
    case value v => rw [hop] at h; cases h
    case builtin b => unfold evOp; simp only [hop]; exact evBuiltin_same h1
    case invoke r m => rw [hop] at h; cases h
  case makeFunc fn first caps => cases fn <;> unfold evOp <;> simp only [hop]
  case makeMap t r => cases r <;> unfold evOp <;> simp only [hop]; first | done | (rw [h1]; done)
  case next x q => cases q <;> unfold evOp <;> simp only [hop]
  all_goals (unfold evOp; simp only [hop]; first | done | (rw [h1]; done) | (rw [h1, h2]; done) | (rw [h2]; done) | skip)

theorem evOp_same {R : Type} {fail : R} {kp : Dat → R} {k : Eff → R} {get : Nat → AV} {box : Nat → Option (List AV)} {o : Oper} (h : isCallV o.op = false) (O O' : Orc) :
    evOp (B.cfg f fn xs O) fail kp get box o k = evOp (B.cfg f fn xs O') fail kp get box o k := evOp_same' h rfl rfl

theorem supp_bind {own : Bool} {ts : List TypeId} {olds : List (List AV)} {q : Key} {kp : Orc → Dat → Out} {k : Orc → List Dat → List (List (Dat × Bool)) → Out} (hk : ∀ rs xs, Supp O fun O => k O rs xs) (hp : ∀ v, Supp O fun O => kp O v) :
    Supp O fun O => bindR Out none own ts olds (kp O) (k O) (O q) := by
  refine supp_ask (q := q) (F := fun O x => bindR Out none own ts olds (kp O) (k O) x) rfl fun r => ?_
  cases r with
  | ret ow ts' rs ys => exact supp_cond (fun _ => hk _ _) fun _ => supp_none O
  | panic v => exact hp v

theorem supp_bindD {own : Bool} {ts : List TypeId} {olds : List (List AV)} {X : Orc → Option Res} (hX : (∃ q, ∀ O, X O = O q) ∨ ∀ O, X O = none) {kp : Orc → Dat → Out} {k : Orc → List Dat → List (List (Dat × Bool)) → Out} (hk : ∀ rs xs, Supp O fun O => k O rs xs) (hp : ∀ v, Supp O fun O => kp O v) :
    Supp O fun O => bindR Out none own ts olds (kp O) (k O) (X O) := by
  rcases hX with ⟨q, hq⟩ | hn
  · simp only [hq]; exact supp_bind hk hp
  · simp only [hn]; exact supp_none O

theorem evCallG_cfg {kp : Dat → Out} {k : Eff → Out} {box : Nat → Option (List AV)} {fl : Nat} {t : TypeId} {D : List AV → List (List AV) → Option Res} {args : List AV} {tw : List (Nat × AV)} :
    evCallG (B.cfg f fn xs O) none kp box fl t D args tw k =
      cond (closedIn (reach box 4 (addIds (idsOfs args) [])) ((reach box 4 (addIds (idsOfs args) [])).map fun id => (box id).getD []) && args.all noRow && (B.T t).kind.some)
        (bindR Out none (Nat.beq fl 3) (resTys B.T t) ((reach box 4 (addIds (idsOfs args) [])).map fun id => (box id).getD []) kp
          (fun rs xs => evBack none fl xs (reach box 4 (addIds (idsOfs args) [])) ((reach box 4 (addIds (idsOfs args) [])).map fun id => (box id).getD []) fun bw => k { v := resVal B.T (Nat.beq fl 3) t rs, tw := tw, bw := bw })
          (D (renames (reach box 4 (addIds (idsOfs args) [])) args) (((reach box 4 (addIds (idsOfs args) [])).map fun id => (box id).getD []).map (renames (reach box 4 (addIds (idsOfs args) [])))))) none := rfl

theorem supp_evCallG {kp : Orc → Dat → Out} {k : Orc → Eff → Out} {box : Nat → Option (List AV)} {fl : Nat} {t : TypeId} {D : Orc → List AV → List (List AV) → Option Res} (hD : ∀ a x, (∃ q, ∀ O, D O a x = O q) ∨ ∀ O, D O a x = none) {args : List AV} {tw : List (Nat × AV)}
    (hk : ∀ e, Supp O fun O => k O e) (hp : ∀ v, Supp O fun O => kp O v) : Supp O fun O => evCallG (B.cfg f fn xs O) none (kp O) box fl t (D O) args tw (k O) := by
  simp only [evCallG_cfg]
  exact supp_cond (fun _ => supp_bindD (hD _ _) (fun rs xs => supp_cond (fun _ => supp_cond (fun _ => hk _) fun _ => supp_none O) fun _ => hk _) hp) fun _ => supp_none O

theorem supp_evCall {kp : Orc → Dat → Out} {k : Orc → Eff → Out} {box : Nat → Option (List AV)} {fl : Nat} {t : TypeId} {g : FuncId} {args : List AV} {tw : List (Nat × AV)}
    (hk : ∀ e, Supp O fun O => k O e) (hp : ∀ v, Supp O fun O => kp O v) : Supp O fun O => evCall (B.cfg f fn xs O) none (kp O) box fl t g args tw (k O) :=
  supp_evCallG (D := fun O a x => O (.call g a x)) (fun a x => .inl ⟨.call g a x, fun _ => rfl⟩) hk hp

theorem inv_ask (m : String) (x : Dat) (a : List AV) (xs : List (List AV)) : (∃ q, ∀ O, B.inv O m x a xs = O q) ∨ ∀ O, B.inv O m x a xs = none := by
  cases x <;> try (exact .inr fun _ => rfl)
  rename_i t cells
  cases h : methOf B.P t m with
  | none => right; intro O; simp [Tab.inv, h]
  | some f => left; exact ⟨.call f (mkVal (B.T t).kind (coerces B.T (B.T t).cells 0 cells) :: a) xs, fun O => by simp [Tab.inv, h]⟩

theorem evOp_invoke {C : Cfg} {R : Type} {fail : R} {kp : Dat → R} {k : Eff → R} {get : Nat → AV} {box : Nat → Option (List AV)} {o : Oper} {r : Operand} {m : String} {args : Array Operand} {ats : Array TypeId} (hop : o.op = .call ⟨.invoke r m, args, ats⟩) :
    evOp C fail kp get box o k = match operand get r with
    | .ifc t x => match C.meth t m with
      | some f => evCall C fail kp box (match o.dst with | some d => C.flag d | none => 0) o.type f (x :: views get args.toList) (pubss get args.toList) k
      | none => fail
    | .d x => evCallG C fail kp box (match o.dst with | some d => C.flag d | none => 0) o.type (C.CI m x) (views get args.toList) (pubss get args.toList) k
    | _ => fail := by
  unfold evOp
  simp only [hop]
  cases operand get r <;> rfl

theorem evOp_call {C : Cfg} {R : Type} {fail : R} {kp : Dat → R} {k : Eff → R} {get : Nat → AV} {box : Nat → Option (List AV)} {o : Oper} {fv : Operand} {args : Array Operand} {ats : Array TypeId} (hop : o.op = .call ⟨.value fv, args, ats⟩) :
    evOp C fail kp get box o k = match operand get fv with
    | .fn f caps => evCall C fail kp box (match o.dst with | some d => C.flag d | none => 0) o.type f (views get args.toList ++ caps) (pubss get args.toList) k
    | .d x => cond x.isFn (evCallG C fail kp box (match o.dst with | some d => C.flag d | none => 0) o.type (C.CD x.fid) (views get args.toList ++ x.fcaps.map capAV) (pubss get args.toList) k) fail
    | _ => fail := by
  unfold evOp
  simp only [hop, evCallC_eq]
  cases operand get fv <;> rfl

theorem supp_evOp {kp : Orc → Dat → Out} {k : Orc → Eff → Out} {get : Nat → AV} {box : Nat → Option (List AV)} {o : Oper}
    (hk : ∀ e, Supp O fun O => k O e) (hp : ∀ v, Supp O fun O => kp O v) : Supp O fun O => evOp (B.cfg f fn xs O) none (kp O) get box o (k O) := by
  cases h : isCallV o.op with
  | false =>
    have e : ∀ O', evOp (B.cfg f fn xs O') none (kp O') get box o (k O') = (ev1 (B.cfg f fn xs O) get box o).elim none (kp O') (k O') := fun O' => by
      rw [ev_free (C := B.cfg f fn xs O') rfl]
      have : ev1 (B.cfg f fn xs O') get box o = ev1 (B.cfg f fn xs O) get box o := evOp_same h O' O
      rw [this]
    simp only [e]
    cases ev1 (B.cfg f fn xs O) get box o with
    | none => exact supp_none O
    | some x => cases x with
      | inl ef => exact hk ef
      | inr v => exact hp v
  | true =>
    cases hop : o.op <;> rw [hop] at h <;> try (cases h; done)
    rename_i c
    obtain ⟨callee, args, ats⟩ := c
    cases callee <;> try (cases h; done)
    case invoke r m =>
      simp only [evOp_invoke hop]
      cases operand get r with
      | ifc t x =>
        show Supp O fun O => match methOf B.P t m with
          | some g => evCall (B.cfg f fn xs O) none (kp O) box (match o.dst with | some d => B.flag f d | none => 0) o.type g (x :: views get args.toList) (pubss get args.toList) (k O)
          | none => none
        cases methOf B.P t m with
        | none => exact supp_none O
        | some g => exact supp_evCall hk hp
      | d x =>
        show Supp O fun O => evCallG (B.cfg f fn xs O) none (kp O) box (match o.dst with | some d => B.flag f d | none => 0) o.type (B.inv O m x) (views get args.toList) (pubss get args.toList) (k O)
        exact supp_evCallG (D := fun O => B.inv O m x) (fun a xs => inv_ask m x a xs) hk hp
      | _ => show Supp O fun O => none; exact supp_none O
    simp only [evOp_call hop]
    cases operand get _ with
    | fn g caps =>
      show Supp O fun O => evCall (B.cfg f fn xs O) none (kp O) box (match o.dst with | some d => B.flag f d | none => 0) o.type g _ _ (k O)
      exact supp_evCall hk hp
    | d x =>
      show Supp O fun O => cond x.isFn (evCall (B.cfg f fn xs O) none (kp O) box (match o.dst with | some d => B.flag f d | none => 0) o.type x.fid _ _ (k O)) none
      refine supp_cond (F := fun O => evCall (B.cfg f fn xs O) none (kp O) box (match o.dst with | some d => B.flag f d | none => 0) o.type x.fid _ _ (k O)) (G := fun _ => none) (fun _ => ?_) fun _ => supp_none O
      exact supp_evCall hk hp
    | _ => show Supp O fun O => none; exact supp_none O

theorem supp_app {k : Orc → St → Out} {e : Eff} {dst : Option Nat} {st : St} (hk : ∀ st, Supp O fun O => k O st) : Supp O fun O => e.appK dst st (k O) := by
  simp only [appK_eq]; exact hk _

theorem supp_oper {all : List Oper} {o : Oper} {st : St} {k : Orc → St → Out} (hk : ∀ st, Supp O fun O => k O st) : Supp O fun O => evOper (B.cfg f fn xs O) all o st (k O) := by
  have hrun' : ∀ st, Supp O fun O => evOp (B.cfg f fn xs O) none (fun v => some (.panic v)) st.get st.box o fun e => cond (dstOk (B.cfg f fn xs O).n o.dst e.v) (e.appK o.dst st (k O)) none := fun st => by
    refine supp_evOp (fun e => ?_) fun v => supp_const O _
    exact supp_cond (fun _ => supp_app hk) fun _ => supp_none O
  have hskip : ∀ st, Supp O fun O => cond (dstOk (B.cfg f fn xs O).n o.dst (.tup [])) ((Eff.mk (.tup []) [] [] []).appK o.dst st (k O)) none := fun st =>
    supp_cond (fun _ => supp_app hk) fun _ => supp_none O
  unfold evOper
  simp only
  split
  · exact hrun' st
  · rename_i j want _
    split
    · exact supp_none O
    · split
      · simp only [putK_eq]
        exact supp_cond (fun _ => supp_cond (fun _ => hrun' _) fun _ => hskip _) fun _ => supp_cond (fun _ => hskip _) fun _ => hrun' _
      · exact hskip st
      · exact supp_none O

theorem supp_ops {all : List Oper} : ∀ (l : List Oper) {st : St} {k : Orc → St → Out}, (∀ st, Supp O fun O => k O st) → Supp O fun O => evOps (B.cfg f fn xs O) all l st (k O)
  | [], st, k, hk => hk st
  | o :: l, st, k, hk => by
    show Supp O fun O => evOper (B.cfg f fn xs O) all o st fun st => evOps (B.cfg f fn xs O) all l st (k O)
    exact supp_oper fun st => supp_ops l hk

theorem supp_drawStep {o : Oper} {ih : Orc → DrawK} {i : Nat} {recs : List Rec} {pan : Option (Nat × Dat)} {owns : List Nat} {vals : List AV} {st : St} {k : Orc → St → Out} {gT : List Nat} {kn : List (Nat × Bool)} {e : Eff}
    (hi : ∀ i recs pan owns vals kn st, Supp O fun O => ih O i recs pan owns vals kn st (k O)) : Supp O fun O => drawStep (B.cfg f fn xs O) o (ih O) i recs pan owns vals st (k O) gT kn e := by
  simp only [drawStep_eq, appK_eq]
  exact supp_cond (fun _ => hi _ _ _ _ _ _ _) fun _ => supp_none O

theorem supp_drawRun {o : Oper} {ih : Orc → DrawK} {i : Nat} {recs : List Rec} {pan : Option (Nat × Dat)} {owns : List Nat} {vals : List AV} {st : St} {k : Orc → St → Out} {gT : List Nat} {kn : List (Nat × Bool)}
    (hi : ∀ i recs pan owns vals kn st, Supp O fun O => ih O i recs pan owns vals kn st (k O)) : Supp O fun O => drawRun (B.cfg f fn xs O) o (ih O) i recs pan owns vals st (k O) gT kn := by
  unfold drawRun
  refine supp_evOp (fun e => supp_drawStep hi) fun v => ?_
  cases pan with
  | some pv => exact supp_none O
  | none => exact supp_cond (fun _ => hi _ _ _ _ _ _ _) fun _ => supp_none O

theorem supp_draw {all : List Oper} {s0 : List (Nat × AV)} {k : Orc → St → Out} (hk : ∀ st, Supp O fun O => k O st) : ∀ (l : List Oper) (i : Nat) (recs : List Rec) (pan : Option (Nat × Dat)) (owns : List Nat) (vals : List AV) (kn : List (Nat × Bool)) (st : St),
    Supp O fun O => evDraw (B.cfg f fn xs O) all s0 l i recs pan owns vals kn st (k O)
  | [], i, recs, pan, owns, vals, kn, st => by
    show Supp O fun O => drawNil s0 i recs pan owns vals kn st (k O)
    unfold drawNil
    refine supp_cond (fun _ => ?_) fun _ => supp_none O
    cases pan with
    | none => exact hk st
    | some pv => exact supp_const O _
  | o :: l, i, recs, pan, owns, vals, kn, st => by
    have ih := supp_draw (all := all) (s0 := s0) hk l
    show Supp O fun O => drawCons (B.cfg f fn xs O) all o (evDraw (B.cfg f fn xs O) all s0 l) i recs pan owns vals kn st (k O)
    unfold drawCons
    refine supp_cond (fun _ => supp_cond (fun _ => ih _ _ _ _ _ _ _) fun _ => ?_) fun _ => supp_none O
    split
    · exact supp_drawRun ih
    · split
      · exact supp_none O
      · split
        · exact supp_cond (fun _ => supp_cond (fun _ => supp_drawRun ih) fun _ => supp_drawStep ih) fun _ => supp_cond (fun _ => supp_drawStep ih) fun _ => supp_drawRun ih
        · exact supp_drawStep ih
        · exact supp_none O

theorem forceSt_eq' {R : Type} (st : St) (k : St → R) : forceSt st k = k st := by
  cases st; unfold forceSt; simp only [forceT_eq, forceB_eq]

theorem supp_goPt {p : Nat} {st : St} {other : Orc → Out} (h : Supp O other) : Supp O fun O => goPt (B.cfg f fn xs O) p st (other O) := by
  unfold goPt
  show Supp O fun O => match B.live f p with
    | some l => forceSt (norm l st) fun st => cond (closedSt st) (O (.pt f xs p st)) none
    | none => other O
  cases B.live f p with
  | none => exact h
  | some l =>
    simp only [forceSt_eq']
    refine supp_cond (fun _ => ?_) fun _ => supp_none O
    exact supp_ask (F := fun _ x => x) rfl fun r => supp_const O _

theorem supp_cond2 {c : Operand} {st : St} {x y : Orc → St → Out} (hx : ∀ st, Supp O fun O => x O st) (hy : ∀ st, Supp O fun O => y O st) : Supp O fun O => evCond c st (x O) (y O) := by
  unfold evCond
  split
  · split
    · simp only [putK_eq]
      exact supp_cond (fun _ => hx _) fun _ => hy _
    · exact supp_none O
  · exact supp_cond (fun _ => hx _) fun _ => hy _
  · exact supp_none O

theorem supp_code : ∀ (c : Code) {p : Nat} {st : St} {k : Orc → K}, (∀ e st, Supp O fun O => k O e st) → Supp O fun O => evCode (B.cfg f fn xs O) c p st (k O) := by
  intro c
  induction c with
  | skip => intro p st k hk; exact hk _ _
  | region id ops draw => intro p st k hk; exact supp_cond (fun _ => supp_draw (fun st => hk _ st) _ _ _ _ _ _ _ _) fun _ => supp_ops _ fun st => hk _ st
  | seq a b iha ihb =>
    intro p st k hk
    refine iha (k := fun O => kSeq (B.cfg f fn xs O) (2 * p + 1) (fun st => evCode (B.cfg f fn xs O) b (2 * p + 1) st (k O)) (k O)) fun e st => ?_
    cases e with
    | normal => exact supp_goPt (ihb hk)
    | exit id => exact hk _ _
    | ret => exact hk _ _
  | cond c a b iha ihb => intro p st k hk; exact supp_cond2 (fun st => iha hk) fun st => ihb hk
  | block id a ih =>
    intro p st k hk
    refine ih (k := fun O => kBlock id (k O)) fun e st => ?_
    cases e with
    | normal => exact hk _ _
    | exit j => exact supp_cond (fun _ => hk _ _) fun _ => hk _ _
    | ret => exact hk _ _
  | loop a ih => intro p st k hk; exact supp_goPt (supp_none O)
  | exit id => intro p st k hk; exact hk _ _
  | scope a ih => intro p st k hk; exact ih hk
  | label l => intro p st k hk; exact hk _ _
  | ret => intro p st k hk; exact hk _ _
  | _ => intro p st k hk; exact supp_none O

theorem supp_loopK {p : Nat} {k : Orc → K} (hk : ∀ e st, Supp O fun O => k O e st) : ∀ e st, Supp O fun O => kLoop (B.cfg f fn xs O) p (k O) e st := fun e st => by
  cases e with
  | normal => exact supp_goPt (supp_none O)
  | exit id => exact hk _ _
  | ret => exact hk _ _

theorem supp_from : ∀ (bits : List Bool) (c : Code) {p : Nat} {st : St} {k : Orc → K}, (∀ e st, Supp O fun O => k O e st) → Supp O fun O => evFrom (B.cfg f fn xs O) bits c p st (k O)
  | [], c, p, st, k, hk => by
    cases c
    case loop a => exact supp_code a (supp_loopK hk)
    all_goals exact supp_code _ hk
  | bit :: bs, c, p, st, k, hk => by
    cases c <;> cases bit <;> try exact supp_none O
    case seq.false a b =>
      refine supp_from bs a (k := fun O => kSeq (B.cfg f fn xs O) (2 * p + 1) (fun st => evCode (B.cfg f fn xs O) b (2 * p + 1) st (k O)) (k O)) fun e st => ?_
      cases e with
      | normal => exact supp_goPt (supp_code b hk)
      | exit id => exact hk _ _
      | ret => exact hk _ _
    case seq.true a b => exact supp_from bs b hk
    case cond.false c a b => exact supp_from bs a hk
    case cond.true c a b => exact supp_from bs b hk
    case block.false id a =>
      refine supp_from bs a (k := fun O => kBlock id (k O)) fun e st => ?_
      cases e with
      | normal => exact hk _ _
      | exit j => exact supp_cond (fun _ => hk _ _) fun _ => hk _ _
      | ret => exact hk _ _
    case loop.false a => exact supp_from bs a (supp_loopK hk)
    case scope.false a => exact supp_from bs a hk

theorem supp_step (q : Key) : Supp O fun O => B.step O q := by
  cases q with
  | call f args xs =>
    show Supp O fun O => match B.X f args xs with
      | some r => some r
      | none => match B.P.funcs[f]? with
        | some fn => evFn (B.cfg f fn (erasess xs) O) fn args xs
        | none => none
    cases B.X f args xs with
    | some r => exact supp_const O _
    | none =>
      cases B.P.funcs[f]? with
      | none => exact supp_none O
      | some fn =>
        simp only
        unfold evFn
        cases fn.body with
        | none => exact supp_none O
        | some c => exact supp_cond (fun _ => supp_code c fun e st => supp_const O _) fun _ => supp_none O
  | pt f xs p st =>
    show Supp O fun O => match B.P.funcs[f]? with
        | some fn => evPt (B.cfg f fn xs O) fn xs p st
        | none => none
    cases B.P.funcs[f]? with
    | none => exact supp_none O
    | some fn =>
      simp only
      unfold evPt
      cases fn.body with
      | none => exact supp_none O
      | some c => exact supp_cond (fun _ => supp_from _ c fun e st => supp_const O _) fun _ => supp_none O

/-! ### The answers -/
noncomputable def Tab.ans (B : Tab) : Nat → Orc
  | 0 => fun _ => none
  | n + 1 => B.step (B.ans n)

theorem step_mono {O O' : Orc} (h : ∀ q r, O q = some r → O' q = some r) (q : Key) (r : Res) (hq : B.step O q = some r) : B.step O' q = some r := by
  obtain ⟨L, h1, h2⟩ := supp_step q r hq
  refine h2 O' fun q' hq' => ?_
  cases hs : O q' with
  | none => have := h1 q' hq'; rw [hs] at this; cases this
  | some x => exact h q' x hs

theorem ans_succ (n : Nat) : ∀ q r, B.ans n q = some r → B.ans (n + 1) q = some r := by
  induction n with
  | zero => intro q r h; cases h
  | succ n ih => exact fun q r h => step_mono ih q r h

theorem ans_le {n m : Nat} (h : n ≤ m) : ∀ q r, B.ans n q = some r → B.ans m q = some r := by
  induction h with
  | refl => exact fun q r h => h
  | step h ih => exact fun q r hq => ans_succ _ q r (ih q r hq)

open Classical in
/-- What a question comes to at last. -/
noncomputable def Tab.sem (B : Tab) : Orc := fun q => if h : ∃ r n, B.ans n q = some r then some h.choose else none

theorem sem_of {n : Nat} {q : Key} {r : Res} (h : B.ans n q = some r) : B.sem q = some r := by
  have h0 : ∃ r n, B.ans n q = some r := ⟨r, n, h⟩
  unfold Tab.sem
  rw [dif_pos h0]
  obtain ⟨m, hm⟩ := h0.choose_spec
  have h1 := ans_le (Nat.le_max_left n m) q r h
  have h2 := ans_le (Nat.le_max_right n m) q _ hm
  rw [h1] at h2
  exact h2.symm

theorem sem_ans {q : Key} {r : Res} (h : B.sem q = some r) : ∃ n, B.ans n q = some r := by
  unfold Tab.sem at h
  split at h
  · rename_i h0
    obtain ⟨m, hm⟩ := h0.choose_spec
    rw [Option.some.inj h] at hm
    exact ⟨m, hm⟩
  · cases h

/-- An equation of a function holds of its answers. -/
theorem sem_step {q : Key} {r : Res} (h : B.step B.sem q = some r) : B.sem q = some r := by
  obtain ⟨L, h1, h2⟩ := supp_step q r h
  have : ∃ n, ∀ q ∈ L, B.ans n q = B.sem q := by
    clear h2 h
    induction L with
    | nil => exact ⟨0, fun q hq => (by cases hq)⟩
    | cons q' L ih =>
      obtain ⟨n, hn⟩ := ih fun q hq => h1 q (List.mem_cons_of_mem _ hq)
      have hs := h1 q' List.mem_cons_self
      cases hx : B.sem q' with
      | none => rw [hx] at hs; cases hs
      | some x =>
        obtain ⟨m, hm⟩ := sem_ans hx
        refine ⟨max n m, fun q hq => ?_⟩
        rcases List.mem_cons.1 hq with rfl | hq
        · rw [hx]; exact ans_le (Nat.le_max_right n m) _ _ hm
        · have h3 := hn q hq
          have h4 := h1 q (List.mem_cons_of_mem _ hq)
          cases hy : B.sem q with
          | none => rw [hy] at h4; cases h4
          | some y =>
            rw [hy] at h3
            exact ans_le (Nat.le_max_left n m) _ _ h3
  obtain ⟨n, hn⟩ := this
  exact sem_of (n := n + 1) (h2 _ hn)

end Go.Ab
end

section
set_option linter.unusedSimpArgs false
/-! What functions give is what one step from there gives. -/
set_option autoImplicit false
set_option linter.unusedVariables false
namespace Go.Ab
variable {B : Tab}

theorem sem_fix (q : Key) : B.sem q = B.step B.sem q := by
  cases h : B.sem q with
  | some r =>
    obtain ⟨n, hn⟩ := sem_ans h
    cases n with
    | zero => cases hn
    | succ n => exact (step_mono (fun q r h => sem_of h) q r hn).symm
  | none =>
    cases h' : B.step B.sem q with
    | none => rfl
    | some r =>
      have := sem_step h'
      rw [h] at this
      cases this
end Go.Ab
end

section
/-! A function's end. -/
set_option autoImplicit false
set_option linter.unusedVariables false
set_option linter.unusedSimpArgs false
namespace Go.Ab
variable {P : Program} {C : Cfg} {E : Ent} {g : Gh} {st : St} {a : Act} {w : World}

theorem headK_ok {k : TK} {x : Dat} {t f : Out} {r : Res} (hf : f = none) (h : headK k x t f = some r) : headOk k x = true ∧ t = some r := by
  subst hf
  unfold headK at h
  split at h
  · cases x <;> simp_all [Dat.isIfc, Dat.isNilI, headOk]
  · cases x <;> simp_all [Dat.isFn, Dat.isNilF, headOk]
  · exact cond_ends h (by simp)

theorem headsK_ok {T : Tys} {r : Res} : ∀ {us : List TypeId} {xs : List Dat} {t : Out}, headsK T us xs t none = some r → headsOk T us xs = true ∧ t = some r
  | [], [], t, h => ⟨rfl, h⟩
  | u :: us, x :: xs, t, h => by
    obtain ⟨h1, h2⟩ := headK_ok rfl h
    obtain ⟨h3, h4⟩ := headsK_ok h2
    exact ⟨by simp [headsOk, h1, h3], h4⟩
  | [], x :: xs, t, h => by cases h
  | u :: us, [], t, h => by cases h

/-- What the results are. -/
def ResL (T : Tys) (st : St) : List TypeId → List ResultVar → List Dat → Prop
  | [], [], rs => rs = []
  | t :: ts, .tmp u :: vs, rs => ∃ c rs', rs = c ++ rs' ∧ (T t).kind.known = true ∧ isAggA (view st.get (.tmp u)) = (T t).kind.isAgg ∧ toD T (retype (T t).kind (view st.get (.tmp u))) = some c ∧ headsOk T (T t).cells c = true ∧ ResL T st ts vs rs'
  | t :: ts, .cell u t' :: vs, rs => ∃ c rs' id cs, rs = c ++ rs' ∧ st.get u = .ptr id 0 ∧ st.box id = some cs ∧ t = t' ∧ 1000 ≤ id ∧ (T t).kind.known = true ∧ cs.length = cond (T t).kind.isAgg (T t).size 1 ∧ toDs (cs.map pubCell) = some c ∧ headsOk T (T t).cells c = true ∧ ResL T st ts vs rs'
  | _, _, _ => False

theorem resK_ok {T : Tys} {r : Res} : ∀ {ts : List TypeId} {vs : List ResultVar} {k : List Dat → Out}, resK T st ts vs k = some r → ∃ rs, ResL T st ts vs rs ∧ k rs = some r
  | [], [], k, h => ⟨[], rfl, h⟩
  | t :: ts, .tmp u :: vs, k, h => by
    unfold resK at h
    obtain ⟨hc, h⟩ := cond_ends h (by simp)
    rw [Bool.and_eq_true] at hc
    obtain ⟨hk, ha⟩ := hc
    split at h
    · rename_i c hcd
      obtain ⟨h1, h2⟩ := headsK_ok h
      obtain ⟨rs, h3, h4⟩ := resK_ok h2
      refine ⟨c ++ rs, ⟨c, rs, rfl, hk, ?_, hcd, h1, h3⟩, h4⟩
      cases hv : isAggA (view st.get (.tmp u)) <;> rw [hv] at ha <;> cases hx : (T t).kind.isAgg <;> rw [hx] at ha <;> first | rfl | cases ha
    · cases h
  | t :: ts, .cell u t' :: vs, k, h => by
    unfold resK at h
    split at h
    · rename_i id off hu
      split at h
      · rename_i cs hcs
        obtain ⟨hc, h'⟩ := cond_ends h (by simp)
        clear h
        simp only [Bool.and_eq_true] at hc
        obtain ⟨⟨⟨⟨c1, c2⟩, c3⟩, c4⟩, c5⟩ := hc
        have e1 := Nat.eq_of_beq_eq_true c1
        subst e1
        split at h'
        · rename_i c hcd
          obtain ⟨h1, h2⟩ := headsK_ok h'
          obtain ⟨rs, h3, h4⟩ := resK_ok h2
          exact ⟨c ++ rs, ⟨c, rs, id, cs, rfl, hu, hcs, Nat.eq_of_beq_eq_true c2, Nat.le_of_ble_eq_true c3, c4, Nat.eq_of_beq_eq_true c5, hcd, h1, h3⟩, h4⟩
        · cases h'
      · cases h
    · cases h
  | [], _ :: _, _, h => by simp [resK] at h
  | _ :: _, [], _, h => by simp [resK] at h

def resOps : List ResultVar → List Operand
  | [] => []
  | .tmp u :: vs => .tmp u :: resOps vs
  | .cell u _ :: vs => resOps vs

noncomputable def resIds (st : St) : List ResultVar → List Nat
  | [] => []
  | .tmp u :: vs => resIds st vs
  | .cell u _ :: vs => (match st.get u with | .ptr id _ => [id] | _ => []) ++ resIds st vs

def rvF (a : Act) : ResultVar → Sem Value
  | .tmp t => pure (a.tmps.getD t undef)
  | .cell u t => do loadVar t (← asAddr (a.tmps.getD u undef))

inductive Reads (P : Program) (a : Act) (w : World) : List ResultVar → List Value → Prop
  | nil : Reads P a w [] []
  | cons {x : ResultVar} {v : Value} {xs : List ResultVar} {vs : List Value} (h : (rvF a x).run P w = .ok v w) (ht : Reads P a w xs vs) : Reads P a w (x :: xs) (v :: vs)

theorem known_cells {T : Tys} (hT : ∀ t, T t = tyOf P t) {t : TypeId} (hk : (T t).kind.known = true) (ha : (T t).kind.isAgg = false) : (T t).cells = [t] := by
  refine tk_nonagg hT (fun h => ?_) ha fun ts h => ?_
  · rw [h] at hk; cases hk
  · rw [h] at hk; cases hk

theorem VRel_agg {T : Tys} {R' : Rdr} {bl : Nat → Nat} {ot : Nat → Value} {x : AV} {v : Value} (h : VRel T R' bl ot x v) (hx : isAggA x = true) : ∃ cs, v = .agg cs := by
  cases x <;> try (cases hx; done)
  obtain ⟨vs, h1, _⟩ := h
  exact ⟨vs, h1⟩

theorem toD_one {T : Tys} {R' : Rdr} {bl : Nat → Nat} {ot : Nat → Value} {x : AV} {v : Value} {c : List Dat} (h : VRel T R' bl ot x v) (hx : isAggA x = false) (hc : toD T x = some c) : one1 v = true := by
  cases x <;> try (cases hx; done)
  case ifc t y => obtain ⟨u, rfl, _⟩ := h; rfl
  all_goals first | (cases hc; done) | exact (leaf_rel rfl h).one

theorem isAggA_retype (k : TK) (x : AV) : isAggA (retype k x) = isAggA x := by
  cases x <;> first | rfl | (cases k <;> rfl)

/-- One result. -/
theorem res_TV {T : Tys} (hT : ∀ t, T t = tyOf P t) {R' : Rdr} {bl : Nat → Nat} {ot : Nat → Value} {x : AV} {v : Value} {t : TypeId} {c : List Dat} (h : VRel T R' bl ot x v) (ha : isAggA x = (T t).kind.isAgg)
    (hc : toD T (retype (T t).kind x) = some c) (hh : headsOk T (T t).cells c = true) : TV T R' t c v := by
  have hr : VRel T R' bl ot (retype (T t).kind x) v := retype_rel h
  obtain ⟨h1, h2⟩ := toD_rel hr hc
  obtain ⟨h3, h4⟩ := headsOk_at _ _ hh
  refine ⟨h3.symm, h1.symm, fun j hj => ⟨h2 j hj, h4 j (by omega)⟩, ?_⟩
  cases hx : isAggA x with
  | true => rw [hx] at ha; exact .inl ⟨ha.symm, VRel_agg h hx⟩
  | false => rw [hx] at ha; exact .inr ⟨ha.symm, toD_one hr (by rw [isAggA_retype]; exact hx) hc⟩

noncomputable def pubIds : List Nat → St → St
  | [], st => st
  | id :: l, st => pubIds l (st.setBox id (((st.box id).getD []).map pubCell))

theorem pubIds_box : ∀ (l : List Nat) (st : St) (i : Nat), (∀ id ∈ l, (st.box id).isSome = true) → (pubIds l st).box i = if i ∈ l then (st.box i).map (·.map pubCell) else st.box i
  | [], st, i, _ => by simp [pubIds]
  | id :: l, st, i, h => by
    have hs : ∀ i, (st.setBox id (((st.box id).getD []).map pubCell)).box i = if i = id then (st.box i).map (·.map pubCell) else st.box i := fun i => by
      rw [box_setBox]
      split
      · rename_i e
        subst e
        have := h i List.mem_cons_self
        cases hb : st.box i with
        | none => rw [hb] at this; cases this
        | some cs => rfl
      · rfl
    show (pubIds l (st.setBox id _)).box i = _
    rw [pubIds_box l _ i fun j hj => ?_, hs]
    · by_cases h1 : i = id
      · subst h1
        simp only [if_pos rfl, List.mem_cons, true_or, if_true]
        split
        · cases st.box i <;> simp [pubCell_idem, Function.comp_def]
        · rfl
      · simp [h1]
    · rw [hs]
      have := h j (List.mem_cons_of_mem _ hj)
      split
      · rw [Option.isSome_map]; exact this
      · exact this

theorem Rel.pubIds {T : Tys} : ∀ (l : List Nat) {g : Gh} {st : St}, Rel T E g st a w → (∀ id ∈ l, (st.box id).isSome = true) → ∃ g', Rel T E g' (Ab.pubIds l st) a w ∧ (∀ b, g.pub b → g'.pub b) ∧ g'.bl = g.bl
  | [], g, st, H, _ => ⟨g, H, fun _ h => h, rfl⟩
  | id :: l, g, st, H, h => by
    cases hb : st.box id with
    | none => have := h id List.mem_cons_self; rw [hb] at this; cases this
    | some cs =>
      obtain ⟨g1, H1, p1, b1⟩ := Rel.pubBox cs.length H hb (Nat.le_refl _)
      rw [List.take_length, List.drop_length, List.append_nil] at H1
      obtain ⟨g2, H2, p2, b2⟩ := Rel.pubIds l H1 fun j hj => by
        rw [box_setBox]
        split
        · rfl
        · exact h j (List.mem_cons_of_mem _ hj)
      refine ⟨g2, ?_, fun b h => p2 b (p1 b h), b2.trans b1⟩
      show Rel T E g2 (Ab.pubIds l (st.setBox id (((st.box id).getD []).map pubCell))) a w
      rw [hb]
      exact H2

/-- The results' values, and that they are what the list tells. -/
theorem ResL_vals {T : Tys} (hT : ∀ t, T t = tyOf P t) (H : Rel T E g st a w) {g' : Gh} {st' : St} (H' : Rel T E g' st' a w) {L : List (Nat × AV)} (hpub : ∀ b, g.pub b → g'.pub b) (hbl : g'.bl = g.bl)
    (hL : ∀ p, p ∈ L → ∃ e r, p.2 = .d (.lst e r) ∧ DRep T (rdr w g'.pub) (.lst e r) (a.tmps.getD p.1 undef)) :
    ∀ (ts : List TypeId) (vs : List ResultVar) (rs : List Dat) (pre : List Dat), (∀ x ∈ resOps vs, ∀ p, p ∈ pubs st.get x → p ∈ L) → (∀ id ∈ resIds st vs, st'.box id = (st.box id).map (·.map pubCell)) → ResL T st ts vs rs →
      ∃ vals, Reads P a w vs vals ∧ TVs T (rdr w g'.pub) ts pre.length (pre ++ rs) vals ∧ ts.length = vals.length ∧ (∀ t, ts = [t] → rs.take (T t).cells.length = rs)
  | [], [], rs, pre, _, _, h => ⟨[], .nil, trivial, rfl, fun t h => by cases h⟩
  | t :: ts, .tmp u :: vs, rs, pre, hx, hb, h => by
    obtain ⟨c, rs', rfl, h1, h2, h3, h4, h5⟩ := h
    obtain ⟨q1, q2⟩ := view_rel H hpub hbl hL (.tmp u) (hx _ List.mem_cons_self) (toD_view h3)
    have htv := res_TV hT q1 h2 h3 h4
    have hcl := htv.1
    obtain ⟨vals, r1, r2, r3, r4⟩ := ResL_vals hT H H' hpub hbl hL ts vs rs' (pre ++ c) (fun x hx' => hx x (List.mem_cons_of_mem _ hx')) hb h5
    refine ⟨a.eval (.tmp u) :: vals, .cons rfl r1, ⟨?_, ?_⟩, by simp [r3], fun t' e => ?_⟩
    · have e : ((pre ++ (c ++ rs')).drop pre.length).take (T t).cells.length = c := by
        rw [List.drop_left, ← hcl, List.take_left]
      rw [e]
      exact htv
    · rw [List.length_append, List.append_assoc, hcl] at r2
      exact r2
    · cases e
      cases vs with
      | nil => have h5 : rs' = [] := h5; rw [h5, List.append_nil, ← hcl, List.take_length]
      | cons y vs => cases y <;> exact h5.elim
  | t :: ts, .cell u t' :: vs, rs, pre, hx, hb, h => by
    obtain ⟨c, rs', id, cs, rfl, hu, hcs, rfl, hid, hk, hlen, hcd, h4, h5⟩ := h
    have hb' : st'.box id = some (cs.map pubCell) := by rw [hb id (by simp [resIds, hu]), hcs]; rfl
    obtain ⟨cur, ty, fr, p1, p2, p3, p4⟩ := H'.bx id _ hb'
    have hlr : ∀ j, j < (cs.map pubCell).length → LRel T (rdr w g'.pub) g'.bl ((cs.map pubCell).getD j .undef) (cur.getD j undef) := fun j hj => by
      refine LRel_of_CRel ?_ (p4 j hj)
      have hj' : j < cs.length := by simpa using hj
      simp only [List.getD_eq_getElem?_getD, List.getElem?_map, List.getElem?_eq_getElem hj', Option.map_some, Option.getD_some]
      exact pubCell_own _
    obtain ⟨d1, d2⟩ := toDs_rel ⟨p2.symm, hlr⟩ hcd
    obtain ⟨d3, d4⟩ := headsOk_at _ _ h4
    have hau : a.tmps.getD u undef = .pointer (some ⟨g'.bl id, 0, none⟩) := by
      have := H.tm u
      rw [hu] at this
      rw [hbl]
      exact this
    have hcell : ∀ j, j < cur.size → w.cell? ⟨g'.bl id, j, none⟩ = some (cur.getD j undef) := fun j hj => by
      simp [World.cell?, p1, Array.getD_eq_getD_getElem?, hj]
    have hone : ∀ j, j < cur.size → one1 (cur.getD j undef) = true := fun j hj => (hlr j (by rw [← p2]; exact hj)).one
    have hload : Instr.loadAt t (.pointer (some ⟨g'.bl id, 0, none⟩)) = loadVar t ⟨g'.bl id, 0, none⟩ := by simp [Instr.loadAt, Instr.sureAddr]
    obtain ⟨v, hrun, hcells, hsh⟩ : ∃ v, (loadVar t ⟨g'.bl id, 0, none⟩).run P w = .ok v w ∧ v.cells = cur ∧ (((T t).kind.isAgg = true ∧ ∃ cs, v = .agg cs) ∨ ((T t).kind.isAgg = false ∧ one1 v = true)) := by
      have hsz : cur.size = cond (T t).kind.isAgg (T t).size 1 := by rw [p2, List.length_map, hlen]
      cases ha : (T t).kind.isAgg with
      | true =>
        rw [ha, cond_true] at hsz
        have := run_load_agg (P := P) (w := w) hT (kind_known hk) ha (b := g'.bl id) (off := 0) (vs := fun j => cur.getD j undef) fun j hj => by rw [Nat.zero_add]; exact hcell j (by omega)
        rw [hload] at this
        refine ⟨_, this, ?_, .inl ⟨rfl, _, rfl⟩⟩
        show (List.map (fun j => cur.getD j undef) (List.range (T t).size)).toArray = cur
        apply Array.ext
        · simp [hsz]
        · intro i h1 h2
          simp [Array.getD_eq_getD_getElem?, h2]
      | false =>
        rw [ha, cond_false] at hsz
        have := run_load_cell (P := P) (w := w) hT (kind_known hk) ha (b := g'.bl id) (off := 0) (v := cur.getD 0 undef) (hcell 0 (by omega))
        rw [hload] at this
        refine ⟨_, this, ?_, .inr ⟨rfl, hone 0 (by omega)⟩⟩
        rw [Value.cells_one (hone 0 (by omega))]
        apply Array.ext
        · simp [hsz]
        · intro i h1 h2
          have : i = 0 := by omega
          subst this
          simp [Array.getD_eq_getD_getElem?, h2]
    have htv : TV T (rdr w g'.pub) t c v := ⟨d3.symm, by rw [hcells, d1], fun j hj => ⟨by rw [hcells]; exact d2 j hj, d4 j (by omega)⟩, hsh⟩
    have hcl := htv.1
    obtain ⟨vals, r1, r2, r3, r4⟩ := ResL_vals hT H H' hpub hbl hL ts vs rs' (pre ++ c) hx (fun id' h' => hb id' (by unfold resIds; exact List.mem_append_right _ h')) h5
    refine ⟨v :: vals, .cons ?_ r1, ⟨?_, ?_⟩, by simp [r3], fun t' e => ?_⟩
    · show ((do loadVar t (← asAddr (a.tmps.getD u undef))) : Sem Value).run P w = .ok v w
      rw [hau]
      simpa [asAddr] using hrun
    · have e : ((pre ++ (c ++ rs')).drop pre.length).take (T t).cells.length = c := by
        rw [List.drop_left, ← hcl, List.take_left]
      rw [e]
      exact htv
    · rw [List.length_append, List.append_assoc, hcl] at r2
      exact r2
    · cases e
      cases vs with
      | nil => have h5 : rs' = [] := h5; rw [h5, List.append_nil, ← hcl, List.take_length]
      | cons y vs => cases y <;> exact h5.elim
  | [], _ :: _, _, _, _, _, h => h.elim
  | _ :: _, [], _, _, _, _, h => h.elim

theorem mapM_run {vals : List Value} {l : List ResultVar} (h : Reads P a w l vals) : (l.mapM (rvF a)).run P w = .ok vals w := by
  induction h with
  | nil => simp
  | cons h ht ih =>
    rw [List.mapM_cons]
    simp only [Sem.run_bind, h, Result.andThen, ih, Sem.run_pure]

def oneV : List Value → Value
  | [x] => x
  | vs => .tuple vs.toArray

theorem oneV_eq (l : List Value) : (if h : l.length = 1 then l[0] else .tuple l.toArray) = oneV l := by
  match l with
  | [] => rfl
  | [x] => rfl
  | x :: y :: l => rw [dif_neg (by simp)]; rfl

theorem results_run {fn : Func} {vals : List Value} (h : Reads P a w fn.results.toList vals) :
    (results fn a.tmps).run P w = .ok (oneV vals) w := by
  rw [← oneV_eq]
  unfold results
  rw [Array.mapM_eq_mapM_toList]
  simp only [map_eq_pure_bind, bind_assoc, pure_bind, Sem.run_bind]
  have key : ∀ F : ResultVar → Sem Value, (∀ x, F x = rvF a x) → (fn.results.toList.mapM F).run P w = .ok vals w := fun F hF => by
    rw [show F = rvF a from funext hF]; exact mapM_run h
  rw [key _ fun x => by cases x <;> rfl]
  simp only [Result.andThen, Sem.run_pure, List.size_toArray]
  by_cases h : vals.length = 1
  · rw [dif_pos h, dif_pos h]; simp
  · rw [dif_neg h, dif_neg h]

/-! ### What variables that came in hold at the end -/
def CB (x y : AV) (c : Dat × Bool) : Prop :=
  (∃ i o, x = .ptr i o ∧ y = .ptr i o ∧ c = (.nilP, false)) ∨ ((∀ i o, x ≠ .ptr i o) ∧ cellBack y = some c)

theorem cellsBack_ok : ∀ {xs ys : List AV} {cs : List (Dat × Bool)}, cellsBack xs ys = some cs → xs.length = ys.length ∧ ys.length = cs.length ∧ ∀ j, j < xs.length → CB (xs.getD j .undef) (ys.getD j .undef) (cs.getD j (.nilP, false))
  | [], [], cs, h => by cases h; exact ⟨rfl, rfl, fun j hj => absurd hj (Nat.not_lt_zero _)⟩
  | x :: xs, y :: ys, cs, h => by
    have main : ∀ {c : Dat × Bool}, CB x y c → (cellsBack xs ys).map (fun r => c :: r) = some cs → (x :: xs).length = (y :: ys).length ∧ (y :: ys).length = cs.length ∧ ∀ j, j < (x :: xs).length → CB ((x :: xs).getD j .undef) ((y :: ys).getD j .undef) (cs.getD j (.nilP, false)) := fun {c} hc hm => by
      cases hr : cellsBack xs ys with
      | none => rw [hr] at hm; cases hm
      | some r =>
        rw [hr] at hm
        cases hm
        obtain ⟨h1, h2, h3⟩ := cellsBack_ok hr
        refine ⟨by simp [h1], by simp [h2], fun j hj => ?_⟩
        cases j with
        | zero => exact hc
        | succ j => simpa using h3 j (by simpa using hj)
    have other : (∀ i o, x ≠ .ptr i o) → (match cellBack y with | some c => (cellsBack xs ys).map fun r => c :: r | none => none) = some cs → (x :: xs).length = (y :: ys).length ∧ (y :: ys).length = cs.length ∧ ∀ j, j < (x :: xs).length → CB ((x :: xs).getD j .undef) ((y :: ys).getD j .undef) (cs.getD j (.nilP, false)) := fun hx hm => by
      split at hm
      · rename_i c hc; exact main (.inr ⟨hx, hc⟩) hm
      · cases hm
    cases x
    case d z => exact other (fun i o e => by cases e) h
    case nils e => exact other (fun i o e => by cases e) h
    case own e r => exact other (fun i o e => by cases e) h
    case ptr i o =>
      cases y <;> try (cases h; done)
      rename_i i' o'
      obtain ⟨hc, hm⟩ := cond_ends (show cond (Nat.beq i i' && Nat.beq o o') ((cellsBack xs ys).map fun r => (.nilP, false) :: r) none = some cs from h) (by simp)
      rw [Bool.and_eq_true] at hc
      have e1 := Nat.eq_of_beq_eq_true hc.1
      have e2 := Nat.eq_of_beq_eq_true hc.2
      subst e1; subst e2
      exact main (.inl ⟨i, o, rfl, rfl, rfl⟩) hm
    all_goals (cases y <;> cases h)
  | [], _ :: _, _, h => by cases h
  | x :: _, [], _, h => by cases x <;> cases h

theorem boxesBack_ok {st : St} : ∀ {xs : List (List AV)} {i : Nat} {ys : List (List (Dat × Bool))}, boxesBack st i xs = some ys → xs.length = ys.length ∧ ∀ j, j < xs.length → cellsBack (xs.getD j []) ((st.box (i + j)).getD []) = some (ys.getD j [])
  | [], i, ys, h => by cases h; exact ⟨rfl, fun j hj => absurd hj (Nat.not_lt_zero _)⟩
  | x :: xs, i, ys, h => by
    unfold boxesBack at h
    split at h
    · rename_i c hc
      cases hr : boxesBack st (i + 1) xs with
      | none => rw [hr] at h; cases h
      | some r =>
        rw [hr] at h
        cases h
        obtain ⟨h1, h2⟩ := boxesBack_ok hr
        refine ⟨by simp [h1], fun j hj => ?_⟩
        cases j with
        | zero => exact hc
        | succ j =>
          have := h2 j (by simpa using hj)
          rw [show i + (j + 1) = i + 1 + j by omega]
          simpa using this
    · cases h

theorem backCell_other {x : AV} (hx : ∀ i o, x ≠ .ptr i o) (d : Dat) (b : Bool) : backCell x (d, b) = match (d, b) with | (.lst e r, true) => .own e r | (d, _) => .d d := by
  cases x <;> first | rfl | exact absurd rfl (hx _ _)

theorem backCell_ids {x : AV} (hx : ∀ i o, x ≠ .ptr i o) (c : Dat × Bool) : idL (backCell x c) = [] := by
  obtain ⟨d, b⟩ := c
  rw [backCell_other hx]
  cases d <;> cases b <;> rfl

theorem close_cell {T : Tys} {g' : Gh} {id off : Nat} {x y : AV} {c : Dat × Bool} {v : Value} (hp : g'.pub = g.pub) (hbl : g'.bl = g.bl) (hoc : g'.oc = g.oc) (h : CRel T w g id off y v) (hc : CB x y c) :
    CRel T w g' id off (backCell x c) v ∧ (isOwn (backCell x c) = true → isOwn y = true) ∧ idL (backCell x c) = idL y := by
  rcases hc with ⟨i, o, rfl, rfl, rfl⟩ | ⟨hx, hc⟩
  · refine ⟨?_, fun h => h, rfl⟩
    show LRel T (rdr w g'.pub) g'.bl (.ptr i o) v
    rw [hp, hbl]; exact h
  · cases y <;> simp only [cellBack] at hc <;> try (cases hc; done)
    case d z =>
      cases hc
      have e : backCell x (z, false) = .d z := by rw [backCell_other hx]; cases z <;> rfl
      rw [e]
      refine ⟨?_, fun h => (by cases h), rfl⟩
      show LRel T (rdr w g'.pub) g'.bl (.d z) v
      rw [hp]; exact h
    case nils e =>
      cases hc
      have e1 : backCell x (.lst e [], false) = .d (.lst e []) := backCell_other hx _ _
      rw [e1]
      refine ⟨?_, fun h => (by cases h), rfl⟩
      show DRep T (rdr w g'.pub) (.lst e []) v
      rw [hp]; exact toD1_rel (T := T) (R' := rdr w g.pub) (bl := g.bl) (x := .nils e) h rfl
    case own e r =>
      cases hc
      have e1 : backCell x (.lst e r, true) = .own e r := backCell_other hx _ _
      rw [e1]
      refine ⟨?_, fun h => rfl, rfl⟩
      show OwnRel T (rdr w g'.pub) w e r v ∧ g'.oc id off = v
      rw [hp, hoc]; exact h
    case full e r =>
      cases hc
      have e1 : backCell x (.lst e r, false) = .d (.lst e r) := backCell_other hx _ _
      rw [e1]
      refine ⟨?_, fun h => (by cases h), rfl⟩
      show DRep T (rdr w g'.pub) (.lst e r) v
      rw [hp]; exact toD1_rel (T := T) (R' := rdr w g.pub) (bl := g.bl) (x := .full e r) h rfl

theorem endCells_getD {x : List AV} {c : List (Dat × Bool)} (h : x.length = c.length) {j : Nat} (hj : j < x.length) : (endCells x c).getD j .undef = backCell (x.getD j .undef) (c.getD j (.nilP, false)) := by
  simp only [endCells, List.getD_eq_getElem?_getD, List.getElem?_zipWith, List.getElem?_eq_getElem hj, List.getElem?_eq_getElem (h ▸ hj), Option.getD_some]

theorem zip_getD {xs : List (List AV)} {ys : List (List (Dat × Bool))} (h : xs.length = ys.length) {i : Nat} (hi : i < xs.length) : (List.zipWith endCells xs ys).getD i [] = endCells (xs.getD i []) (ys.getD i []) := by
  simp only [List.getD_eq_getElem?_getD, List.getElem?_zipWith, List.getElem?_eq_getElem hi, List.getElem?_eq_getElem (h ▸ hi), Option.getD_some]

/-- Pointers in what came in lead to what came in. -/
def ClosedX (xs : List (List AV)) : Prop := ∀ i j id, id ∈ idL ((xs.getD i []).getD j .undef) → id < xs.length

/-- The relation at a function's end. -/
theorem Rel.close {T : Tys} (H : Rel T E g st a w) {xs : List (List AV)} {ys : List (List (Dat × Bool))} (hnx : E.nx = xs.length) (hcx : ClosedX xs) (hb0 : boxesBack st 0 xs = some ys) {rv : AV} {v : Value}
    (hrv : rv = .undef ∨ (∃ t e r, st.get t = .own e r ∧ rv = .own e r ∧ v = a.tmps.getD t undef) ∨ (∃ e, rv = .own e [] ∧ isTag e = false ∧ v = .slice none 0 0)) :
    Rel T { E with n := 1 } { g with ot := fun _ => v } (endSt rv (List.zipWith endCells xs ys)) ⟨#[v], []⟩ w := by
  obtain ⟨hl, hcb⟩ := boxesBack_ok hb0
  have hzl : (List.zipWith endCells xs ys).length = xs.length := by simp [hl]
  have hbx : ∀ i, (endSt rv (List.zipWith endCells xs ys)).box i = if i < xs.length then some (endCells (xs.getD i []) (ys.getD i [])) else none := fun i => by
    rw [endSt_box, hzl]
    split
    · rename_i hi; rw [zip_getD hl hi]
    · rfl
  have hold : ∀ i, i < xs.length → ∃ cs, st.box i = some cs ∧ cellsBack (xs.getD i []) cs = some (ys.getD i []) := fun i hi => by
    have h1 := hcb i hi
    rw [Nat.zero_add] at h1
    have h2 := (H.xt i (by omega)).1
    cases hs : st.box i with
    | none => rw [hs] at h2; cases h2
    | some cs => rw [hs] at h1; exact ⟨cs, rfl, h1⟩
  have hcell : ∀ i, i < xs.length → ∀ j, isOwn (cellAt (endSt rv (List.zipWith endCells xs ys)) i j) = true → isOwn (cellAt st i j) = true := fun i hi j ho => by
    obtain ⟨cs, h1, h2⟩ := hold i hi
    obtain ⟨q1, q2, q3⟩ := cellsBack_ok h2
    unfold cellAt at ho ⊢
    rw [hbx, if_pos hi, Option.getD_some] at ho
    rw [h1, Option.getD_some]
    rcases Nat.lt_or_ge j (xs.getD i []).length with hj | hj
    · rw [endCells_getD (q1.trans q2) hj] at ho
      obtain ⟨cur, ty, fr, _, _, _, p4⟩ := H.bx i cs h1
      exact (close_cell (g' := g) rfl rfl rfl (p4 j (by omega)) (q3 j hj)).2.1 ho
    · have hl' : (endCells (xs.getD i []) (ys.getD i [])).length ≤ j := by simp only [endCells, List.length_zipWith]; omega
      rw [List.getD_eq_getElem?_getD, List.getElem?_eq_none hl'] at ho; cases ho
  have hcid : ∀ i, i < xs.length → ∀ j id, id ∈ idL (cellAt (endSt rv (List.zipWith endCells xs ys)) i j) → id < xs.length := fun i hi j id ho => by
    obtain ⟨cs, h1, h2⟩ := hold i hi
    obtain ⟨q1, q2, q3⟩ := cellsBack_ok h2
    unfold cellAt at ho
    rw [hbx, if_pos hi, Option.getD_some] at ho
    rcases Nat.lt_or_ge j (xs.getD i []).length with hj | hj
    · rw [endCells_getD (q1.trans q2) hj] at ho
      rcases q3 j hj with ⟨i', o, e1, e2, e3⟩ | ⟨hx, hc⟩
      · rw [e1] at ho
        refine hcx i j id ?_
        rw [e1]
        exact ho
      · rw [backCell_ids hx] at ho; cases ho
    · have hl' : (endCells (xs.getD i []) (ys.getD i [])).length ≤ j := by simp only [endCells, List.length_zipWith]; omega
      rw [List.getD_eq_getElem?_getD, List.getElem?_eq_none hl'] at ho; cases ho
  -- who holds what
  have hhb : ∀ h b, hb { g with ot := fun _ => v } (endSt rv (List.zipWith endCells xs ys)) h = some b →
      ∃ h', hb g st h' = some b ∧ (match h, h' with | .tmp u, .tmp _ => u = 0 | .cell i j, .cell i' j' => i = i' ∧ j = j' | .box i, .box i' => i = i' | _, _ => False) := fun h b h1 => by
    cases h <;> simp only [hb] at h1
    case tmp u =>
      rw [endSt_get] at h1
      by_cases hu : u = 0
      · rw [if_pos hu] at h1
        rcases hrv with hr | ⟨t, e, r, p1, p2, p3⟩ | ⟨e, p1, pn, p2⟩
        · rw [hr] at h1; simp [isOwn] at h1
        · rw [p2] at h1
          simp only [isOwn, if_true] at h1
          have htm := H.tm t
          rw [p1] at htm
          refine ⟨.tmp t, ?_, hu⟩
          simp only [hb, p1, isOwn, if_true]
          rw [htm.2, ← p3]; exact h1
        · rw [p1] at h1
          simp only [isOwn, if_true] at h1
          rw [p2] at h1; simp [ownB] at h1
      · rw [if_neg hu] at h1; simp [isOwn] at h1
    case cell i j =>
      split at h1
      · rename_i ho
        have hi : i < xs.length := by
          rcases Nat.lt_or_ge i xs.length with h | h
          · exact h
          · unfold cellAt at ho
            rw [hbx, if_neg (by omega)] at ho; simp [isOwn] at ho
        exact ⟨.cell i j, by simp only [hb]; rw [if_pos (hcell i hi j ho)]; exact h1, rfl, rfl⟩
      · cases h1
    case box i =>
      rw [hbx] at h1
      by_cases hi : i < xs.length
      · rw [if_pos hi] at h1
        refine ⟨.box i, ?_, rfl⟩
        simp only [hb]
        rw [if_pos (H.xt i (by omega)).1]
        simpa using h1
      · rw [if_neg hi] at h1; simp at h1
  refine ⟨fun t => ?_, fun id cs h => ?_, fun h h' b h1 h2 => ?_, fun h b h1 => ?_, H.pb, H.p0, H.keep, H.wo, H.sz, fun t u h => ?_, fun t id h => ?_, fun id off id' h => ?_, fun i hi => ?_, rfl, rfl⟩
  · rw [endSt_get]
    by_cases ht : t = 0
    · subst ht
      rw [if_pos rfl]
      rcases hrv with hr | ⟨t, e, r, p1, p2, p3⟩ | ⟨e, p1, pn, p2⟩
      · rw [hr]; trivial
      · rw [p2]
        have htm := H.tm t
        rw [p1] at htm
        refine ⟨?_, rfl⟩
        show OwnRel T (rdr w g.pub) w e r v
        rw [p3]; exact htm.1
      · rw [p1]
        exact ⟨.inl ⟨rfl, pn, none, p2⟩, rfl⟩
    · rw [if_neg ht]; trivial
  · rw [hbx] at h
    split at h
    · rename_i hi
      cases h
      obtain ⟨cs0, h1, h2⟩ := hold id hi
      obtain ⟨q1, q2, q3⟩ := cellsBack_ok h2
      obtain ⟨cur, ty, fr, p1, p2, p3, p4⟩ := H.bx id cs0 h1
      have hlen : (endCells (xs.getD id []) (ys.getD id [])).length = cs0.length := by simp only [endCells, List.length_zipWith]; omega
      refine ⟨cur, ty, fr, p1, by rw [hlen]; exact p2, p3, fun j hj => ?_⟩
      rw [hlen] at hj
      rw [endCells_getD (q1.trans q2) (by omega)]
      exact (close_cell (g' := { g with ot := fun _ => v }) rfl rfl rfl (p4 j hj) (q3 j (by omega))).1
    · cases h
  · obtain ⟨k1, q1, q2⟩ := hhb h b h1
    obtain ⟨k2, r1, r2⟩ := hhb h' b h2
    have := H.ex k1 k2 b q1 r1
    subst this
    cases h <;> cases h' <;> cases k1 <;> simp_all
  · obtain ⟨k1, q1, _⟩ := hhb h b h1
    exact H.hp k1 b q1
  · rw [endSt_get] at h
    split at h
    · rcases hrv with hr | ⟨_, e, r, _, p2, _⟩ | ⟨e, p1, pn, p2⟩ <;> first | (rw [hr] at h; cases h; done) | (rw [p2] at h; cases h; done) | (rw [p1] at h; cases h; done)
    · cases h
  · rw [endSt_get] at h
    split at h
    · rcases hrv with hr | ⟨_, e, r, _, p2, _⟩ | ⟨e, p1, pn, p2⟩ <;> first | (rw [hr] at h; cases h; done) | (rw [p2] at h; cases h; done) | (rw [p1] at h; cases h; done)
    · cases h
  · have hi : id < xs.length := by
      rcases Nat.lt_or_ge id xs.length with h' | h'
      · exact h'
      · unfold cellAt at h
        rw [hbx, if_neg (by omega)] at h; cases h
    rw [hbx, if_pos (hcid id hi off id' h)]; rfl
  · have hi' : i < xs.length := by rw [← hnx]; exact hi
    refine ⟨by rw [hbx, if_pos hi']; rfl, (H.xt i hi).2⟩

/-- What a function gives at its end. -/
theorem end_post {T : Tys} (hT : ∀ t, T t = tyOf P t) (H : Rel T E g st a w) {fn : Func} {xs : List (List AV)} {ts : List TypeId} (hts : ts = fn.resultTypes.toList) (hnx : E.nx = xs.length) (hxl : xs.length ≤ 1000) (hcx : ClosedX xs) {rs : List Dat} {ys : List (List (Dat × Bool))}
    (hres : ResL T st ts fn.results.toList rs) (hb0 : boxesBack st 0 xs = some ys) :
    ∃ v, (results fn a.tmps).run P w = .ok v w ∧ Post T E xs (.ret (ownRes T st ts fn.results.toList) ts rs ys) (.returned v) w := by
  obtain ⟨hl, hcb⟩ := boxesBack_ok hb0
  have hlen : ∀ i, i < xs.length → (xs.getD i []).length = (ys.getD i []).length := fun i hi => by
    obtain ⟨q1, q2, _⟩ := cellsBack_ok (hcb i hi)
    exact q1.trans q2
  have hids : ∀ (vs : List ResultVar) (ts : List TypeId) (rs : List Dat), ResL T st ts vs rs → ∀ id ∈ resIds st vs, (st.box id).isSome = true ∧ 1000 ≤ id := by
    intro vs
    induction vs with
    | nil => intro ts rs _ id h; cases h
    | cons x vs ih =>
      intro ts rs h id hid
      cases ts with
      | nil => cases x <;> exact h.elim
      | cons t ts =>
        cases x with
        | tmp u => obtain ⟨_, _, _, _, _, _, _, h5⟩ := h; exact ih ts _ h5 id hid
        | cell u t' =>
          obtain ⟨c, rs', i, cs, _, hu, hcs, _, hi, _, _, _, _, h5⟩ := h
          unfold resIds at hid
          rw [hu] at hid
          rcases List.mem_append.1 hid with h | h
          · have : id = i := by simpa using h
            subst this
            exact ⟨by rw [hcs]; rfl, hi⟩
          · exact ih ts _ h5 id h
  have hids := hids _ _ _ hres
  obtain ⟨g1, q1, q2, q3, q4, q5, _⟩ := H.pubAll (pubss st.get (resOps fn.results.toList)) (pubss_ok st _)
  obtain ⟨g2, k1, k2, k3⟩ := q1.pubIds (resIds st fn.results.toList) fun id hid => by rw [q4]; exact (hids id hid).1
  have hbx2 := fun i => pubIds_box (resIds st fn.results.toList) (putAll (pubss st.get (resOps fn.results.toList)) st) i fun id hid => by rw [q4]; exact (hids id hid).1
  obtain ⟨vals, r1, r2, r3, r4⟩ := ResL_vals (P := P) hT H k1 (L := pubss st.get (resOps fn.results.toList)) (fun b h => k2 b (q2 b h)) (k3.trans q3)
    (fun p hp => by
      obtain ⟨e, r, h1, h2⟩ := q5 p hp
      exact ⟨e, r, h1, h2.mono (rdr_mono fun b hb => ⟨k2 b hb, rfl⟩)⟩) ts fn.results.toList rs [] (fun x hx p hp => List.mem_flatMap.2 ⟨x, hx, hp⟩)
    (fun id hid => by rw [hbx2, if_pos hid, q4]) hres
  refine ⟨_, results_run r1, ?_⟩
  show EndR T E xs (ownRes T st ts fn.results.toList) ts rs ys _ w
  generalize hv : oneV vals = v
  cases hown : ownRes T st ts fn.results.toList with
  | false =>
    have hb1 : ∀ (xs : List (List AV)) (i : Nat), i + xs.length ≤ 1000 → boxesBack (Ab.pubIds (resIds st fn.results.toList) (putAll (pubss st.get (resOps fn.results.toList)) st)) i xs = boxesBack st i xs := by
      intro xs
      induction xs with
      | nil => intro i _; rfl
      | cons x xs ih =>
        intro i hi
        have hi : i + (xs.length + 1) ≤ 1000 := hi
        unfold boxesBack
        rw [hbx2, if_neg (fun h => by have := (hids i h).2; omega), q4, ih (i + 1) (by omega)]
    have hcl := k1.close hnx hcx (by rw [hb1 xs 0 (by omega)]; exact hb0) (rv := .undef) (v := v) (.inl rfl)
    refine ⟨_, _, hcl, hl, hlen, .inr ⟨rfl, rfl, ?_⟩⟩
    rw [List.nil_append, List.length_nil] at r2
    match vals with
    | [x] =>
      left
      have hv : x = v := hv
      subst hv
      match ts, r3 with
      | [t], _ =>
        refine ⟨t, rfl, ?_⟩
        have h2 := r2.1
        rw [List.drop_zero, r4 t rfl] at h2
        exact h2
    | [] =>
      right
      exact ⟨by rw [r3]; simp, #[], hv.symm, by simpa using r2⟩
    | x :: y :: l =>
      right
      exact ⟨by rw [r3]; simp, (x :: y :: l).toArray, hv.symm, by simpa using r2⟩
  | true =>
    unfold ownRes at hown
    split at hown
    · rename_i t u hvs
      rw [hvs] at hres r1
      obtain ⟨c, rs', e1, h1, h2, h3, h4, h5⟩ := hres
      have h5 : rs' = [] := h5
      subst h5
      rw [List.append_nil] at e1
      subst e1
      have hva : v = a.tmps.getD u undef := by
        rw [← hv]
        cases r1 with
        | cons h1 h2 =>
          cases h2
          have h1 : Result.ok (a.tmps.getD u undef) w = Result.ok _ w := h1
          cases h1
          rfl
      have fin : ∀ e rows, rs = [.lst e rows] → (T t).kind.isAgg = false → (∃ t e' r, st.get t = .own e' r ∧ AV.own e rows = .own e' r ∧ v = a.tmps.getD t undef) ∨ (∃ e', AV.own e rows = .own e' [] ∧ isTag e' = false ∧ v = .slice none 0 0) → isTag e = false → EndR T E xs true [t] rs ys v w := fun e rows hrs hag hor hnt => by
        have hcl := H.close hnx hcx hb0 (rv := .own e rows) (v := v) (.inr hor)
        refine ⟨_, _, hcl, hl, hlen, .inl ⟨rfl, t, e, rows, rfl, .inl ⟨?_, hnt⟩, hrs, rfl⟩⟩
        rw [hrs, known_cells hT h1 hag] at h4
        simp only [headsOk, Bool.and_true] at h4
        revert h4
        cases (T t).kind <;> simp [headOk]
      have und : ∀ {b : Bool} {e : TypeId} {r : List (List Dat)}, toD T (retype (T t).kind (cond b AV.undef (.d (.lst e r)))) = some rs → b = false ∧ rs = [.lst e r] := fun {b e r} h => by
        cases b with
        | true => exfalso; revert h; simp [retype, toD, toD1]
        | false => exact ⟨rfl, by simpa [retype, toD, toD1] using h.symm⟩
      have agd : ∀ (b : Bool) (e : TypeId) (r : List (List Dat)), isAggA (cond b AV.undef (.d (.lst e r))) = false := fun b e r => by cases b <;> rfl
      split at hown
      · rename_i e r hu
        have hvw : view st.get (.tmp u) = cond (isTag e) AV.undef (.d (.lst e r)) := by simp [view, operand, hu]
        rw [hvw] at h2 h3
        obtain ⟨hn, hrs⟩ := und h3
        exact fin e r hrs (by rw [← h2, agd]) (.inl ⟨u, e, r, hu, rfl, hva⟩) hn
      · rename_i e hu
        have hvw : view st.get (.tmp u) = .nils e := by simp [view, operand, hu]
        rw [hvw] at h2 h3
        have htm := H.tm u
        rw [hu] at htm
        have htm : a.tmps.getD u undef = .slice none 0 0 := htm
        split at hown
        · rename_i e' hk'
          have hrs : rs = [.lst e' []] := by
            simp only [retype, hk'] at h3
            simpa [toD, toD1] using h3.symm
          have hn : isTag e' = false := by simpa using hown
          exact fin e' [] hrs h2.symm (.inr ⟨e', rfl, hn, hva.trans htm⟩) hn
        · cases hown
      · rename_i t' hu
        obtain ⟨e, r, ht'⟩ := isOwn_eq hown
        have hvw : view st.get (.tmp u) = cond (isTag e) AV.undef (.d (.lst e r)) := by simp [view, operand, hu, ht']
        rw [hvw] at h2 h3
        obtain ⟨hn, hrs⟩ := und h3
        have htm := H.tm u
        rw [hu] at htm
        have htm' := H.tm t'
        rw [ht'] at htm'
        have htm : a.tmps.getD u undef = g.ot t' := htm
        exact fin e r hrs (by rw [← h2, agd]) (.inl ⟨t', e, r, ht', rfl, by rw [hva, htm]; exact htm'.2⟩) hn
      · cases hown
    · cases hown

/-- A map is the result. -/
theorem end_map {T : Tys} (H : Rel T E g st a w) {fn : Func} {xs : List (List AV)} {ts : List TypeId} (hnx : E.nx = xs.length) (hcx : ClosedX xs) {p : TypeId × List (List Dat)} {ys : List (List (Dat × Bool))}
    (hm : ownMap T st ts fn.results.toList = some p) (hb0 : boxesBack st 0 xs = some ys) :
    ∃ v, (results fn a.tmps).run P w = .ok v w ∧ Post T E xs (.ret true ts [.lst p.1 p.2] ys) (.returned v) w := by
  unfold ownMap at hm
  split at hm
  · rename_i t u hvs
    split at hm
    · rename_i k l hk
      split at hm
      · rename_i e r hu
        have hc : Nat.beq e (mapTag t) = true ∧ (e, r) = p := by
          cases hb : Nat.beq e (mapTag t) with
          | false => rw [hb] at hm; cases hm
          | true => rw [hb] at hm; exact ⟨rfl, Option.some.inj hm⟩
        obtain ⟨hc, rfl⟩ := hc
        have he := Nat.eq_of_beq_eq_true hc
        subst he
        have hr : Reads P a w fn.results.toList [a.tmps.getD u undef] := by rw [hvs]; exact .cons rfl .nil
        refine ⟨a.tmps.getD u undef, results_run hr, ?_⟩
        obtain ⟨hl, hcb⟩ := boxesBack_ok hb0
        have hlen : ∀ i, i < xs.length → (xs.getD i []).length = (ys.getD i []).length := fun i hi => by
          obtain ⟨q1, q2, _⟩ := cellsBack_ok (hcb i hi)
          exact q1.trans q2
        have hcl := H.close hnx hcx hb0 (rv := .own (mapTag t) r) (v := a.tmps.getD u undef) (.inr (.inl ⟨u, _, r, hu, rfl, rfl⟩))
        exact ⟨_, _, hcl, hl, hlen, .inl ⟨rfl, t, mapTag t, r, rfl, .inr ⟨k, l, hk, rfl⟩, rfl, rfl⟩⟩
      · cases hm
    · cases hm
  · cases hm

theorem kEnd_post {T : Tys} (hT : ∀ t, T t = tyOf P t) (H : Rel T E g st a w) {fn : Func} {xs : List (List AV)} (hnx : E.nx = xs.length) (hxl : xs.length ≤ 1000) (hcx : ClosedX xs) {e : Ex} {r : Res} (h : kEnd T fn xs e st = some r) :
    (∀ id, e ≠ .exit id) ∧ ∃ v, (results fn a.tmps).run P w = .ok v w ∧ Post T E xs r (.returned v) w := by
  have main : (match ownMap T st fn.resultTypes.toList fn.results.toList with
    | some p => match boxesBack st 0 xs with
      | some ys => some (.ret true fn.resultTypes.toList [.lst p.1 p.2] ys)
      | none => none
    | none => resK T st fn.resultTypes.toList fn.results.toList fun rs => match boxesBack st 0 xs with
      | some ys => some (.ret (ownRes T st fn.resultTypes.toList fn.results.toList) fn.resultTypes.toList rs ys)
      | none => none) = some r → ∃ v, (results fn a.tmps).run P w = .ok v w ∧ Post T E xs r (.returned v) w := fun h => by
    split at h
    · rename_i p hp
      split at h
      · rename_i ys hys
        cases h
        exact end_map H hnx hcx hp hys
      · cases h
    · obtain ⟨rs, h1, h2⟩ := resK_ok h
      split at h2
      · rename_i ys hys
        cases h2
        exact end_post hT H rfl hnx hxl hcx h1 hys
      · cases h2
  cases e with
  | exit id => cases h
  | normal => exact ⟨fun id e => (by cases e), main h⟩
  | ret => exact ⟨fun id e => (by cases e), main h⟩

theorem kEnd_fin {T : Tys} (hT : ∀ t, T t = tyOf P t) (H : Rel T E g st a w) {fn : Func} {b : Frame} {xs : List (List AV)} (hnx : E.nx = xs.length) (hxl : xs.length ≤ 1000) (hcx : ClosedX xs) {e : Ex} {r : Res} (hf : P.funcs[b.fn]? = some fn) (hk : b.kind = .normal)
    (h : kEnd T fn xs e st = some r) : FinX P fn b (Post T E xs r) [] (exOf e) a w := by
  obtain ⟨h1, v, h2, h3⟩ := kEnd_post hT H hnx hxl hcx h
  cases e with
  | exit id => exact absurd rfl (h1 id)
  | normal =>
    intro cs
    exact ⟨.returned v, w, _, h3, .one step_end, rfl, rfl, H.df, hk, fn, hf, h2⟩
  | ret => exact ⟨H.df, v, h2, h3⟩

/-! ### What matters of what came in -/
theorem backCell_erase (x : AV) (y : Dat × Bool) : backCell (erase x) y = backCell x y := by
  cases x <;> rfl

theorem endCells_erase : ∀ (x : List AV) (y : List (Dat × Bool)), endCells (erases x) y = endCells x y
  | [], y => rfl
  | a :: x, [] => rfl
  | a :: x, b :: y => by
    show backCell (erase a) b :: endCells (erases x) y = backCell a b :: endCells x y
    rw [backCell_erase, endCells_erase]

theorem zip_erase : ∀ (xs : List (List AV)) (ys : List (List (Dat × Bool))), List.zipWith endCells (erasess xs) ys = List.zipWith endCells xs ys
  | [], ys => rfl
  | a :: x, [] => rfl
  | a :: x, b :: y => by
    show endCells (erases a) b :: List.zipWith endCells (erasess x) y = _
    rw [endCells_erase, zip_erase]; rfl

theorem erases_len : ∀ (x : List AV), (erases x).length = x.length
  | [] => rfl
  | a :: x => by simp [erases, erases_len x]
theorem erasess_len : ∀ (x : List (List AV)), (erasess x).length = x.length
  | [] => rfl
  | a :: x => by simp [erasess, erasess_len x]
theorem erases_getD : ∀ (x : List AV) (i : Nat), (erases x).getD i .undef = erase (x.getD i .undef)
  | [], i => rfl
  | a :: x, 0 => rfl
  | a :: x, i + 1 => by simpa [erases] using erases_getD x i
theorem erasess_getD : ∀ (x : List (List AV)) (i : Nat), (erasess x).getD i [] = erases (x.getD i [])
  | [], i => rfl
  | a :: x, 0 => rfl
  | a :: x, i + 1 => by simpa [erasess] using erasess_getD x i

theorem ClosedX.erase {xs : List (List AV)} (h : ClosedX xs) : ClosedX (erasess xs) := fun i j id hid => by
  rw [erasess_len]
  rw [erasess_getD, erases_getD] at hid
  refine h i j id ?_
  generalize (xs.getD i []).getD j .undef = x at hid ⊢
  cases x <;> exact hid

theorem Post_erase {T : Tys} {xs : List (List AV)} {r : Res} {e : Ending} {w' : World} (h : Post T E (erasess xs) r e w') : Post T E xs r e w' := by
  cases e with
  | returned v =>
    cases r with
    | ret own ts rs ys =>
      obtain ⟨g', rv, h1, h2, h3, h4⟩ := h
      rw [zip_erase] at h1
      refine ⟨g', rv, h1, by rw [← h2, erasess_len], fun i hi => ?_, h4⟩
      rw [← h3 i (by rw [erasess_len]; exact hi), erasess_getD, erases_len]
    | panic d => exact h
  | panicked c =>
    cases r with
    | ret own ts rs ys => exact h
    | panic d => exact h
  | outgrown => exact h

theorem closed_of {T : Tys} {args : List AV} {xs : List (List AV)} (H : Rel T E g ⟨numbered 0 args, boxesFrom 0 xs⟩ a w) : ClosedX xs := fun i j id hid => by
  have h1 := H.prb i j id (by
    unfold cellAt
    show id ∈ idL (((getB i (boxesFrom 0 xs)).getD []).getD j .undef)
    rw [getB_from]
    split
    · simpa using hid
    · rename_i hn
      have : xs.getD i [] = [] := by rw [List.getD_eq_getElem?_getD, List.getElem?_eq_none (by omega)]; rfl
      rw [this] at hid
      simpa using hid)
  have h2 : (getB id (boxesFrom 0 xs)).isSome = true := h1
  rw [getB_from] at h2
  split at h2
  · rename_i h; omega
  · cases h2

end Go.Ab
end

section
/-! All answers are sound. -/
set_option autoImplicit false
set_option linter.unusedVariables false
set_option linter.unusedSimpArgs false
namespace Go.Ab

/-- What is asked of a program's tables. -/
structure TabOk (B : Tab) : Prop where
  hT : ∀ t, B.T t = tyOf B.P t
  hmix : B.P.follows .mixedOrders = true
  hname : ∀ (f : FuncId) (fn : Func), B.P.funcs[f]? = some fn → fn.body.isSome = true → fn.name ≠ "runtime.NumGoroutine"
  hX : ∀ f args xs r, B.X f args xs = some r → Good B.P B.T f args xs r

def KeyOk (B : Tab) : Key → Res → Prop
  | .call f args xs, r => Good B.P B.T f args xs r
  | .pt f xs p st, r => ∀ fn body c items, B.P.funcs[f]? = some fn → fn.body = some body → At body p c items → ClosedX xs → xs.length ≤ 1000 →
      ∀ (E : Ent) (b : Frame) (g : Gh) (a : Act) (w : World), E.n = fn.ntmps → E.nx = xs.length → b.fn = f → b.kind = .normal → Rel B.T E g st a w → Fin B.P b (Post B.T E xs r) (start c items) a w

theorem inv_some {B : Tab} {O : Orc} {m : String} {x : Dat} {args : List AV} {xs : List (List AV)} {r : Res} (h : B.inv O m x args xs = some r) :
    ∃ t cells f, x = .ifc t cells ∧ methOf B.P t m = some f ∧ O (.call f (mkVal (B.T t).kind (coerces B.T (B.T t).cells 0 cells) :: args) xs) = some r := by
  cases x <;> try (cases h; done)
  rename_i t cells
  unfold Tab.inv at h
  simp only at h
  split at h
  · rename_i f hf
    exact ⟨t, cells, f, rfl, hf, h⟩
  · cases h

theorem okC {B : Tab} (hB : TabOk B) {O : Orc} (hO : ∀ q r, O q = some r → KeyOk B q r) {f : FuncId} {fn : Func} {body : Code} {xs : List (List AV)} {r : Res} {E : Ent} {b : Frame} (hf : B.P.funcs[f]? = some fn) (hbd : fn.body = some body)
    (hcx : ClosedX xs) (hxl : xs.length ≤ 1000) (hn : E.n = fn.ntmps) (hnx : E.nx = xs.length) (hbf : b.fn = f) (hbk : b.kind = .normal) : OkC B.P (B.cfg f fn xs O) E fn body b (Post B.T E xs r) r :=
  { hT := hB.hT, hM := fun _ _ => rfl, hCI := fun m x args xs r h => inv_some h, hbind := rfl, hCD := fun f args xs r h => hO (.call f args xs) r h, hn := hn, hf := by rw [hbf]; exact hf, hk := hbk
    hR := fun d pub' w' vv hr h1 h2 => by
      subst hr
      exact ⟨pub', vv, h1, h2, rfl⟩
    hCC := fun p c items hat st h g a w H => hO (.pt f xs p st) r h fn body c items hf hbd hat hcx hxl E b g a w hn hnx hbf hbk H
    hnx := by rw [hnx]; exact hxl
    hmix := hB.hmix }

theorem step_ok {B : Tab} (hB : TabOk B) {O : Orc} (hO : ∀ q r, O q = some r → KeyOk B q r) (q : Key) (r : Res) (h : B.step O q = some r) : KeyOk B q r := by
  cases q with
  | call f args xs =>
    replace h : (match B.X f args xs with
      | some r => some r
      | none => match B.P.funcs[f]? with
        | some fn => evFn (B.cfg f fn (erasess xs) O) fn args xs
        | none => none) = some r := h
    show Good B.P B.T f args xs r
    cases hX : B.X f args xs with
    | some r' =>
      rw [hX] at h
      cases h
      exact hB.hX f args xs _ hX
    | none =>
      rw [hX] at h
      cases hf : B.P.funcs[f]? with
      | none => rw [hf] at h; cases h
      | some fn =>
        rw [hf] at h
        simp only at h
        unfold evFn at h
        cases hbd : fn.body with
        | none => rw [hbd] at h; cases h
        | some c =>
          rw [hbd] at h
          obtain ⟨hc, h⟩ := cond_ends h (by simp)
          rw [Bool.and_eq_true] at hc
          have hxl : xs.length ≤ 1000 := Nat.le_of_ble_eq_true hc.1
          have hal : args.length ≤ fn.ntmps := Nat.le_of_ble_eq_true hc.2
          refine ⟨fn, hf, hB.hname f fn hf (by rw [hbd]; rfl), by rw [hbd]; rfl, hal, fun E g w vals hw hnx hn hvs H => ?_⟩
          have hcx := closed_of H
          let b : Frame := { (default : Frame) with fn := f, kind := .normal }
          have henter : Frame.enter B.P f vals .normal = b.at (subA vals fn.ntmps) [.code c] := by
            simp [Frame.enter, Frame.at, hf, hbd, b, subA]
          have hK := okC hB hO (r := r) (E := E) (b := b) hf hbd hcx.erase (by rw [erasess_len]; exact hxl) hn (by rw [erasess_len]; exact hnx) rfl rfl
          have hfin := sound_code hK c .root H h fun e st' g' a' w' H' h' => kEnd_fin (T := B.T) hB.hT H' (by rw [erasess_len]; exact hnx) (by rw [erasess_len]; exact hxl) hcx.erase hf rfl h'
          intro cs
          obtain ⟨e, w', fr, q1, q2, q3, q4⟩ := hfin cs
          exact ⟨e, w', fr, Post_erase q1, by rw [henter]; exact q2, q3, q4⟩
  | pt f xs p st =>
    replace h : (match B.P.funcs[f]? with
        | some fn => evPt (B.cfg f fn xs O) fn xs p st
        | none => none) = some r := h
    intro fn body c items hf hbd hat hcx hxl E b g a w hn hnx hbf hbk H
    rw [hf] at h
    simp only at h
    unfold evPt at h
    rw [hbd] at h
    obtain ⟨hc, h⟩ := cond_ends h (by simp)
    have hp := Nat.eq_of_beq_eq_true hc
    have hK := okC hB hO (r := r) (E := E) (b := b) hf hbd hcx hxl hn hnx hbf hbk
    obtain ⟨c', items', q1, q2⟩ := sound_from hK _ .root H h fun e st' g' a' w' H' h' => kEnd_fin (T := B.T) hB.hT H' hnx hxl hcx (by rw [hbf]; exact hf) hbk h'
    obtain ⟨e1, e2⟩ := q1.unique hat hp
    rw [← e1, ← e2]
    exact q2

theorem ans_ok {B : Tab} (hB : TabOk B) : ∀ n q r, B.ans n q = some r → KeyOk B q r
  | 0, q, r, h => by cases h
  | n + 1, q, r, h => step_ok hB (ans_ok hB n) q r h

/-- What a function comes to is what it does. -/
theorem sem_good {B : Tab} (hB : TabOk B) {f : FuncId} {args : List AV} {xs : List (List AV)} {r : Res} (h : B.sem (.call f args xs) = some r) : Good B.P B.T f args xs r := by
  obtain ⟨n, hn⟩ := sem_ans h
  exact ans_ok hB n _ r hn

end Go.Ab
end

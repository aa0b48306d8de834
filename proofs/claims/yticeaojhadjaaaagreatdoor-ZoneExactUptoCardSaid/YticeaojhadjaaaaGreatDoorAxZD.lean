/- Part 30 of the proof that this seat's laws lean on: an abstract machine over the model's code, its soundness, and what it says of this program. -/
import Derived.Test.YticeaojhadjaaaaGreatDoorAxY
import Derived.Test.YticeaojhadjaaaaGreatDoorAxZB
import Derived.Test.YticeaojhadjaaaaGreatDoorAxZC
import Derived.Test.YticeaojhadjaaaaGreatDoorAxZE

section
set_option linter.unusedSimpArgs false
/-! Spans and truths: what the zone's functions do with them. -/
set_option autoImplicit false
set_option linter.unusedVariables false
namespace Go.Ab
attribute [local congr] cond_cg bindR_cg

mutual
theorem eqD_refl : ∀ x : Dat, eqD x x = true
  | .int k n => by simp [eqD]
  | .bool b => by simp [eqD]
  | .str s => by simp [eqD]
  | .lst e rs => by simp [eqD, eqRs_refl rs]
  | .fn f cs => by simp [eqD, eqCs_refl cs]
  | .nilF => by simp [eqD]
  | .ifc t cs => by simp [eqD, eqCs_refl cs]
  | .nilI => by simp [eqD]
  | .nilP => by simp [eqD]
  | .ref e cs => by simp [eqD, eqCs_refl cs]
theorem eqRs_refl : ∀ x : List (List Dat), eqRs x x = true
  | [] => by simp [eqRs]
  | r :: rs => by simp [eqRs, eqCs_refl r, eqRs_refl rs]
theorem eqCs_refl : ∀ x : List Dat, eqCs x x = true
  | [] => by simp [eqCs]
  | x :: xs => by simp [eqCs, eqD_refl x, eqCs_refl xs]
end
/-- How values are ordered. -/
noncomputable def Rw.ord (a b : Rw) : Int := ordP a.v b.v
/-- Values that can be ordered. -/
def Rw.ok (a : Rw) : Prop := cnt a.v < 4611686018427387904 ∧ shV a.v
theorem s70r {a b : Rw} (ha : a.ok) (hb : b.ok) : SS (.call 70 [.agg [.d (.int .i64 a.k), .d (.int .i64 a.n), .d (.str a.t), .d (.lst 32 a.l), .d (.lst 9 a.ks)], .agg [.d (.int .i64 b.k), .d (.int .i64 b.n), .d (.str b.t), .d (.lst 32 b.l), .d (.lst 9 b.ks)]] []) = some (.ret false [3] [.int .i64 (a.ord b)] []) :=
  s70 a.k a.n a.t a.l a.ks b.k b.n b.t b.l b.ks ha.1 ha.2 hb.2
theorem s146r {a b : Rw} (ha : a.ok) (hb : b.ok) : SS (.call 146 [.agg [.d (.int .i64 a.k), .d (.int .i64 a.n), .d (.str a.t), .d (.lst 32 a.l), .d (.lst 9 a.ks)], .agg [.d (.int .i64 b.k), .d (.int .i64 b.n), .d (.str b.t), .d (.lst 32 b.l), .d (.lst 9 b.ks)]] []) = some (.ret false [4] [.bool (a.ord b == 0)] []) := by
  rw [e146, s70r ha hb, bindR0]; rfl
theorem s208r {a b : Rw} (ha : a.ok) (hb : b.ok) : SS (.call 208 [.agg [.d (.int .i64 a.k), .d (.int .i64 a.n), .d (.str a.t), .d (.lst 32 a.l), .d (.lst 9 a.ks)], .agg [.d (.int .i64 b.k), .d (.int .i64 b.n), .d (.str b.t), .d (.lst 32 b.l), .d (.lst 9 b.ks)]] []) = some (.ret false [4] [.bool (decide (a.ord b < 0))] []) := by
  rw [e208, s70r ha hb, bindR0]; rfl
theorem truth_ok (b : Bool) : (truthR b).ok := by
  simp [Rw.ok, Rw.v, truthR, cnt, cnts, dvRs, shV, shVs]
theorem int_ok (n : Int) : (intR n).ok := by
  simp [Rw.ok, Rw.v, intR, cnt, cnts, dvRs, shV, shVs]
theorem null_ok : nullR.ok := by
  simp [Rw.ok, Rw.v, nullR, cnt, cnts, dvRs, shV, shVs]

/-- What something can be. -/
structure Sp where
  nl : Bool
  sm : Bool
  kn : Bool
  mn : Rw
  mx : Rw
noncomputable def Sp.d (s : Sp) : List Dat := [.bool s.nl, .bool s.sm, .bool s.kn, .int .i64 s.mn.k, .int .i64 s.mn.n, .str s.mn.t, .lst 32 s.mn.l, .lst 9 s.mn.ks, .int .i64 s.mx.k, .int .i64 s.mx.n, .str s.mx.t, .lst 32 s.mx.l, .lst 9 s.mx.ks]
noncomputable def Sp.a (s : Sp) : List AV := [.d (.bool s.nl), .d (.bool s.sm), .d (.bool s.kn), .d (.int .i64 s.mn.k), .d (.int .i64 s.mn.n), .d (.str s.mn.t), .d (.lst 32 s.mn.l), .d (.lst 9 s.mn.ks), .d (.int .i64 s.mx.k), .d (.int .i64 s.mx.n), .d (.str s.mx.t), .d (.lst 32 s.mx.l), .d (.lst 9 s.mx.ks)]
def Sp.ok (s : Sp) : Prop := s.mn.ok ∧ s.mx.ok
/-- What truths something can be. -/
structure Zn where
  t : Bool
  f : Bool
  n : Bool
noncomputable def Zn.d (z : Zn) : List Dat := [.bool z.t, .bool z.f, .bool z.n]
noncomputable def Zn.a (z : Zn) : List AV := [.d (.bool z.t), .d (.bool z.f), .d (.bool z.n)]

/-- Just one value. -/
def justS (w : Rw) : Sp := cond (w.k == 0) ⟨true, false, false, nullR, nullR⟩ ⟨false, true, true, w, w⟩
theorem s104 (w : Rw) : SS (.call 104 [.agg [.d (.int .i64 w.k), .d (.int .i64 w.n), .d (.str w.t), .d (.lst 32 w.l), .d (.lst 9 w.ks)]] []) = some (.ret false [62] (justS w).d []) := by
  rw [e104]
  unfold justS
  cases w.k == 0 <;> rfl

/-- The one value, if it is one. -/
noncomputable def oneR (s : Sp) : Rw := cond s.sm s.mn nullR
noncomputable def oneB (s : Sp) : Bool := !s.sm || (!s.nl && (s.kn && (s.mn.ord s.mx == 0)))
theorem s106 (s : Sp) (h : s.ok) : SS (.call 106 [.agg s.a] []) = some (.ret false [32, 4] [.int .i64 (oneR s).k, .int .i64 (oneR s).n, .str (oneR s).t, .lst 32 (oneR s).l, .lst 9 (oneR s).ks, .bool (oneB s)] []) := by
  unfold Sp.a
  rw [e106, s146r h.1 h.2, bindR0]
  unfold oneR oneB
  cases s.sm <;> cases s.nl <;> cases s.kn <;> rfl

theorem iv146 (b0 b1 b2 : Bool) (n3 n4 : Int) (s5 : List UInt8) (l6 l7 : List (List Dat)) (n8 n9 : Int) (s10 : List UInt8) (l11 l12 : List (List Dat)) :
    IV "cirrus/zone.span" (.ifc 146 [.bool b0, .bool b1, .bool b2, .int .i64 n3, .int .i64 n4, .str s5, .lst 32 l6, .lst 9 l7, .int .i64 n8, .int .i64 n9, .str s10, .lst 32 l11, .lst 9 l12]) [] [] =
      SS (.call 412 [.agg [.d (.bool b0), .d (.bool b1), .d (.bool b2), .d (.int .i64 n3), .d (.int .i64 n4), .d (.str s5), .d (.lst 32 l6), .d (.lst 9 l7), .d (.int .i64 n8), .d (.int .i64 n9), .d (.str s10), .d (.lst 32 l11), .d (.lst 9 l12)]] []) := by kernel_rfl
theorem iv144 (b0 b1 b2 : Bool) : IV "cirrus/zone.span" (.ifc 144 [.bool b0, .bool b1, .bool b2]) [] [] = SS (.call 411 [.agg [.d (.bool b0), .d (.bool b1), .d (.bool b2)]] []) := by kernel_rfl

/-- What truths tell. -/
def Zn.sp (z : Zn) : Sp := cond (z.t || z.f) ⟨z.n, true, true, truthR (!z.f), truthR z.t⟩ ⟨z.n, false, false, nullR, nullR⟩
theorem s411 (z : Zn) : SS (.call 411 [.agg z.a] []) = some (.ret false [62] z.sp.d []) := by
  unfold Zn.a
  rw [e411]
  simp only [s101, bindR0]
  obtain ⟨t, f, n⟩ := z
  unfold Zn.sp
  cases t <;> cases f <;> rfl

/-- A thing. -/
inductive Th where
  | val (s : Sp)
  | tru (z : Zn)
noncomputable def Th.d : Th → Dat
  | .val s => .ifc 146 s.d
  | .tru z => .ifc 144 z.d
def Th.sp : Th → Sp
  | .val s => s
  | .tru z => z.sp
def Th.ok : Th → Prop
  | .val s => s.ok
  | .tru _ => True
theorem sp_ok {x : Th} (h : x.ok) : x.sp.ok := by
  cases x with
  | val s => exact h
  | tru z =>
    obtain ⟨t, f, n⟩ := z
    cases t <;> cases f <;> exact ⟨by first | exact truth_ok _ | exact null_ok, by first | exact truth_ok _ | exact null_ok⟩
theorem iv (x : Th) : IV "cirrus/zone.span" x.d [] [] = some (.ret false [62] x.sp.d []) := by
  cases x with
  | val s => exact (iv146 _ _ _ _ _ _ _ _ _ _ _ _ _).trans (e412 _ _ _ _ _ _ _ _ _ _ _ _ _)
  | tru z => exact (iv144 _ _ _).trans (s411 z)

/-- What truths a span tells. -/
noncomputable def inS (s : Sp) (b : Bool) : Bool := s.sm && (!s.kn || (decide (s.mn.ord (truthR b) ≤ 0) && decide ((truthR b).ord s.mx ≤ 0)))
noncomputable def Sp.zn (s : Sp) : Zn := ⟨inS s true, inS s false, s.nl || (s.sm && !(s.kn && ((s.mn.k == 1) && (s.mx.k == 1))))⟩
noncomputable def Th.zn : Th → Zn
  | .val s => s.zn
  | .tru z => z
noncomputable def Sp.b (s : Sp) : List (Dat × Bool) := s.d.map fun x => (x, false)
theorem s100 (s : Sp) (h : s.ok) (b : Bool) : SS (.call 100 [.d (.bool b), .ptr 0 0] [s.a]) = some (.ret false [4] [.bool (inS s b)] [s.b]) := by
  unfold Sp.a
  have q1 := s70r h.1 (truth_ok b)
  have q2 := s70r (truth_ok b) h.2
  rw [e100, s101, bindR0]
  simp only [Rw.d, List.getD_cons_zero, List.getD_cons_succ, dat_i, dat_s, dat_l, q1, q2, bindR0, rsi]
  unfold inS
  obtain ⟨nl, sm, kn, mn, mx⟩ := s
  cases sm <;> cases kn <;> cases decide (mn.ord (truthR b) ≤ 0) <;> rfl
theorem sbk (s : Sp) : backsOk [s.a] [s.b] = true := by
  simp [backsOk, Sp.a, Sp.b, Sp.d, backOk]
theorem skept (s : Sp) : kept [s.a] [s.b] = true := by
  simp [kept, Sp.a, Sp.b, Sp.d, keptV, eqD_refl]
theorem s47 (x : Th) (h : x.ok) : SS (.call 47 [.d x.d] []) = some (.ret false [45] x.zn.d []) := by
  cases x with
  | tru z => exact e47b _ _ _
  | val s =>
    have q1 := s100 s h true
    have q2 := s100 s h false
    have hb := sbk s
    have hk := skept s
    unfold Sp.a at q1 q2 hb hk
    show SS (.call 47 [.d (.ifc 146 s.d)] []) = _
    unfold Sp.d
    rw [e47a]
    simp only [q1, q2, bindR1 hb, hk, cond_true, rsb, List.getD_cons_zero, dat_b]
    show _ = some (Res.ret false [45] s.zn.d [])
    obtain ⟨nl, sm, kn, mn, mx⟩ := s
    unfold Sp.zn
    simp only
    cases kn <;> cases nl <;> cases sm <;> cases (mn.k == 1) <;> rfl
end Go.Ab
end

section
set_option linter.unusedSimpArgs false
/-! Conditions over spans and truths. -/
set_option autoImplicit false
set_option linter.unusedVariables false
namespace Go.Ab
attribute [local congr] cond_cg bindR_cg

/-- not, and, or. -/
def Zn.neg (a : Zn) : Zn := ⟨a.f, a.t, a.n⟩
def Zn.conj (a b : Zn) : Zn := ⟨a.t && b.t, a.f || b.f, (a.n && (b.n || b.t)) || (b.n && a.t)⟩
def Zn.disj (a b : Zn) : Zn := (a.neg.conj b.neg).neg
/-- What eq can be. -/
noncomputable def eqZ (a b : Sp) : Zn :=
  cond (!a.sm || !b.sm) ⟨false, false, true⟩ <| cond (!a.kn || !b.kn) ⟨true, true, a.nl || b.nl⟩
    ⟨!(decide (a.mx.ord b.mn < 0)) && !(decide (b.mx.ord a.mn < 0)), !((a.mn.ord a.mx == 0) && ((a.mn.ord b.mn == 0) && (a.mn.ord b.mx == 0))), a.nl || b.nl⟩
theorem s153 (a b : Sp) (ha : a.ok) (hb : b.ok) : SS (.call 153 [.agg a.a, .agg b.a] []) = some (.ret false [45] (eqZ a b).d []) := by
  unfold Sp.a
  rw [e153]
  simp only [s146r ha.1 ha.2, s146r ha.1 hb.1, s146r ha.1 hb.2, s208r ha.2 hb.1, s208r hb.2 ha.1, bindR0, rsb]
  obtain ⟨nl, sm, kn, mn, mx⟩ := a
  obtain ⟨nl', sm', kn', mn', mx'⟩ := b
  unfold eqZ
  simp only
  cases sm with
  | false => rfl
  | true => cases sm' with
    | false => rfl
    | true => cases kn with
      | false => cases nl <;> rfl
      | true => cases kn' with
        | false => cases nl <;> rfl
        | true => cases (mn.ord mx == 0) <;> cases (mn.ord mn' == 0) <;> cases decide (mx.ord mn' < 0) <;> cases nl <;> rfl

/-- What lt, or le, can be. -/
noncomputable def ltZ (a b : Sp) (also : Bool) : Zn :=
  cond (!a.sm || !b.sm) ⟨false, false, true⟩ <| cond (!a.kn || (!b.kn || (decide (a.mn.k > 3) || ((a.mn.k != a.mx.k) || ((a.mn.k != b.mn.k) || (a.mn.k != b.mx.k)))))) ⟨true, true, true⟩ <|
    cond also ⟨!(decide (b.mx.ord a.mn < 0)), decide (b.mn.ord a.mx < 0), a.nl || b.nl⟩ ⟨decide (a.mn.ord b.mx < 0), !(decide (a.mx.ord b.mn < 0)), a.nl || b.nl⟩
theorem s154 (a b : Sp) (also : Bool) (ha : a.ok) (hb : b.ok) : SS (.call 154 [.agg a.a, .agg b.a, .d (.bool also)] []) = some (.ret false [45] (ltZ a b also).d []) := by
  unfold Sp.a
  rw [e154]
  simp only [s208r ha.1 hb.2, s208r ha.2 hb.1, s208r hb.1 ha.2, s208r hb.2 ha.1, bindR0, rsb]
  obtain ⟨nl, sm, kn, mn, mx⟩ := a
  obtain ⟨nl', sm', kn', mn', mx'⟩ := b
  unfold ltZ
  simp only
  cases sm with
  | false => rfl
  | true => cases sm' with
    | false => rfl
    | true => cases kn with
      | false => rfl
      | true => cases kn' with
        | false => rfl
        | true => cases decide (mn.k > 3) with
          | true => rfl
          | false => cases (mn.k != mx.k) with
            | true => rfl
            | false => cases (mn.k != mn'.k) with
              | true => rfl
              | false => cases (mn.k != mx'.k) with
                | true => rfl
                | false => cases also <;> cases nl <;> rfl

/-- A node's cells. -/
structure Nd where
  op : List UInt8
  nm : List UInt8
  v : Rw
  p : List (List Dat)
  ks : List (List Dat)
noncomputable def Nd.a (e : Nd) : List AV := [.d (.str e.op), .d (.str e.nm), .d (.int .i64 e.v.k), .d (.int .i64 e.v.n), .d (.str e.v.t), .d (.lst 32 e.v.l), .d (.lst 9 e.v.ks), .d (.lst 119 e.p), .d (.lst 36 e.ks)]
/-- Things, as rows. -/
noncomputable def ths (l : List Th) : List (List Dat) := l.map fun x => [x.d]
noncomputable def Nd.a2 (e : Nd) (l : List Th) : List AV := [.d (.str e.op), .d (.str e.nm), .d (.int .i64 e.v.k), .d (.int .i64 e.v.n), .d (.str e.v.t), .d (.lst 32 e.v.l), .d (.lst 9 e.v.ks), .d (.lst 119 e.p), .d (.lst 36 e.ks), .d (.lst 97 (ths l))]
noncomputable def Nd.b2 (e : Nd) (l : List Th) : List (Dat × Bool) := [(.str e.op, false), (.str e.nm, false), (.int .i64 e.v.k, false), (.int .i64 e.v.n, false), (.str e.v.t, false), (.lst 32 e.v.l, false), (.lst 9 e.v.ks, false), (.lst 119 e.p, false), (.lst 36 e.ks, false), (.lst 97 (ths l), false)]
theorem nbk (e : Nd) (l : List Th) : backsOk [e.a2 l] [e.b2 l] = true := by
  simp [backsOk, Nd.a2, Nd.b2, backOk]
theorem nkept (e : Nd) (l : List Th) : kept [e.a2 l] [e.b2 l] = true := by
  simp [kept, Nd.a2, Nd.b2, keptV, eqD_refl]
theorem ths_get (l : List Th) (i : Nat) (x : Th) (h : l[i]? = some x) : ((ths l).getD i []).getD 0 .nilP = x.d := by
  simp [ths, List.getD_eq_getElem?_getD, h]
theorem ths_len (l : List Th) : (ths l).length = l.length := by simp [ths]
theorem idx_ok {α : Type} (l : List α) (i : Nat) (h : i < l.length) : (decide ((0 : Int) ≤ (i : Int)) && decide ((i : Int) < (l.length : Int))) = true := by simp [h]
theorem s148 (e : Nd) (l : List Th) (i : Nat) (x : Th) (h : l[i]? = some x) : SS (.call 148 [.d (.int .i64 (i : Int)), .ptr 0 0] [e.a2 l]) = some (.ret false [62] x.sp.d [e.b2 l]) := by
  have hi : i < (ths l).length := by rw [ths_len]; exact (List.getElem?_eq_some_iff.1 h).1
  unfold Nd.a2
  rw [e148, idx_ok _ _ hi, cond_true, Int.toNat_natCast, ths_get l i x h, iv x, bindR0]
  rfl
theorem s108eq (e : Nd) (ho : e.op = [101, 113]) (x y : Th) (hx : x.ok) (hy : y.ok) : SS (.call 108 [.agg (e.a2 [x, y])] []) = some (.ret false [45, 4] [.bool (eqZ x.sp y.sp).t, .bool (eqZ x.sp y.sp).f, .bool (eqZ x.sp y.sp).n, .bool true] []) := by
  have q1 := s148 e [x, y] 0 x rfl
  have q2 := s148 e [x, y] 1 y rfl
  have hb := nbk e [x, y]
  have hk := nkept e [x, y]
  have q3 := s153 x.sp y.sp (sp_ok hx) (sp_ok hy)
  unfold Sp.a at q3
  unfold Sp.d at q1 q2
  unfold Nd.a2 at q1 q2 hb hk ⊢
  rw [ho] at q1 q2 hb hk ⊢
  simp only [ci0, ci1] at q1 q2
  rw [e108eq]
  simp only [q1, q2, bindR1 hb, hk, cond_true, List.getD_cons_zero, List.getD_cons_succ, dat_i, dat_s, dat_l, dat_b, q3, bindR0]
  rfl

theorem s108lt (e : Nd) (ho : e.op = [108, 116]) (x y : Th) (hx : x.ok) (hy : y.ok) : SS (.call 108 [.agg (e.a2 [x, y])] []) = some (.ret false [45, 4] [.bool (ltZ x.sp y.sp false).t, .bool (ltZ x.sp y.sp false).f, .bool (ltZ x.sp y.sp false).n, .bool true] []) := by
  have q1 := s148 e [x, y] 0 x rfl
  have q2 := s148 e [x, y] 1 y rfl
  have hb := nbk e [x, y]
  have hk := nkept e [x, y]
  have q3 := s154 x.sp y.sp false (sp_ok hx) (sp_ok hy)
  unfold Sp.a at q3
  unfold Sp.d at q1 q2
  unfold Nd.a2 at q1 q2 hb hk ⊢
  rw [ho] at q1 q2 hb hk ⊢
  simp only [ci0, ci1] at q1 q2
  rw [e108lt]
  simp only [q1, q2, bindR1 hb, hk, cond_true, List.getD_cons_zero, List.getD_cons_succ, dat_i, dat_s, dat_l, dat_b, q3, bindR0]
  rfl

theorem s108le (e : Nd) (ho : e.op = [108, 101]) (x y : Th) (hx : x.ok) (hy : y.ok) : SS (.call 108 [.agg (e.a2 [x, y])] []) = some (.ret false [45, 4] [.bool (ltZ x.sp y.sp true).t, .bool (ltZ x.sp y.sp true).f, .bool (ltZ x.sp y.sp true).n, .bool true] []) := by
  have q1 := s148 e [x, y] 0 x rfl
  have q2 := s148 e [x, y] 1 y rfl
  have hb := nbk e [x, y]
  have hk := nkept e [x, y]
  have q3 := s154 x.sp y.sp true (sp_ok hx) (sp_ok hy)
  unfold Sp.a at q3
  unfold Sp.d at q1 q2
  unfold Nd.a2 at q1 q2 hb hk ⊢
  rw [ho] at q1 q2 hb hk ⊢
  simp only [ci0, ci1] at q1 q2
  rw [e108le]
  simp only [q1, q2, bindR1 hb, hk, cond_true, List.getD_cons_zero, List.getD_cons_succ, dat_i, dat_s, dat_l, dat_b, q3, bindR0]
  rfl

theorem s108gt (e : Nd) (ho : e.op = [103, 116]) (x y : Th) (hx : x.ok) (hy : y.ok) : SS (.call 108 [.agg (e.a2 [x, y])] []) = some (.ret false [45, 4] [.bool (ltZ y.sp x.sp false).t, .bool (ltZ y.sp x.sp false).f, .bool (ltZ y.sp x.sp false).n, .bool true] []) := by
  have q1 := s148 e [x, y] 0 x rfl
  have q2 := s148 e [x, y] 1 y rfl
  have hb := nbk e [x, y]
  have hk := nkept e [x, y]
  have q3 := s154 y.sp x.sp false (sp_ok hy) (sp_ok hx)
  unfold Sp.a at q3
  unfold Sp.d at q1 q2
  unfold Nd.a2 at q1 q2 hb hk ⊢
  rw [ho] at q1 q2 hb hk ⊢
  simp only [ci0, ci1] at q1 q2
  rw [e108gt]
  simp only [q1, q2, bindR1 hb, hk, cond_true, List.getD_cons_zero, List.getD_cons_succ, dat_i, dat_s, dat_l, dat_b, q3, bindR0]
  rfl

theorem s108ge (e : Nd) (ho : e.op = [103, 101]) (x y : Th) (hx : x.ok) (hy : y.ok) : SS (.call 108 [.agg (e.a2 [x, y])] []) = some (.ret false [45, 4] [.bool (ltZ y.sp x.sp true).t, .bool (ltZ y.sp x.sp true).f, .bool (ltZ y.sp x.sp true).n, .bool true] []) := by
  have q1 := s148 e [x, y] 0 x rfl
  have q2 := s148 e [x, y] 1 y rfl
  have hb := nbk e [x, y]
  have hk := nkept e [x, y]
  have q3 := s154 y.sp x.sp true (sp_ok hy) (sp_ok hx)
  unfold Sp.a at q3
  unfold Sp.d at q1 q2
  unfold Nd.a2 at q1 q2 hb hk ⊢
  rw [ho] at q1 q2 hb hk ⊢
  simp only [ci0, ci1] at q1 q2
  rw [e108ge]
  simp only [q1, q2, bindR1 hb, hk, cond_true, List.getD_cons_zero, List.getD_cons_succ, dat_i, dat_s, dat_l, dat_b, q3, bindR0]
  rfl
end Go.Ab
end

section
set_option linter.unusedSimpArgs false
/-! What zone.look does with an expression's kids. -/
set_option autoImplicit false
set_option linter.unusedVariables false
namespace Go.Ab
attribute [local congr] cond_cg bindR_cg

/-- A head's cells. -/
structure Hea where
  cols : List (List Dat)
  rows : Int
  first : Int
  last : Int
  stats : List (List Dat)
  paths : List (List Dat)
noncomputable def Hea.a (h : Hea) : List AV := [.d (.lst 83 h.cols), .d (.int .i64 h.rows), .d (.int .i64 h.first), .d (.int .i64 h.last), .d (.lst 43 h.stats), .d (.lst 86 h.paths)]
/-- A kid's cells. -/
noncomputable def ndR (r : List Dat) : Nd := ⟨(r.getD 0 .nilP).s, (r.getD 1 .nilP).s, ⟨(r.getD 2 .nilP).i, (r.getD 3 .nilP).i, (r.getD 4 .nilP).s, (r.getD 5 .nilP).l, (r.getD 6 .nilP).l⟩, (r.getD 7 .nilP).l, (r.getD 8 .nilP).l⟩

noncomputable def lkKey (h : Hea) (e : Nd) (vals : List (List Dat)) (xs : List Th) (i : Nat) : Key := .pt 48 [] 1018 { tmps := [(2, .ptr 1002 0), (3, .ptr 1003 0), (7, .ptr 1007 0), (8, .own 32 vals), (55, .d (.lst 36 e.ks)), (56, .d (.int .i64 (e.ks.length : Int))), (57, .d (.int .i64 (i : Int)))], boxes := [(1002, [.d (.lst 83 h.cols), .d (.int .i64 h.rows), .d (.int .i64 h.first), .d (.int .i64 h.last), .d (.lst 43 h.stats), .d (.lst 86 h.paths)]), (1003, [.d (.str e.op), .d (.str e.nm), .d (.int .i64 e.v.k), .d (.int .i64 e.v.n), .d (.str e.v.t), .d (.lst 32 e.v.l), .d (.lst 9 e.v.ks), .d (.lst 119 e.p), .d (.lst 36 e.ks)]), (1007, [.d (.str e.op), .d (.str e.nm), .d (.int .i64 e.v.k), .d (.int .i64 e.v.n), .d (.str e.v.t), .d (.lst 32 e.v.l), .d (.lst 9 e.v.ks), .d (.lst 119 e.p), .d (.lst 36 e.ks), .own 97 (ths xs)])] }

theorem z97 : (tb.T 97).zok = true := by kernel_rfl
theorem tag97 : isTag 97 = false := by kernel_rfl
theorem rk97 (t : TypeId) (c : List Dat) : rowsOk tb.T (tb.T 97).cells [[.ifc t c]] = true := by kernel_rfl
theorem th_rk (x : Th) : rowsOk tb.T (tb.T 97).cells [[x.d]] = true := by cases x <;> exact rk97 _ _
theorem ths_snoc (l : List Th) (x : Th) : ths l ++ [[x.d]] = ths (l ++ [x]) := by simp [ths]

theorem look_step (h : Hea) (e : Nd) (vals : List (List Dat)) (xs : List Th) (i : Nat) (hi : i < e.ks.length) (x : Th) (hx : x.ok) (hv : vals.length ≤ 1000000) (hl : xs.length ≤ 1000000) (hk : e.ks.length ≤ 1000000)
    (hkid : SS (.call 48 [.agg h.a, .agg (ndR (e.ks.getD i [])).a] []) = some (.ret false [97] [x.d] [])) :
    SS (lkKey h e vals xs i) = SS (lkKey h e (vals ++ cond (oneB x.sp) [(oneR x.sp).d] []) (xs ++ [x]) (i + 1)) := by
  have g1 : decide ((i : Int) < (e.ks.length : Int)) = true := by simp [hi]
  have g2 : decide ((0 : Int) ≤ (i : Int)) = true := by simp
  have gw : IntKind.i64.wrap ((i : Int) + 1) = ((i + 1 : Nat) : Int) := ixw (by omega)
  have q1 := iv x
  have q2 := s106 x.sp (sp_ok hx)
  unfold Sp.d at q1
  unfold Sp.a at q2
  unfold Hea.a Nd.a ndR at hkid
  have m1 : decide (((ths xs).length + 1) * 16 ≤ 140737488355328) = true := by rw [ths_len, decide_eq_true_eq]; omega
  have m2 : decide ((vals.length + 1) * 80 ≤ 140737488355328) = true := by rw [decide_eq_true_eq]; omega
  have m3 : decide ((1 : Nat) ≤ 16777216) = true := by decide
  unfold lkKey
  rw [p48_1018]
  simp only [g1, g2, Bool.and_self, cond_true, Int.toNat_natCast, hkid, bindR0, List.getD_cons_zero, List.length_cons, List.length_nil, Nat.zero_add, nbq, z97, th_rk, tag97, Bool.not_false, m1, m3, q1, List.getD_cons_succ, dat_b, dat_i, dat_s, dat_l, q2, gw, ths_snoc]
  cases hb : oneB x.sp with
  | true => simp only [cond_true, m2]; rfl
  | false => simp only [cond_false, List.append_nil]

/-- Behind the last kid. -/
theorem look_end1 (h : Hea) (e : Nd) (vals : List (List Dat)) (xs : List Th) (hl : vals.length = e.ks.length) (w : Rw)
    (hd : SS (.call 107 [.agg e.a, .d (.lst 32 vals)] []) = some (.ret false [32] w.d [])) :
    SS (lkKey h e vals xs e.ks.length) = some (.ret false [97] [(Th.val (justS w)).d] []) := by
  have g1 : decide ((e.ks.length : Int) < (e.ks.length : Int)) = false := by simp
  have g2 : ((vals.length : Int) == (e.ks.length : Int)) = true := by simp [hl]
  have q := s104 w
  unfold Nd.a Rw.d at hd
  unfold Sp.d at q
  unfold lkKey
  rw [p48_1018]
  simp only [g1, g2, cond_false, cond_true, hd, bindR0, List.getD_cons_zero, List.getD_cons_succ, dat_b, dat_i, dat_s, dat_l, q]
  rfl
theorem look_end2 (h : Hea) (e : Nd) (vals : List (List Dat)) (xs : List Th) (hl : vals.length ≠ e.ks.length) (z : Zn)
    (hd : SS (.call 108 [.agg (e.a2 xs)] []) = some (.ret false [45, 4] [.bool z.t, .bool z.f, .bool z.n, .bool true] [])) :
    SS (lkKey h e vals xs e.ks.length) = some (.ret false [97] [(Th.tru z).d] []) := by
  have g1 : decide ((e.ks.length : Int) < (e.ks.length : Int)) = false := by simp
  have g2 : ((vals.length : Int) == (e.ks.length : Int)) = false := by simp; omega
  unfold Nd.a2 at hd
  unfold lkKey
  rw [p48_1018]
  simp only [g1, g2, cond_false, cond_true, hd, bindR0, List.getD_cons_zero, List.getD_cons_succ, dat_b, dat_i, dat_s, dat_l]
  rfl

theorem s105n (h : Hea) (e : Nd) (hg : (e.op == [103, 101, 116]) = false) : SS (.call 105 [.agg h.a, .agg e.a] []) = some (.ret false [43, 4]
      [Dat.int IntKind.i64 0, Dat.int IntKind.i64 0, Dat.int IntKind.i64 0, Dat.int IntKind.i64 0, Dat.str [], Dat.lst 32 [], Dat.lst 9 [], Dat.int IntKind.i64 0, Dat.int IntKind.i64 0, Dat.str [], Dat.lst 32 [], Dat.lst 9 [],
        Dat.bool false] []) := by
  unfold Hea.a Nd.a
  rw [e105, hg]
  rfl

/-- An operation that is no column, no constant, nothing that is known. -/
theorem look_op (h : Hea) (e : Nd) (h1 : (e.op == [99, 111, 108]) = false) (h2 : (e.op == [99, 111, 110, 115, 116]) = false) (hg : (e.op == [103, 101, 116]) = false) :
    SS (.call 48 [.agg h.a, .agg e.a] []) = SS (lkKey h e [] [] 0) := by
  have q := s105n h e hg
  unfold Hea.a Nd.a at q ⊢
  rw [e48, h1, h2, cond_false, cond_false, q, bindR0]
  rfl
theorem look_const (h : Hea) (e : Nd) (h1 : e.op = [99, 111, 110, 115, 116]) : SS (.call 48 [.agg h.a, .agg e.a] []) = some (.ret false [97] [(Th.val (justS e.v)).d] []) := by
  have q := s104 e.v
  unfold Sp.d at q
  unfold Hea.a Nd.a
  rw [h1, e48, q]
  simp only [bindR0]
  rfl

/-- What is known of a column. -/
noncomputable def statS (r : List Dat) : Sp := ⟨decide ((r.getD 1 .nilP).i > 0), decide ((r.getD 1 .nilP).i < (r.getD 0 .nilP).i), decide ((r.getD 1 .nilP).i < (r.getD 0 .nilP).i),
  ⟨(r.getD 2 .nilP).i, (r.getD 3 .nilP).i, (r.getD 4 .nilP).s, (r.getD 5 .nilP).l, (r.getD 6 .nilP).l⟩, ⟨(r.getD 7 .nilP).i, (r.getD 8 .nilP).i, (r.getD 9 .nilP).s, (r.getD 10 .nilP).l, (r.getD 11 .nilP).l⟩⟩
theorem look_col (h : Hea) (e : Nd) (h1 : e.op = [99, 111, 108]) (hc : h.cols.length < 4611686018427387904) (i : Nat) (hp : place h.cols e.nm = (i : Int)) (hi : i < h.stats.length) :
    SS (.call 48 [.agg h.a, .agg e.a] []) = some (.ret false [97] [(Th.val (statS (h.stats.getD i []))).d] []) := by
  unfold Hea.a Nd.a
  rw [h1, e48, s103 _ _ hc, bindR0, hp]
  have g := idx_ok h.stats i hi
  show (bif (decide ((0 : Int) ≤ (i : Int)) && decide ((i : Int) < (h.stats.length : Int))) then _ else _) = _
  rw [g, cond_true]
  simp only [rsi, Int.toNat_natCast, e102, bindR0]
  rfl
end Go.Ab
end

section
set_option linter.unusedSimpArgs false
/-! expr.Do of comparisons; the zone of the law's expression. -/
set_option autoImplicit false
set_option linter.unusedVariables false
namespace Go.Ab
attribute [local congr] cond_cg bindR_cg

/-- How two values compare. -/
noncomputable def cmpD (any : Bool) (q : Int → Bool) (a b : Rw) : Rw :=
  cond (a.k == 0) nullR <| cond (b.k == 0) nullR <| cond (!any && ((a.k != b.k) || decide (a.k > 3))) nullR (truthR (q (a.ord b)))

theorem s281_250 (any : Bool) (e : Nd) (a b : Rw) (ha : a.ok) (hb : b.ok) : SS (.call 281 [.agg e.a, .d (.lst 32 [a.d, b.d]), .dptr 4 0 [.bool any], .dptr 175 0 [.fn 250 []]] []) = some (.ret false [32] (cmpD any (fun c => c == 0) a b).d []) := by
  have q1 := s70r ha hb
  unfold Nd.a
  rw [e281_250]
  simp only [Rw.d, List.length_cons, List.length_nil, Nat.zero_add, Nat.reduceAdd, ci2, Int.reduceLT, Int.reduceLE, decide_true, Bool.and_self, cond_true, List.getD_cons_zero, List.getD_cons_succ, dat_i, dat_s, dat_l, q1, bindR0, rsi, e250, rsb, s101, e232]
  unfold cmpD
  cases (a.k == 0) with
  | true => rfl
  | false => cases (b.k == 0) with
    | true => rfl
    | false => cases any with
      | true => rfl
      | false => cases (a.k != b.k) with
        | true => rfl
        | false => cases decide (a.k > 3) <;> rfl
theorem s107eq (e : Nd) (ho : e.op = [101, 113]) (a b : Rw) (ha : a.ok) (hb : b.ok) : SS (.call 107 [.agg e.a, .d (.lst 32 [a.d, b.d])] []) = some (.ret false [32] (cmpD true (fun c => c == 0) a b).d []) := by
  have h := s281_250 true e a b ha hb
  unfold Nd.a at h ⊢
  rw [ho] at h ⊢
  rw [e107, s147, bindR0]
  show bindR _ _ _ _ _ _ _ (SS (Key.call 281 [AV.agg [AV.d (Dat.str [101, 113]), AV.d (Dat.str e.nm), AV.d (Dat.int IntKind.i64 e.v.k), AV.d (Dat.int IntKind.i64 e.v.n), AV.d (Dat.str e.v.t), AV.d (Dat.lst 32 e.v.l), AV.d (Dat.lst 9 e.v.ks), AV.d (Dat.lst 119 e.p), AV.d (Dat.lst 36 e.ks)], AV.d (Dat.lst 32 [a.d, b.d]), AV.dptr 4 0 [Dat.bool true], AV.dptr 175 0 [Dat.fn 250 []]] [])) = _
  rw [h, bindR0]
  rfl

theorem s281_252 (any : Bool) (e : Nd) (a b : Rw) (ha : a.ok) (hb : b.ok) : SS (.call 281 [.agg e.a, .d (.lst 32 [a.d, b.d]), .dptr 4 0 [.bool any], .dptr 175 0 [.fn 252 []]] []) = some (.ret false [32] (cmpD any (fun c => decide (c < 0)) a b).d []) := by
  have q1 := s70r ha hb
  unfold Nd.a
  rw [e281_252]
  simp only [Rw.d, List.length_cons, List.length_nil, Nat.zero_add, Nat.reduceAdd, ci2, Int.reduceLT, Int.reduceLE, decide_true, Bool.and_self, cond_true, List.getD_cons_zero, List.getD_cons_succ, dat_i, dat_s, dat_l, q1, bindR0, rsi, e252, rsb, s101, e232]
  unfold cmpD
  cases (a.k == 0) with
  | true => rfl
  | false => cases (b.k == 0) with
    | true => rfl
    | false => cases any with
      | true => rfl
      | false => cases (a.k != b.k) with
        | true => rfl
        | false => cases decide (a.k > 3) <;> rfl
theorem s107lt (e : Nd) (ho : e.op = [108, 116]) (a b : Rw) (ha : a.ok) (hb : b.ok) : SS (.call 107 [.agg e.a, .d (.lst 32 [a.d, b.d])] []) = some (.ret false [32] (cmpD false (fun c => decide (c < 0)) a b).d []) := by
  have h := s281_252 false e a b ha hb
  unfold Nd.a at h ⊢
  rw [ho] at h ⊢
  rw [e107, s147, bindR0]
  show bindR _ _ _ _ _ _ _ (SS (Key.call 281 [AV.agg [AV.d (Dat.str [108, 116]), AV.d (Dat.str e.nm), AV.d (Dat.int IntKind.i64 e.v.k), AV.d (Dat.int IntKind.i64 e.v.n), AV.d (Dat.str e.v.t), AV.d (Dat.lst 32 e.v.l), AV.d (Dat.lst 9 e.v.ks), AV.d (Dat.lst 119 e.p), AV.d (Dat.lst 36 e.ks)], AV.d (Dat.lst 32 [a.d, b.d]), AV.dptr 4 0 [Dat.bool false], AV.dptr 175 0 [Dat.fn 252 []]] [])) = _
  rw [h, bindR0]
  rfl

theorem s281_253 (any : Bool) (e : Nd) (a b : Rw) (ha : a.ok) (hb : b.ok) : SS (.call 281 [.agg e.a, .d (.lst 32 [a.d, b.d]), .dptr 4 0 [.bool any], .dptr 175 0 [.fn 253 []]] []) = some (.ret false [32] (cmpD any (fun c => decide (c ≤ 0)) a b).d []) := by
  have q1 := s70r ha hb
  unfold Nd.a
  rw [e281_253]
  simp only [Rw.d, List.length_cons, List.length_nil, Nat.zero_add, Nat.reduceAdd, ci2, Int.reduceLT, Int.reduceLE, decide_true, Bool.and_self, cond_true, List.getD_cons_zero, List.getD_cons_succ, dat_i, dat_s, dat_l, q1, bindR0, rsi, e253, rsb, s101, e232]
  unfold cmpD
  cases (a.k == 0) with
  | true => rfl
  | false => cases (b.k == 0) with
    | true => rfl
    | false => cases any with
      | true => rfl
      | false => cases (a.k != b.k) with
        | true => rfl
        | false => cases decide (a.k > 3) <;> rfl
theorem s107le (e : Nd) (ho : e.op = [108, 101]) (a b : Rw) (ha : a.ok) (hb : b.ok) : SS (.call 107 [.agg e.a, .d (.lst 32 [a.d, b.d])] []) = some (.ret false [32] (cmpD false (fun c => decide (c ≤ 0)) a b).d []) := by
  have h := s281_253 false e a b ha hb
  unfold Nd.a at h ⊢
  rw [ho] at h ⊢
  rw [e107, s147, bindR0]
  show bindR _ _ _ _ _ _ _ (SS (Key.call 281 [AV.agg [AV.d (Dat.str [108, 101]), AV.d (Dat.str e.nm), AV.d (Dat.int IntKind.i64 e.v.k), AV.d (Dat.int IntKind.i64 e.v.n), AV.d (Dat.str e.v.t), AV.d (Dat.lst 32 e.v.l), AV.d (Dat.lst 9 e.v.ks), AV.d (Dat.lst 119 e.p), AV.d (Dat.lst 36 e.ks)], AV.d (Dat.lst 32 [a.d, b.d]), AV.dptr 4 0 [Dat.bool false], AV.dptr 175 0 [Dat.fn 253 []]] [])) = _
  rw [h, bindR0]
  rfl

theorem s281_254 (any : Bool) (e : Nd) (a b : Rw) (ha : a.ok) (hb : b.ok) : SS (.call 281 [.agg e.a, .d (.lst 32 [a.d, b.d]), .dptr 4 0 [.bool any], .dptr 175 0 [.fn 254 []]] []) = some (.ret false [32] (cmpD any (fun c => decide (c > 0)) a b).d []) := by
  have q1 := s70r ha hb
  unfold Nd.a
  rw [e281_254]
  simp only [Rw.d, List.length_cons, List.length_nil, Nat.zero_add, Nat.reduceAdd, ci2, Int.reduceLT, Int.reduceLE, decide_true, Bool.and_self, cond_true, List.getD_cons_zero, List.getD_cons_succ, dat_i, dat_s, dat_l, q1, bindR0, rsi, e254, rsb, s101, e232]
  unfold cmpD
  cases (a.k == 0) with
  | true => rfl
  | false => cases (b.k == 0) with
    | true => rfl
    | false => cases any with
      | true => rfl
      | false => cases (a.k != b.k) with
        | true => rfl
        | false => cases decide (a.k > 3) <;> rfl
theorem s107gt (e : Nd) (ho : e.op = [103, 116]) (a b : Rw) (ha : a.ok) (hb : b.ok) : SS (.call 107 [.agg e.a, .d (.lst 32 [a.d, b.d])] []) = some (.ret false [32] (cmpD false (fun c => decide (c > 0)) a b).d []) := by
  have h := s281_254 false e a b ha hb
  unfold Nd.a at h ⊢
  rw [ho] at h ⊢
  rw [e107, s147, bindR0]
  show bindR _ _ _ _ _ _ _ (SS (Key.call 281 [AV.agg [AV.d (Dat.str [103, 116]), AV.d (Dat.str e.nm), AV.d (Dat.int IntKind.i64 e.v.k), AV.d (Dat.int IntKind.i64 e.v.n), AV.d (Dat.str e.v.t), AV.d (Dat.lst 32 e.v.l), AV.d (Dat.lst 9 e.v.ks), AV.d (Dat.lst 119 e.p), AV.d (Dat.lst 36 e.ks)], AV.d (Dat.lst 32 [a.d, b.d]), AV.dptr 4 0 [Dat.bool false], AV.dptr 175 0 [Dat.fn 254 []]] [])) = _
  rw [h, bindR0]
  rfl

theorem s281_255 (any : Bool) (e : Nd) (a b : Rw) (ha : a.ok) (hb : b.ok) : SS (.call 281 [.agg e.a, .d (.lst 32 [a.d, b.d]), .dptr 4 0 [.bool any], .dptr 175 0 [.fn 255 []]] []) = some (.ret false [32] (cmpD any (fun c => decide (c ≥ 0)) a b).d []) := by
  have q1 := s70r ha hb
  unfold Nd.a
  rw [e281_255]
  simp only [Rw.d, List.length_cons, List.length_nil, Nat.zero_add, Nat.reduceAdd, ci2, Int.reduceLT, Int.reduceLE, decide_true, Bool.and_self, cond_true, List.getD_cons_zero, List.getD_cons_succ, dat_i, dat_s, dat_l, q1, bindR0, rsi, e255, rsb, s101, e232]
  unfold cmpD
  cases (a.k == 0) with
  | true => rfl
  | false => cases (b.k == 0) with
    | true => rfl
    | false => cases any with
      | true => rfl
      | false => cases (a.k != b.k) with
        | true => rfl
        | false => cases decide (a.k > 3) <;> rfl
theorem s107ge (e : Nd) (ho : e.op = [103, 101]) (a b : Rw) (ha : a.ok) (hb : b.ok) : SS (.call 107 [.agg e.a, .d (.lst 32 [a.d, b.d])] []) = some (.ret false [32] (cmpD false (fun c => decide (c ≥ 0)) a b).d []) := by
  have h := s281_255 false e a b ha hb
  unfold Nd.a at h ⊢
  rw [ho] at h ⊢
  rw [e107, s147, bindR0]
  show bindR _ _ _ _ _ _ _ (SS (Key.call 281 [AV.agg [AV.d (Dat.str [103, 101]), AV.d (Dat.str e.nm), AV.d (Dat.int IntKind.i64 e.v.k), AV.d (Dat.int IntKind.i64 e.v.n), AV.d (Dat.str e.v.t), AV.d (Dat.lst 32 e.v.l), AV.d (Dat.lst 9 e.v.ks), AV.d (Dat.lst 119 e.p), AV.d (Dat.lst 36 e.ks)], AV.d (Dat.lst 32 [a.d, b.d]), AV.dptr 4 0 [Dat.bool false], AV.dptr 175 0 [Dat.fn 255 []]] [])) = _
  rw [h, bindR0]
  rfl
end Go.Ab
end

/- Part 19 of the proof that this seat's laws lean on: an abstract machine over the model's code, its soundness, and what it says of this program. -/
import Derived.Test.YticeaojhadjaaaaGreatDoorAxK
import Derived.Test.YticeaojhadjaaaaGreatDoorAxR
import Derived.Sort.Grow
import Derived.Sort.EncStr

section
set_option linter.unusedSimpArgs false
/-! expr.Names: the call of walk begins; what it ends with. -/
set_option autoImplicit false
set_option linter.unusedVariables false
namespace Go.Ab
open Go.Proofs Go.Sort

section
variable {E : Ent} {g : Gh} {w : World} {ds : List Dat} {xs : Array Value} {n : Nat}

/-- The world at the call of walk. -/
noncomputable def wN (w : World) (xs : Array Value) : World := (w.alloc (.cells xs 36)).alloc (.cells #[.slice none 0 0] 29)
theorem wN_heap : (wN w xs).heap = (w.heap.push (.cells xs 36)).push (.cells #[.slice none 0 0] 29) := rfl
theorem wN_size : (wN w xs).heap.size = w.heap.size + 2 := by rw [wN_heap]; simp
theorem wN_old {b : Nat} (h : b < w.heap.size) : (wN w xs).heap[b]? = w.heap[b]? := by
  rw [wN_heap, Array.getElem?_push, if_neg (by simp; omega), Array.getElem?_push, if_neg (by omega)]
theorem wN_new : (wN w xs).heap[w.heap.size + 1]? = some (.cells #[.slice none 0 0] 29 (0, 0)) := by
  rw [wN_heap, Array.getElem?_push, if_pos (by simp)]

noncomputable def E2 (w : World) (g : Gh) (xs : Array Value) (n : Nat) : Ent := { w0 := wN w xs, pub0 := g.pub, W := fun b => b = w.heap.size + 1, nx := 1, xb := fun _ => w.heap.size + 1, n := n }
noncomputable def g2 (w : World) (g : Gh) : Gh := { pub := g.pub, bl := fun _ => w.heap.size + 1, ot := fun _ => undef, oc := fun _ _ => .slice none 0 0 }
noncomputable def st2 (ds : List Dat) : St := ⟨numbered 0 [.agg (ds.map .d), .fn 176 [.ptr 0 0]], boxesFrom 0 [[.own 9 []]]⟩
noncomputable def vals2 (w : World) (xs : Array Value) : Array Value := #[.agg xs, .func (.func 176) #[] #[.pointer (some ⟨w.heap.size + 1, 0, none⟩)]]

theorem rdr_wN (hpub : ∀ b, g.pub b → b < w.heap.size) : ∀ b i v, rdr w g.pub b i v → rdr (wN w xs) g.pub b i v := fun b i v ⟨h1, h2⟩ => by
  refine ⟨h1, ?_⟩
  unfold World.cell? at h2 ⊢
  simp only [wN_old (hpub b h1)]
  exact h2

theorem st2_get (t : Nat) : (st2 ds).get t = if t = 0 then .agg (ds.map .d) else if t = 1 then .fn 176 [.ptr 0 0] else .undef := by
  show getA t (numbered 0 [.agg (ds.map .d), .fn 176 [.ptr 0 0]]) = _
  rw [getA_numbered]
  match t with
  | 0 => rfl
  | 1 => rfl
  | t + 2 => simp
theorem st2_box (i : Nat) : (st2 ds).box i = if i = 0 then some [.own 9 []] else none := by
  show getB i (boxesFrom 0 [[.own 9 []]]) = _
  rw [getB_from]
  match i with
  | 0 => rfl
  | i + 1 => simp
theorem st2_cell (id off : Nat) : cellAt (st2 ds) id off = if id = 0 ∧ off = 0 then .own 9 [] else .undef := by
  unfold cellAt
  rw [st2_box]
  match id, off with
  | 0, 0 => rfl
  | 0, o + 1 => simp
  | i + 1, o => simp

theorem map_d_free (ds : List Dat) : (ds.map AV.d).flatMap idL = [] := by
  rw [List.flatMap_eq_nil_iff]
  intro y hy
  obtain ⟨d, _, rfl⟩ := List.mem_map.1 hy
  rfl

theorem hb2 (hd : Hd) : hb (g2 w g) (st2 ds) hd = match hd with | .box 0 => some (w.heap.size + 1) | _ => none := by
  cases hd with
  | box id =>
    match id with
    | 0 => simp [hb, st2_box, g2]
    | id + 1 => simp [hb, st2_box]
  | tmp t =>
    have : isOwn ((st2 ds).get t) = false := by rw [st2_get]; split; rfl; split <;> rfl
    simp [hb, this]
  | cell id off =>
    have e : hb (g2 w g) (st2 ds) (.cell id off) = if isOwn (cellAt (st2 ds) id off) = true then ownB (.slice none 0 0) else none := rfl
    rw [e]
    split <;> rfl

theorem rel175 (hcs : CsRel tyTab (rdr w g.pub) g.bl (ds.map .d) xs) (hpub : ∀ b, g.pub b → b < w.heap.size) (hn : 2 ≤ n) : Rel tyTab (E2 w g xs n) (g2 w g) (st2 ds) (subA (vals2 w xs) n) (wN w xs) := by
  have htm : ∀ t, (subA (vals2 w xs) n).tmps.getD t undef = if t = 0 then .agg xs else if t = 1 then .func (.func 176) #[] #[.pointer (some ⟨w.heap.size + 1, 0, none⟩)] else undef := fun t => by
    show (vals2 w xs ++ Array.replicate (n - (vals2 w xs).size) undef).getD t undef = _
    have hs : (vals2 w xs).size = 2 := rfl
    match t with
    | 0 => simp [Array.getD_eq_getD_getElem?, Array.getElem?_append, hs]; rfl
    | 1 => simp [Array.getD_eq_getD_getElem?, Array.getElem?_append, hs]; rfl
    | t + 2 =>
      rw [if_neg (by omega), if_neg (by omega)]
      simp only [Array.getD_eq_getD_getElem?, Array.getElem?_append, hs, Array.getElem?_replicate]
      rw [if_neg (by omega)]
      split <;> rfl
  refine { tm := fun t => ?_, bx := fun id cs hc => ?_, ex := fun h h' b hh hh' => ?_, hp := fun h b hh => ?_, pb := fun b hb => ⟨?_, fun _ => .inl hb⟩, p0 := fun b hb => hb, keep := fun _ _ _ => rfl, wo := ⟨rfl, rfl, rfl⟩, sz := Nat.le_refl _, al := fun t u hr => ?_, pr := fun t id hid => ?_, prb := fun id off id' hid => ?_, xt := fun i hi => ?_, df := rfl, ns := ?_ }
  · rw [st2_get, htm]
    by_cases h0 : t = 0
    · rw [if_pos h0, if_pos h0]
      refine ⟨xs, rfl, hcs.mono (rdr_wN hpub) fun id hid => ?_⟩
      rw [map_d_free] at hid
      cases hid
    · rw [if_neg h0, if_neg h0]
      by_cases h1 : t = 1
      · rw [if_pos h1, if_pos h1]
        refine ⟨_, rfl, rfl, fun j hj => ?_⟩
        obtain rfl : j = 0 := by simpa using hj
        rfl
      · rw [if_neg h1, if_neg h1]
        trivial
  · rw [st2_box] at hc
    split at hc
    · rename_i h0
      subst h0
      cases hc
      refine ⟨_, 29, (0, 0), wN_new, rfl, fun i hi => by omega, fun j hj => ?_⟩
      obtain rfl : j = 0 := by simpa using hj
      exact ⟨.inl ⟨rfl, by kernel_rfl, none, rfl⟩, rfl⟩
    · cases hc
  · rw [hb2] at hh hh'
    match h, h' with
    | .box 0, .box 0 => rfl
    | .box 0, .box (i + 1) => cases hh'
    | .box (i + 1), _ => cases hh
    | .tmp _, _ => cases hh
    | .cell _ _, _ => cases hh
    | .box 0, .tmp _ => cases hh'
    | .box 0, .cell _ _ => cases hh'
  · rw [hb2] at hh
    match h with
    | .box 0 =>
      cases hh
      refine ⟨fun hp => ?_, by rw [wN_size]; omega, .inr rfl⟩
      have := hpub _ hp
      omega
    | .box (i + 1) => cases hh
    | .tmp _ => cases hh
    | .cell _ _ => cases hh
  · have := hpub b hb
    rw [wN_size]
    omega
  · rw [st2_get] at hr
    split at hr
    · cases hr
    · split at hr <;> cases hr
  · rw [st2_get] at hid
    split at hid
    · rw [show idsOf (.agg (ds.map AV.d)) = [] from map_d_free ds] at hid
      cases hid
    · split at hid
      · have : id = 0 := by simpa [idsOf, idL] using hid
        subst this
        rw [st2_box]; rfl
      · cases hid
  · rw [st2_cell] at hid
    split at hid <;> cases hid
  · have hi' : i < 1 := hi
    obtain rfl : i = 0 := by omega
    exact ⟨by rw [st2_box]; rfl, rfl⟩
  · show (vals2 w xs ++ Array.replicate (n - (vals2 w xs).size) undef).size = n
    have hs : (vals2 w xs).size = 2 := rfl
    simp [hs]; omega

noncomputable def stE (rows : List (List Dat)) : St := endSt AV.undef (List.zipWith endCells [[AV.own 9 []]] [[(Dat.lst 9 rows, true)]])

/-- What is known behind the call of walk. -/
structure After (w : World) (g : Gh) (rows : List (List Dat)) (v : Value) (w3 : World) : Prop where
  wo : w3.os = w.os ∧ w3.tape = w.tape ∧ w3.output = w.output
  old : ∀ b, b < w.heap.size → w3.heap[b]? = w.heap[b]?
  sz : w.heap.size + 2 ≤ w3.heap.size
  cell : w3.cell? ⟨w.heap.size + 1, 0, none⟩ = some v
  own : ∃ R, OwnRel tyTab R w3 9 rows v
  blk : ∀ b, ownB v = some b → w.heap.size + 2 ≤ b ∧ b < w3.heap.size

theorem after175 {rows : List (List Dat)} {e : Ending} {w3 : World} (hpub : ∀ b, g.pub b → b < w.heap.size) (h : Post tyTab (E2 w g xs n) [[.own 9 []]] (.ret false [] [] [[(.lst 9 rows, true)]]) e w3) :
    e = .returned (.tuple #[]) ∧ ∃ v, w3.cell? ⟨w.heap.size + 1, 0, none⟩ = some v ∧ After w g rows v w3 := by
  cases e with
  | panicked chain => exact h.elim
  | outgrown => exact h.elim
  | returned v0 =>
    obtain ⟨g', rv, hR0, _, _, h4⟩ := h
    rcases h4 with ⟨h5, _⟩ | ⟨_, rfl, h6⟩
    · cases h5
    · have hR : Rel tyTab { E2 w g xs n with n := 1 } g' (stE rows) ⟨#[v0], []⟩ w3 := hR0
      have hv0 : v0 = .tuple #[] := by
        rcases h6 with ⟨t', h7, _⟩ | ⟨_, vs, h7, h8⟩
        · cases h7
        · rw [h7]
          have : vs.toList = [] := by
            cases hl : vs.toList with
            | nil => rfl
            | cons a l => rw [hl] at h8; exact h8.elim
          congr 1
          exact Array.toList_eq_nil_iff.1 this
      subst hv0
      have hbox : (stE rows).box 0 = some [.own 9 rows] := by
        unfold stE
        rw [endSt_box]; rfl
      obtain ⟨cur, ty, fr, b1, b2, b3, b4⟩ := hR.bx 0 _ hbox
      have hbl : g'.bl 0 = w.heap.size + 1 := (hR.xt 0 (show 0 < 1 by omega)).2
      rw [hbl] at b1
      have b2' : cur.size = 1 := b2
      have hc := b4 0 (by simp)
      obtain ⟨hown, hoc⟩ : OwnRel tyTab (rdr w3 g'.pub) w3 9 rows (cur.getD 0 undef) ∧ g'.oc 0 0 = cur.getD 0 undef := hc
      have hcur : cur[0]? = some (cur.getD 0 undef) := by
        rw [Array.getElem?_eq_getElem (by omega), Array.getD_eq_getD_getElem?, Array.getElem?_eq_getElem (by omega)]
        rfl
      have hcell : w3.cell? ⟨w.heap.size + 1, 0, none⟩ = some (cur.getD 0 undef) := by
        unfold World.cell?
        simp only [b1]
        exact hcur
      refine ⟨rfl, cur.getD 0 undef, hcell, ?_⟩
      have hsz : (wN w xs).heap.size ≤ w3.heap.size := hR.sz
      rw [wN_size] at hsz
      refine { wo := hR.wo, old := fun b hb => ?_, sz := hsz, cell := hcell, own := ⟨_, hown⟩, blk := fun b hb => ?_ }
      · have := hR.keep b (by show b < (wN w xs).heap.size; rw [wN_size]; omega) (by show ¬ b = w.heap.size + 1; omega)
        rw [this]
        exact wN_old hb
      · have hcl : cellAt (stE rows) 0 0 = .own 9 rows := by
          unfold cellAt
          rw [hbox]; rfl
        have hh : Go.Ab.hb g' (stE rows) (.cell 0 0) = some b := by
          have e : Go.Ab.hb g' (stE rows) (.cell 0 0) = if isOwn (cellAt (stE rows) 0 0) = true then ownB (g'.oc 0 0) else none := rfl
          rw [e, hcl, hoc]
          exact hb
        have hh0 : Go.Ab.hb g' (stE rows) (.box 0) = some (w.heap.size + 1) := by
          have e : Go.Ab.hb g' (stE rows) (.box 0) = if ((stE rows).box 0).isSome = true then some (g'.bl 0) else none := rfl
          rw [e, hbox, hbl]; rfl
        obtain ⟨_, q2, q3⟩ := hR.hp _ _ hh
        refine ⟨?_, q2⟩
        rcases q3 with q3 | q3
        · have q3' : (wN w xs).heap.size ≤ b := q3
          rw [wN_size] at q3'
          exact q3'
        · exfalso
          have q3' : b = w.heap.size + 1 := q3
          subst q3'
          cases hR.ex _ _ _ hh hh0
end
end Go.Ab
end

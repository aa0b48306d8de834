/- Part 21 of the proof that this seat's laws lean on: an abstract machine over the model's code, its soundness, and what it says of this program. -/
import Derived.Test.YticeaojhadjaaaaGreatDoorAxQ
import Derived.Test.YticeaojhadjaaaaGreatDoorAxS
import Derived.Test.YticeaojhadjaaaaGreatDoorAxT
import Derived.WalkKit

section
set_option linter.unusedSimpArgs false
/-! expr.Names: sorting, leaving out what is told twice; the end. -/
set_option autoImplicit false
set_option linter.unusedVariables false
set_option maxRecDepth 100000
namespace Go.Ab
open Go.Proofs Go.Sort Go.RowKit

theorem walk127 (x0 x1 x2 x3 x4 x5 x6 x7 x8 : Value) (w : World) (Q : Ending → World → Prop) (Q3 : Value → World → Prop) (Q4 : Value → World → Prop)
    (h175 : Calls Tryz.prog 175 #[.agg #[x0, x1, x2, x3, x4, x5, x6, x7, x8], .func (.func 176) #[] #[.pointer (some ⟨w.heap.size + 1, 0, none⟩)]] ((w.alloc (.cells #[x0, x1, x2, x3, x4, x5, x6, x7, x8] 36)).alloc (.cells #[.slice none 0 0] 29)) fun e w3 => e = .returned (.tuple #[]) ∧ ∃ v, w3.cell? ⟨w.heap.size + 1, 0, none⟩ = some v ∧ Q3 v w3)
    (h177 : ∀ v w3, Q3 v w3 → Calls Tryz.prog 177 #[v] w3 fun e w4 => e = .returned (.tuple #[]) ∧ w4.cell? ⟨w.heap.size + 1, 0, none⟩ = some v ∧ Q4 v w4)
    (h178 : ∀ v w4, Q4 v w4 → Calls Tryz.prog 178 #[v] w4 fun e w5 => ∃ v', e = .returned v' ∧ Q (.returned v') w5) : Calls Tryz.prog 127 #[.agg #[x0, x1, x2, x3, x4, x5, x6, x7, x8]] w Q := by
  go_enter Tryz.func127, Tryz.ntmps127
  go_wp2_with (first
    | (refine h175.mono ?_; rintro e w3 ⟨rfl, v, hc, hQ⟩)
    | (refine (h177 _ _ ‹_›).mono ?_; rintro e w4 ⟨rfl, hc4, hQ4⟩)
    | (refine (h178 _ _ ‹_›).mono ?_; rintro e w5 ⟨v', rfl, hQ5⟩))
  exact hQ5

theorem heap_putRow_ne {α : Type} [Inhabited α] (enc : α → Value) (w : World) (blk off : Nat) (d : Array α) {x : Nat} (h : x ≠ blk) : (putRow enc w blk off d).heap[x]? = w.heap[x]? := by
  show (w.heap.modify blk _)[x]? = _
  rw [Array.getElem?_modify, if_neg (fun e => h e.symm)]

theorem compact_le (zs : List (List UInt8)) : (Lib.compact zs).length ≤ zs.length := by
  unfold Lib.compact Lib.compactUpTo
  rw [List.length_map]
  exact Nat.le_trans (List.length_filter_le _ _) (by simp)

noncomputable def rowsOfS (ss : List (List UInt8)) : List (List Dat) := ss.map fun s => [.str s]
theorem rowsOfS_at {ss : List (List UInt8)} {i : Nat} (h : i < ss.length) : (rowsOfS ss).getD i [] = [.str ss[i]] := by
  unfold rowsOfS
  rw [List.getD_eq_getElem?_getD, List.getElem?_map, List.getElem?_eq_getElem h]
  rfl
theorem rowsOfS_len (ss : List (List UInt8)) : (rowsOfS ss).length = ss.length := by simp [rowsOfS]

theorem ty9 : (tyTab 9).size = 1 ∧ (tyTab 9).cells = [9] ∧ (tyTab 9).kind = .string := ⟨by kernel_rfl, by kernel_rfl, by kernel_rfl⟩

/-- What a row of texts of one's own holds. -/
theorem holds_of_own {R : Rdr} {w3 : World} {ss : List (List UInt8)} {v : Value} (h : OwnRel tyTab R w3 9 (rowsOfS ss) v) :
    (ss = [] ∧ ∃ A, v = .slice A 0 0) ∨ ∃ b cap, v = .slice (some ⟨b, 0, none⟩) ss.length cap ∧ 0 < cap ∧ ss.length ≤ cap ∧ Holds encStr w3 b 0 ss.toArray := by
  rcases h with ⟨h1, _, A, h2⟩ | ⟨_, b, cap, cur, ty, fr, vs, h1, h2, h3, h4, h5, h6, h7, h8⟩ | ⟨h0, _⟩
  · left
    refine ⟨?_, A, h2⟩
    have := congrArg List.length h1
    rw [rowsOfS_len] at this
    exact List.length_eq_zero_iff.1 this
  · right
    rw [rowsOfS_len] at h1 h4 h8
    refine ⟨b, cap, h1, h5, h4, fun j hj => ?_⟩
    have hj' : j < ss.length := by simpa using hj
    rw [ty9.1, Nat.mul_one] at h7
    obtain ⟨⟨q1, q2⟩, q3⟩ := h8 j hj'
    rw [ty9.1] at q3
    have q3 := q3 0 (by omega)
    rw [Nat.mul_one, Nat.add_zero] at q3
    rw [rowsOfS_at hj'] at q1 q2
    have q2 := (q2 0 (by simp)).1
    have hv0 : vs j 0 = encStr ss[j] := by
      generalize vs j 0 = u at q2
      cases q2
      rfl
    have he : ss.toArray[j]! = ss[j] := by
      rw [getElem!_pos _ j (by simpa using hj')]
      simp
    refine ⟨?_, ?_⟩
    · unfold World.cell?
      simp only [Nat.zero_add, h2, he, ← hv0]
      exact q3
    · unfold World.frozen?
      simp only [Nat.zero_add, h2]
      have := h3 j (by omega)
      simp only [Bool.and_eq_false_iff, decide_eq_false_iff_not]
      by_cases hl : fr.1 ≤ j
      · exact .inr (fun hh => this ⟨hl, hh⟩)
      · exact .inl hl
  · cases (show false = true from h0)

noncomputable def sorted (ss : List (List UInt8)) : List (List UInt8) := ss.mergeSort fun x y => decide (x ≤ y)
theorem sorted_len (ss : List (List UInt8)) : (sorted ss).length = ss.length := List.length_mergeSort _

/-- Old blocks are as they were. -/
structure Kept (w w' : World) : Prop where
  wo : w'.os = w.os ∧ w'.tape = w.tape ∧ w'.output = w.output
  old : ∀ b, b < w.heap.size → w'.heap[b]? = w.heap[b]?
  sz : w.heap.size + 2 ≤ w'.heap.size

/-- Behind the sorting. -/
def Q4 (w : World) (ss : List (List UInt8)) (v : Value) (w4 : World) : Prop :=
  Kept w w4 ∧ ((ss = [] ∧ ∃ A, v = .slice A 0 0) ∨ ∃ b cap, v = .slice (some ⟨b, 0, none⟩) ss.length cap ∧ 0 < cap ∧ ss.length ≤ cap ∧ w.heap.size + 2 ≤ b ∧ b < w4.heap.size ∧ Holds encStr w4 b 0 (sorted ss).toArray)

theorem kept_put {w w3 : World} {b n : Nat} {d : Array (List UInt8)} {os : Array Obj} (h : Kept w w3) (hb : w.heap.size + 2 ≤ b) : Kept w (grow (putRow encStr (Sort.ahead w3 n) b 0 d) os) := by
  refine ⟨h.wo, fun x hx => ?_, ?_⟩
  · have hs := h.sz
    rw [heap_grow_old _ _ (by simp; omega), heap_putRow_ne _ _ _ _ _ (by omega)]
    exact h.old x hx
  · have := h.sz
    simp
    omega
theorem kept_put' {w w3 : World} {b n : Nat} {d : Array (List UInt8)} (h : Kept w w3) (hb : w.heap.size + 2 ≤ b) : Kept w (putRow encStr (Sort.ahead w3 n) b 0 d) := by
  have := kept_put (n := n) (d := d) (os := #[]) h hb
  rwa [grow_empty] at this

theorem c177 {w : World} {g : Gh} {ss : List (List UInt8)} (hss : ss.length < 4611686018427387904) {v : Value} {w3 : World} (h : After w g (rowsOfS ss) v w3) :
    Calls Tryz.prog 177 #[v] w3 fun e w4 => e = .returned (.tuple #[]) ∧ w4.cell? ⟨w.heap.size + 1, 0, none⟩ = some v ∧ Q4 w ss v w4 := by
  have hk : Kept w w3 := ⟨h.wo, h.old, h.sz⟩
  obtain ⟨R, hown⟩ := h.own
  rcases holds_of_own hown with ⟨rfl, A, rfl⟩ | ⟨b, cap, rfl, hc, hle, hH⟩
  · exact (Any.slices_Sort_string_none Tryz.lays190 A 0 w3).mono fun e w4 ⟨h1, h2⟩ => by
      subst h1; subst h2
      exact ⟨rfl, h.cell, hk, .inl ⟨rfl, A, rfl⟩⟩
  · have hown' : ownB (.slice (some ⟨b, 0, none⟩) ss.length cap) = some b := by
      simp [ownB]; omega
    obtain ⟨hb1, hb2⟩ := h.blk b hown'
    exact (Any.slices_Sort_string Tryz.lays190 b 0 cap ss w3 hH hb2 hss).mono fun e w4 ⟨h1, n, os, h2⟩ => by
      subst h1; subst h2
      have hsz : (sorted ss).toArray.size = ss.toArray.size := by simp [sorted_len]
      have hH4 : Holds encStr (grow (putRow encStr (Sort.ahead w3 n) b 0 (sorted ss).toArray) os) b 0 (sorted ss).toArray :=
        holds_grow encStr _ os b 0 _ (by simpa using hb2) (holds_putRow encStr _ b 0 ss.toArray _ (holds_ahead encStr w3 n b 0 _ hH) hsz)
      refine ⟨rfl, ?_, kept_put hk hb1, .inr ⟨b, cap, rfl, hc, hle, hb1, by simp; omega, hH4⟩⟩
      have hs := h.sz
      show (grow (putRow encStr (Sort.ahead w3 n) b 0 (sorted ss).toArray) os).cell? _ = _
      rw [cell?_grow _ _ _ (by simp; omega), cell?_putRow_other _ _ _ _ _ _ (.inl (show w.heap.size + 1 ≠ b by omega)), cell?_ahead]
      exact h.cell

/-- The names: sorted, each once. -/
noncomputable def namesS (ss : List (List UInt8)) : List (List UInt8) := Lib.compact (sorted ss)

theorem c178 {w : World} {ss : List (List UInt8)} (hss : ss.length < 4611686018427387904) {v : Value} {w4 : World} (h : Q4 w ss v w4) (pub : Nat → Prop) (hpub : ∀ w5 : World, ∀ b, w.heap.size + 2 ≤ b → pub b) :
    Calls Tryz.prog 178 #[v] w4 fun e w5 => ∃ v', e = .returned v' ∧ Kept w w5 ∧ DRep tyTab (rdr w5 pub) (.lst 9 (rowsOfS (namesS ss))) v' := by
  obtain ⟨hk, ⟨rfl, A, rfl⟩ | ⟨b, cap, rfl, hc, hle, hb1, hb2, hH⟩⟩ := h
  · refine (Any.slices_Compact_string_empty Tryz.lays194 A 0 w4).mono fun e w5 ⟨h1, h2⟩ => ?_
    subst h1; subst h2
    refine ⟨_, rfl, hk, ?_⟩
    have e0 : rowsOfS (namesS []) = [] := by
      have := compact_le (sorted [])
      rw [sorted_len] at this
      have h0 : (namesS []).length = 0 := Nat.le_zero.1 this
      rw [List.length_eq_zero_iff] at h0
      rw [h0]; rfl
    rw [e0]
    exact DRep.lst 9 [] A 0 (fun _ _ => undef) (by simp) (fun h => by simp at h) (fun h => by simp at h) (fun i h => by simp at h) (fun i j h => by simp at h) (fun i j h => by simp at h)
  · have hl := sorted_len ss
    have hcall := Any.slices_Compact_string Tryz.lays194 b 0 cap (sorted ss) w4 hH (by omega) (by omega)
    rw [hl] at hcall
    refine hcall.mono fun e w5 ⟨h1, q, h2⟩ => ?_
    subst h1; subst h2
    refine ⟨_, rfl, kept_put' hk hb1, ?_⟩
    have hcl : (namesS ss).length ≤ ss.length := by
      have := compact_le (sorted ss)
      rw [hl] at this
      exact this
    have hsz : (Lib.compact (sorted ss) ++ List.replicate (ss.length - (Lib.compact (sorted ss)).length) []).toArray.size = (sorted ss).toArray.size := by
      have : (Lib.compact (sorted ss)).length ≤ ss.length := hcl
      simp [hl]; omega
    have hH5 := holds_putRow encStr _ b 0 (sorted ss).toArray _ (holds_ahead encStr w4 q b 0 _ hH) hsz
    have hd : DRep tyTab (rdr (putRow encStr (Sort.ahead w4 q) b 0 (Lib.compact (sorted ss) ++ List.replicate (ss.length - (Lib.compact (sorted ss)).length) []).toArray) pub) (.lst 9 (rowsOfS (namesS ss))) (.slice (some ⟨b, 0, none⟩) (rowsOfS (namesS ss)).length cap) := by
      refine DRep.lst 9 (rowsOfS (namesS ss)) _ cap (fun i _ => encStr ((namesS ss).getD i [])) (by rw [rowsOfS_len]; omega) (fun _ => by rw [ty9.1, ty9.2.1]; rfl) (fun _ => ⟨b, 0, rfl, fun i j hi hj => ?_⟩) (fun i hi => ?_) (fun i j hi hj => ?_) (fun i j hi hj => ?_)
      · rw [rowsOfS_len] at hi
        rw [ty9.1] at hj ⊢
        obtain rfl : j = 0 := by omega
        refine ⟨hpub (default : World) b hb1, ?_⟩
        have hi' : i < (Lib.compact (sorted ss)).length := hi
        have := (hH5 i (by rw [hsz]; simp [hl]; omega)).1
        rw [show 0 + (i * 1 + 0) = 0 + i by omega, this]
        congr 2
        rw [getElem!_pos _ i (by rw [hsz]; simp [hl]; omega)]
        rw [List.getElem_toArray, List.getElem_append_left hi']
        show _ = (Lib.compact (sorted ss)).getD i []
        rw [List.getD_eq_getElem?_getD, List.getElem?_eq_getElem hi']
        rfl
      · rw [rowsOfS_len] at hi
        rw [rowsOfS_at hi, ty9.1]; rfl
      · rw [rowsOfS_len] at hi
        rw [ty9.1] at hj
        obtain rfl : j = 0 := by omega
        rw [rowsOfS_at hi]
        show DRep _ _ (.str _) (encStr _)
        rw [List.getD_eq_getElem?_getD, List.getElem?_eq_getElem hi]
        exact .str _
      · rw [rowsOfS_len] at hi
        rw [ty9.1] at hj
        obtain rfl : j = 0 := by omega
        rw [rowsOfS_at hi, ty9.2.1]
        show WT (tyTab 9).kind (.str _)
        rw [ty9.2.2]
        trivial
    rw [rowsOfS_len] at hd
    exact hd
end Go.Ab
end

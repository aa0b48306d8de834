/- Part 26 of the proof that this seat's laws lean on: an abstract machine over the model's code, its soundness, and what it says of this program. -/
import Derived.Test.YticeaojhadjaaaaGreatDoorAxO
import Derived.Test.YticeaojhadjaaaaGreatDoorAxW

section
set_option linter.unusedSimpArgs false
/-! The operations. -/
set_option autoImplicit false
set_option linter.unusedVariables false
set_option maxRecDepth 100000
namespace Go.Ab

/-- What is looked up for an operation. -/
noncomputable def opRow (s : List UInt8) : List Dat :=
  cond (s == [103, 101, 116]) [.int .i64 1, .int .i64 1, .bool true, .bool false, .fn 245 [], .bool true] <|
  cond (s == [104, 97, 115]) [.int .i64 1, .int .i64 1, .bool true, .bool false, .fn 246 [], .bool true] <|
  cond (s == [112, 117, 116]) [.int .i64 2, .int .i64 2, .bool true, .bool false, .fn 204 [], .bool true] <|
  cond (s == [99, 97, 115, 116]) [.int .i64 1, .int .i64 1, .bool false, .bool true, .fn 206 [], .bool true] <|
  cond (s == [110, 111, 116]) [.int .i64 1, .int .i64 1, .bool false, .bool false, .fn 247 [], .bool true] <|
  cond (s == [110, 117, 108, 108]) [.int .i64 1, .int .i64 1, .bool false, .bool false, .fn 257 [], .bool true] <|
  cond (s == [110, 101, 103]) [.int .i64 1, .int .i64 1, .bool false, .bool false, .fn 194 [], .bool true] <|
  cond (s == [108, 101, 110]) [.int .i64 1, .int .i64 1, .bool false, .bool false, .fn 196 [], .bool true] <|
  cond (s == [108, 111, 119, 101, 114]) [.int .i64 1, .int .i64 1, .bool false, .bool false, .fn 197 [], .bool true] <|
  cond (s == [107, 105, 110, 100]) [.int .i64 1, .int .i64 1, .bool false, .bool false, .fn 205 [], .bool true] <|
  cond (s == [97, 110, 100]) [.int .i64 2, .int .i64 2, .bool false, .bool false, .fn 248 [], .bool true] <|
  cond (s == [111, 114]) [.int .i64 2, .int .i64 2, .bool false, .bool false, .fn 249 [], .bool true] <|
  cond (s == [101, 113]) [.int .i64 2, .int .i64 2, .bool false, .bool false, .fn 281 [.ref 4 [.bool true], .ref 175 [.fn 250 []]], .bool true] <|
  cond (s == [110, 101]) [.int .i64 2, .int .i64 2, .bool false, .bool false, .fn 281 [.ref 4 [.bool true], .ref 175 [.fn 251 []]], .bool true] <|
  cond (s == [108, 116]) [.int .i64 2, .int .i64 2, .bool false, .bool false, .fn 281 [.ref 4 [.bool false], .ref 175 [.fn 252 []]], .bool true] <|
  cond (s == [108, 101]) [.int .i64 2, .int .i64 2, .bool false, .bool false, .fn 281 [.ref 4 [.bool false], .ref 175 [.fn 253 []]], .bool true] <|
  cond (s == [103, 116]) [.int .i64 2, .int .i64 2, .bool false, .bool false, .fn 281 [.ref 4 [.bool false], .ref 175 [.fn 254 []]], .bool true] <|
  cond (s == [103, 101]) [.int .i64 2, .int .i64 2, .bool false, .bool false, .fn 281 [.ref 4 [.bool false], .ref 175 [.fn 255 []]], .bool true] <|
  cond (s == [115, 97, 109, 101]) [.int .i64 2, .int .i64 2, .bool false, .bool false, .fn 256 [], .bool true] <|
  cond (s == [97, 100, 100]) [.int .i64 2, .int .i64 2, .bool false, .bool false, .fn 231 [.ref 221 [.fn 189 []]], .bool true] <|
  cond (s == [115, 117, 98]) [.int .i64 2, .int .i64 2, .bool false, .bool false, .fn 231 [.ref 221 [.fn 190 []]], .bool true] <|
  cond (s == [109, 117, 108]) [.int .i64 2, .int .i64 2, .bool false, .bool false, .fn 231 [.ref 221 [.fn 191 []]], .bool true] <|
  cond (s == [100, 105, 118]) [.int .i64 2, .int .i64 2, .bool false, .bool false, .fn 231 [.ref 221 [.fn 192 []]], .bool true] <|
  cond (s == [109, 111, 100]) [.int .i64 2, .int .i64 2, .bool false, .bool false, .fn 231 [.ref 221 [.fn 193 []]], .bool true] <|
  cond (s == [99, 97, 116]) [.int .i64 2, .int .i64 2, .bool false, .bool false, .fn 195 [], .bool true] <|
  cond (s == [108, 105, 107, 101]) [.int .i64 2, .int .i64 2, .bool false, .bool false, .fn 199 [], .bool true] <|
  cond (s == [115, 108, 105, 99, 101]) [.int .i64 3, .int .i64 3, .bool false, .bool false, .fn 198 [], .bool true] <|
  cond (s == [105, 102]) [.int .i64 3, .int .i64 3, .bool false, .bool false, .fn 200 [], .bool true] <|
  cond (s == [102, 105, 114, 115, 116]) [.int .i64 1, .int .i64 (-1), .bool false, .bool false, .fn 201 [], .bool true] <|
  cond (s == [105, 110]) [.int .i64 2, .int .i64 (-1), .bool false, .bool false, .fn 202 [], .bool true] <|
  cond (s == [108, 105, 115, 116]) [.int .i64 0, .int .i64 (-1), .bool false, .bool false, .fn 203 [], .bool true] <|
  [.int .i64 0, .int .i64 0, .bool false, .bool false, .nilF, .bool false]
/-- What the reference has for an operation. -/
noncomputable def shRow (s : List UInt8) : List Dat :=
  cond (s == [99, 111, 108]) [.int .i64 0, .int .i64 0, .bool true, .bool false, .bool false, .bool true] <|
  cond (s == [99, 111, 110, 115, 116]) [.int .i64 0, .int .i64 0, .bool false, .bool true, .bool false, .bool true] <|
  cond (s == [103, 101, 116]) [.int .i64 1, .int .i64 1, .bool false, .bool false, .bool true, .bool true] <|
  cond (s == [104, 97, 115]) [.int .i64 1, .int .i64 1, .bool false, .bool false, .bool true, .bool true] <|
  cond (s == [112, 117, 116]) [.int .i64 2, .int .i64 2, .bool false, .bool false, .bool true, .bool true] <|
  cond (s == [99, 97, 115, 116]) [.int .i64 1, .int .i64 1, .bool true, .bool false, .bool false, .bool true] <|
  cond (s == [110, 111, 116]) [.int .i64 1, .int .i64 1, .bool false, .bool false, .bool false, .bool true] <|
  cond (s == [110, 117, 108, 108]) [.int .i64 1, .int .i64 1, .bool false, .bool false, .bool false, .bool true] <|
  cond (s == [110, 101, 103]) [.int .i64 1, .int .i64 1, .bool false, .bool false, .bool false, .bool true] <|
  cond (s == [108, 101, 110]) [.int .i64 1, .int .i64 1, .bool false, .bool false, .bool false, .bool true] <|
  cond (s == [108, 111, 119, 101, 114]) [.int .i64 1, .int .i64 1, .bool false, .bool false, .bool false, .bool true] <|
  cond (s == [107, 105, 110, 100]) [.int .i64 1, .int .i64 1, .bool false, .bool false, .bool false, .bool true] <|
  cond (s == [97, 110, 100]) [.int .i64 2, .int .i64 2, .bool false, .bool false, .bool false, .bool true] <|
  cond (s == [111, 114]) [.int .i64 2, .int .i64 2, .bool false, .bool false, .bool false, .bool true] <|
  cond (s == [101, 113]) [.int .i64 2, .int .i64 2, .bool false, .bool false, .bool false, .bool true] <|
  cond (s == [110, 101]) [.int .i64 2, .int .i64 2, .bool false, .bool false, .bool false, .bool true] <|
  cond (s == [108, 116]) [.int .i64 2, .int .i64 2, .bool false, .bool false, .bool false, .bool true] <|
  cond (s == [108, 101]) [.int .i64 2, .int .i64 2, .bool false, .bool false, .bool false, .bool true] <|
  cond (s == [103, 116]) [.int .i64 2, .int .i64 2, .bool false, .bool false, .bool false, .bool true] <|
  cond (s == [103, 101]) [.int .i64 2, .int .i64 2, .bool false, .bool false, .bool false, .bool true] <|
  cond (s == [115, 97, 109, 101]) [.int .i64 2, .int .i64 2, .bool false, .bool false, .bool false, .bool true] <|
  cond (s == [97, 100, 100]) [.int .i64 2, .int .i64 2, .bool false, .bool false, .bool false, .bool true] <|
  cond (s == [115, 117, 98]) [.int .i64 2, .int .i64 2, .bool false, .bool false, .bool false, .bool true] <|
  cond (s == [109, 117, 108]) [.int .i64 2, .int .i64 2, .bool false, .bool false, .bool false, .bool true] <|
  cond (s == [100, 105, 118]) [.int .i64 2, .int .i64 2, .bool false, .bool false, .bool false, .bool true] <|
  cond (s == [109, 111, 100]) [.int .i64 2, .int .i64 2, .bool false, .bool false, .bool false, .bool true] <|
  cond (s == [99, 97, 116]) [.int .i64 2, .int .i64 2, .bool false, .bool false, .bool false, .bool true] <|
  cond (s == [108, 105, 107, 101]) [.int .i64 2, .int .i64 2, .bool false, .bool false, .bool false, .bool true] <|
  cond (s == [115, 108, 105, 99, 101]) [.int .i64 3, .int .i64 3, .bool false, .bool false, .bool false, .bool true] <|
  cond (s == [105, 102]) [.int .i64 3, .int .i64 3, .bool false, .bool false, .bool false, .bool true] <|
  cond (s == [102, 105, 114, 115, 116]) [.int .i64 1, .int .i64 60, .bool false, .bool false, .bool false, .bool true] <|
  cond (s == [105, 110]) [.int .i64 2, .int .i64 60, .bool false, .bool false, .bool false, .bool true] <|
  cond (s == [108, 105, 115, 116]) [.int .i64 0, .int .i64 60, .bool false, .bool false, .bool false, .bool true] <|
  [.int .i64 0, .int .i64 0, .bool false, .bool false, .bool false, .bool false]
theorem beqF {s t : List UInt8} (h : ¬ s = t) : (s == t) = false := by simpa using h
theorem l147_get : SS (.call 147 [.d (.str [103, 101, 116])] []) = some (.ret false [188, 4] [.int .i64 1, .int .i64 1, .bool true, .bool false, .fn 245 [], .bool true] []) := sem_of (B := tb) (n := 60) (by kernel_rfl)
theorem l147_has : SS (.call 147 [.d (.str [104, 97, 115])] []) = some (.ret false [188, 4] [.int .i64 1, .int .i64 1, .bool true, .bool false, .fn 246 [], .bool true] []) := sem_of (B := tb) (n := 60) (by kernel_rfl)
theorem l147_put : SS (.call 147 [.d (.str [112, 117, 116])] []) = some (.ret false [188, 4] [.int .i64 2, .int .i64 2, .bool true, .bool false, .fn 204 [], .bool true] []) := sem_of (B := tb) (n := 60) (by kernel_rfl)
theorem l147_cast : SS (.call 147 [.d (.str [99, 97, 115, 116])] []) = some (.ret false [188, 4] [.int .i64 1, .int .i64 1, .bool false, .bool true, .fn 206 [], .bool true] []) := sem_of (B := tb) (n := 60) (by kernel_rfl)
theorem l147_not : SS (.call 147 [.d (.str [110, 111, 116])] []) = some (.ret false [188, 4] [.int .i64 1, .int .i64 1, .bool false, .bool false, .fn 247 [], .bool true] []) := sem_of (B := tb) (n := 60) (by kernel_rfl)
theorem l147_null : SS (.call 147 [.d (.str [110, 117, 108, 108])] []) = some (.ret false [188, 4] [.int .i64 1, .int .i64 1, .bool false, .bool false, .fn 257 [], .bool true] []) := sem_of (B := tb) (n := 60) (by kernel_rfl)
theorem l147_neg : SS (.call 147 [.d (.str [110, 101, 103])] []) = some (.ret false [188, 4] [.int .i64 1, .int .i64 1, .bool false, .bool false, .fn 194 [], .bool true] []) := sem_of (B := tb) (n := 60) (by kernel_rfl)
theorem l147_len : SS (.call 147 [.d (.str [108, 101, 110])] []) = some (.ret false [188, 4] [.int .i64 1, .int .i64 1, .bool false, .bool false, .fn 196 [], .bool true] []) := sem_of (B := tb) (n := 60) (by kernel_rfl)
theorem l147_lower : SS (.call 147 [.d (.str [108, 111, 119, 101, 114])] []) = some (.ret false [188, 4] [.int .i64 1, .int .i64 1, .bool false, .bool false, .fn 197 [], .bool true] []) := sem_of (B := tb) (n := 60) (by kernel_rfl)
theorem l147_kind : SS (.call 147 [.d (.str [107, 105, 110, 100])] []) = some (.ret false [188, 4] [.int .i64 1, .int .i64 1, .bool false, .bool false, .fn 205 [], .bool true] []) := sem_of (B := tb) (n := 60) (by kernel_rfl)
theorem l147_and : SS (.call 147 [.d (.str [97, 110, 100])] []) = some (.ret false [188, 4] [.int .i64 2, .int .i64 2, .bool false, .bool false, .fn 248 [], .bool true] []) := sem_of (B := tb) (n := 60) (by kernel_rfl)
theorem l147_or : SS (.call 147 [.d (.str [111, 114])] []) = some (.ret false [188, 4] [.int .i64 2, .int .i64 2, .bool false, .bool false, .fn 249 [], .bool true] []) := sem_of (B := tb) (n := 60) (by kernel_rfl)
theorem l147_eq : SS (.call 147 [.d (.str [101, 113])] []) = some (.ret false [188, 4] [.int .i64 2, .int .i64 2, .bool false, .bool false, .fn 281 [.ref 4 [.bool true], .ref 175 [.fn 250 []]], .bool true] []) := sem_of (B := tb) (n := 60) (by kernel_rfl)
theorem l147_ne : SS (.call 147 [.d (.str [110, 101])] []) = some (.ret false [188, 4] [.int .i64 2, .int .i64 2, .bool false, .bool false, .fn 281 [.ref 4 [.bool true], .ref 175 [.fn 251 []]], .bool true] []) := sem_of (B := tb) (n := 60) (by kernel_rfl)
theorem l147_lt : SS (.call 147 [.d (.str [108, 116])] []) = some (.ret false [188, 4] [.int .i64 2, .int .i64 2, .bool false, .bool false, .fn 281 [.ref 4 [.bool false], .ref 175 [.fn 252 []]], .bool true] []) := sem_of (B := tb) (n := 60) (by kernel_rfl)
theorem l147_le : SS (.call 147 [.d (.str [108, 101])] []) = some (.ret false [188, 4] [.int .i64 2, .int .i64 2, .bool false, .bool false, .fn 281 [.ref 4 [.bool false], .ref 175 [.fn 253 []]], .bool true] []) := sem_of (B := tb) (n := 60) (by kernel_rfl)
theorem l147_gt : SS (.call 147 [.d (.str [103, 116])] []) = some (.ret false [188, 4] [.int .i64 2, .int .i64 2, .bool false, .bool false, .fn 281 [.ref 4 [.bool false], .ref 175 [.fn 254 []]], .bool true] []) := sem_of (B := tb) (n := 60) (by kernel_rfl)
theorem l147_ge : SS (.call 147 [.d (.str [103, 101])] []) = some (.ret false [188, 4] [.int .i64 2, .int .i64 2, .bool false, .bool false, .fn 281 [.ref 4 [.bool false], .ref 175 [.fn 255 []]], .bool true] []) := sem_of (B := tb) (n := 60) (by kernel_rfl)
theorem l147_same : SS (.call 147 [.d (.str [115, 97, 109, 101])] []) = some (.ret false [188, 4] [.int .i64 2, .int .i64 2, .bool false, .bool false, .fn 256 [], .bool true] []) := sem_of (B := tb) (n := 60) (by kernel_rfl)
theorem l147_add : SS (.call 147 [.d (.str [97, 100, 100])] []) = some (.ret false [188, 4] [.int .i64 2, .int .i64 2, .bool false, .bool false, .fn 231 [.ref 221 [.fn 189 []]], .bool true] []) := sem_of (B := tb) (n := 60) (by kernel_rfl)
theorem l147_sub : SS (.call 147 [.d (.str [115, 117, 98])] []) = some (.ret false [188, 4] [.int .i64 2, .int .i64 2, .bool false, .bool false, .fn 231 [.ref 221 [.fn 190 []]], .bool true] []) := sem_of (B := tb) (n := 60) (by kernel_rfl)
theorem l147_mul : SS (.call 147 [.d (.str [109, 117, 108])] []) = some (.ret false [188, 4] [.int .i64 2, .int .i64 2, .bool false, .bool false, .fn 231 [.ref 221 [.fn 191 []]], .bool true] []) := sem_of (B := tb) (n := 60) (by kernel_rfl)
theorem l147_div : SS (.call 147 [.d (.str [100, 105, 118])] []) = some (.ret false [188, 4] [.int .i64 2, .int .i64 2, .bool false, .bool false, .fn 231 [.ref 221 [.fn 192 []]], .bool true] []) := sem_of (B := tb) (n := 60) (by kernel_rfl)
theorem l147_mod : SS (.call 147 [.d (.str [109, 111, 100])] []) = some (.ret false [188, 4] [.int .i64 2, .int .i64 2, .bool false, .bool false, .fn 231 [.ref 221 [.fn 193 []]], .bool true] []) := sem_of (B := tb) (n := 60) (by kernel_rfl)
theorem l147_cat : SS (.call 147 [.d (.str [99, 97, 116])] []) = some (.ret false [188, 4] [.int .i64 2, .int .i64 2, .bool false, .bool false, .fn 195 [], .bool true] []) := sem_of (B := tb) (n := 60) (by kernel_rfl)
theorem l147_like : SS (.call 147 [.d (.str [108, 105, 107, 101])] []) = some (.ret false [188, 4] [.int .i64 2, .int .i64 2, .bool false, .bool false, .fn 199 [], .bool true] []) := sem_of (B := tb) (n := 60) (by kernel_rfl)
theorem l147_slice : SS (.call 147 [.d (.str [115, 108, 105, 99, 101])] []) = some (.ret false [188, 4] [.int .i64 3, .int .i64 3, .bool false, .bool false, .fn 198 [], .bool true] []) := sem_of (B := tb) (n := 60) (by kernel_rfl)
theorem l147_if : SS (.call 147 [.d (.str [105, 102])] []) = some (.ret false [188, 4] [.int .i64 3, .int .i64 3, .bool false, .bool false, .fn 200 [], .bool true] []) := sem_of (B := tb) (n := 60) (by kernel_rfl)
theorem l147_first : SS (.call 147 [.d (.str [102, 105, 114, 115, 116])] []) = some (.ret false [188, 4] [.int .i64 1, .int .i64 (-1), .bool false, .bool false, .fn 201 [], .bool true] []) := sem_of (B := tb) (n := 60) (by kernel_rfl)
theorem l147_in : SS (.call 147 [.d (.str [105, 110])] []) = some (.ret false [188, 4] [.int .i64 2, .int .i64 (-1), .bool false, .bool false, .fn 202 [], .bool true] []) := sem_of (B := tb) (n := 60) (by kernel_rfl)
theorem l147_list : SS (.call 147 [.d (.str [108, 105, 115, 116])] []) = some (.ret false [188, 4] [.int .i64 0, .int .i64 (-1), .bool false, .bool false, .fn 203 [], .bool true] []) := sem_of (B := tb) (n := 60) (by kernel_rfl)
theorem s147 (s : List UInt8) : SS (.call 147 [.d (.str s)] []) = some (.ret false [188, 4] (opRow s) []) := by
  unfold opRow
  by_cases h0 : s = [103, 101, 116]
  · subst h0; exact l147_get
  replace h0 := beqF h0
  rw [h0]
  rw [cond_false]
  by_cases h1 : s = [104, 97, 115]
  · subst h1; exact l147_has
  replace h1 := beqF h1
  rw [h1]
  rw [cond_false]
  by_cases h2 : s = [112, 117, 116]
  · subst h2; exact l147_put
  replace h2 := beqF h2
  rw [h2]
  rw [cond_false]
  by_cases h3 : s = [99, 97, 115, 116]
  · subst h3; exact l147_cast
  replace h3 := beqF h3
  rw [h3]
  rw [cond_false]
  by_cases h4 : s = [110, 111, 116]
  · subst h4; exact l147_not
  replace h4 := beqF h4
  rw [h4]
  rw [cond_false]
  by_cases h5 : s = [110, 117, 108, 108]
  · subst h5; exact l147_null
  replace h5 := beqF h5
  rw [h5]
  rw [cond_false]
  by_cases h6 : s = [110, 101, 103]
  · subst h6; exact l147_neg
  replace h6 := beqF h6
  rw [h6]
  rw [cond_false]
  by_cases h7 : s = [108, 101, 110]
  · subst h7; exact l147_len
  replace h7 := beqF h7
  rw [h7]
  rw [cond_false]
  by_cases h8 : s = [108, 111, 119, 101, 114]
  · subst h8; exact l147_lower
  replace h8 := beqF h8
  rw [h8]
  rw [cond_false]
  by_cases h9 : s = [107, 105, 110, 100]
  · subst h9; exact l147_kind
  replace h9 := beqF h9
  rw [h9]
  rw [cond_false]
  by_cases h10 : s = [97, 110, 100]
  · subst h10; exact l147_and
  replace h10 := beqF h10
  rw [h10]
  rw [cond_false]
  by_cases h11 : s = [111, 114]
  · subst h11; exact l147_or
  replace h11 := beqF h11
  rw [h11]
  rw [cond_false]
  by_cases h12 : s = [101, 113]
  · subst h12; exact l147_eq
  replace h12 := beqF h12
  rw [h12]
  rw [cond_false]
  by_cases h13 : s = [110, 101]
  · subst h13; exact l147_ne
  replace h13 := beqF h13
  rw [h13]
  rw [cond_false]
  by_cases h14 : s = [108, 116]
  · subst h14; exact l147_lt
  replace h14 := beqF h14
  rw [h14]
  rw [cond_false]
  by_cases h15 : s = [108, 101]
  · subst h15; exact l147_le
  replace h15 := beqF h15
  rw [h15]
  rw [cond_false]
  by_cases h16 : s = [103, 116]
  · subst h16; exact l147_gt
  replace h16 := beqF h16
  rw [h16]
  rw [cond_false]
  by_cases h17 : s = [103, 101]
  · subst h17; exact l147_ge
  replace h17 := beqF h17
  rw [h17]
  rw [cond_false]
  by_cases h18 : s = [115, 97, 109, 101]
  · subst h18; exact l147_same
  replace h18 := beqF h18
  rw [h18]
  rw [cond_false]
  by_cases h19 : s = [97, 100, 100]
  · subst h19; exact l147_add
  replace h19 := beqF h19
  rw [h19]
  rw [cond_false]
  by_cases h20 : s = [115, 117, 98]
  · subst h20; exact l147_sub
  replace h20 := beqF h20
  rw [h20]
  rw [cond_false]
  by_cases h21 : s = [109, 117, 108]
  · subst h21; exact l147_mul
  replace h21 := beqF h21
  rw [h21]
  rw [cond_false]
  by_cases h22 : s = [100, 105, 118]
  · subst h22; exact l147_div
  replace h22 := beqF h22
  rw [h22]
  rw [cond_false]
  by_cases h23 : s = [109, 111, 100]
  · subst h23; exact l147_mod
  replace h23 := beqF h23
  rw [h23]
  rw [cond_false]
  by_cases h24 : s = [99, 97, 116]
  · subst h24; exact l147_cat
  replace h24 := beqF h24
  rw [h24]
  rw [cond_false]
  by_cases h25 : s = [108, 105, 107, 101]
  · subst h25; exact l147_like
  replace h25 := beqF h25
  rw [h25]
  rw [cond_false]
  by_cases h26 : s = [115, 108, 105, 99, 101]
  · subst h26; exact l147_slice
  replace h26 := beqF h26
  rw [h26]
  rw [cond_false]
  by_cases h27 : s = [105, 102]
  · subst h27; exact l147_if
  replace h27 := beqF h27
  rw [h27]
  rw [cond_false]
  by_cases h28 : s = [102, 105, 114, 115, 116]
  · subst h28; exact l147_first
  replace h28 := beqF h28
  rw [h28]
  rw [cond_false]
  by_cases h29 : s = [105, 110]
  · subst h29; exact l147_in
  replace h29 := beqF h29
  rw [h29]
  rw [cond_false]
  by_cases h30 : s = [108, 105, 115, 116]
  · subst h30; exact l147_list
  replace h30 := beqF h30
  rw [h30]
  rw [cond_false]
  rw [e147]; simp only [h0, h1, h2, h3, h4, h5, h6, h7, h8, h9, h10, h11, h12, h13, h14, h15, h16, h17, h18, h19, h20, h21, h22, h23, h24, h25, h26, h27, h28, h29, h30, cond_false, e207, bindR0]
  rfl
end Go.Ab
end

/-
  THE SMALL FUNCTIONS' CONTRACTS (shared): Op.Valid, the two truth tables beside it, the two pickers of bytes. Each computes a plain function.
-/
import Derived.Test.YmwhbcRows
import Derived.WalkKit
namespace Go.Proofs.Ymwhbc
open Go.RowKit

/-- What 'Op.Valid' answers. -/
def vld (k o n : Int) : Bool :=
  if k = 61 then o == n else if k = 126 then o != n else if k = 43 then o == 0 else if k = 45 then n == 0 else false

/-- The cells of one op. -/
def opC (k o n : Int) : Array Value := #[.int .u8 k, .int .u8 o, .int .u8 n]

theorem vld_61 (o n : Int) : vld 61 o n = (o == n) := rfl
theorem vld_126 (o n : Int) : vld 126 o n = (o != n) := rfl
theorem vld_43 (o n : Int) : vld 43 o n = (o == 0) := rfl
theorem vld_45 (o n : Int) : vld 45 o n = (n == 0) := rfl
theorem vld_else {k : Int} (o n : Int) (h1 : ¬ k = 61) (h2 : ¬ k = 126) (h3 : ¬ k = 43) (h4 : ¬ k = 45) : vld k o n = false := by
  unfold vld; rw [if_neg h1, if_neg h2, if_neg h3, if_neg h4]

theorem ret_bool {a b : Bool} (h : a = b) : Ending.returned (.bool a) = .returned (.bool b) := by rw [h]
theorem ret_int {k : IntKind} {a b : Int} (h : a = b) : Ending.returned (.int k a) = .returned (.int k b) := by rw [h]

set_option maxHeartbeats 400000 in
theorem valid_any (k o n : Int) (w : World) :
    Calls Ybcv.prog 7 #[.agg #[.int .u8 k, .int .u8 o, .int .u8 n]] w fun e w' => e = .returned (.bool (vld k o n)) ∧ w.alloc (.cells #[.int .u8 k, .int .u8 o, .int .u8 n] 24) = w' := by
  by_cases h1 : k = 61
  · subst h1
    go_enter Ybcv.func7, Ybcv.ntmps7
    go_wp2
    go_ret
    exact ⟨ret_bool (vld_61 o n).symm, rfl⟩
  · by_cases h2 : k = 126
    · subst h2
      go_enter Ybcv.func7, Ybcv.ntmps7
      go_wp2
      go_ret
      exact ⟨ret_bool (vld_126 o n).symm, rfl⟩
    · by_cases h3 : k = 43
      · subst h3
        go_enter Ybcv.func7, Ybcv.ntmps7
        go_wp2
        go_ret
        exact ⟨ret_bool (vld_43 o n).symm, rfl⟩
      · by_cases h4 : k = 45
        · subst h4
          go_enter Ybcv.func7, Ybcv.ntmps7
          go_wp2
          go_ret
          exact ⟨ret_bool (vld_45 o n).symm, rfl⟩
        · have b1 : (k == 61) = false := by simpa using h1
          have b2 : (k == 126) = false := by simpa using h2
          have b3 : (k == 43) = false := by simpa using h3
          have b4 : (k == 45) = false := by simpa using h4
          have hv := vld_else o n h1 h2 h3 h4
          clear h1 h2 h3 h4
          go_enter Ybcv.func7, Ybcv.ntmps7
          go_wp2
          go_ret
          exact ⟨ret_bool hv.symm, rfl⟩

/-- The selector's kind ('zzs930020qaakind'). -/
def pickKind (sel raw : Int) : Int :=
  if sel % 5 = 0 then 61 else if sel % 5 = 1 then 126 else if sel % 5 = 2 then 43 else if sel % 5 = 3 then 45 else raw

set_option maxHeartbeats 400000 in
theorem kind_any (s r : Int) (w : World) (h0 : 0 ≤ s) (h1 : s ≤ 255) :
    Calls Ybcv.prog 6 #[.int .u8 s, .int .u8 r] w fun e w' => e = .returned (.int .u8 (pickKind s r)) ∧ w = w' := by
  go_enter Ybcv.func6, Ybcv.ntmps6
  go_wp2
  all_goals
    go_ret
    exact ⟨ret_int (by unfold pickKind; simp_all), rfl⟩

set_option maxHeartbeats 400000 in
theorem model_any (k o n : Int) (w : World) :
    Calls Ybcv.prog 8 #[.int .u8 k, .int .u8 o, .int .u8 n] w fun e w' => e = .returned (.bool (vld k o n)) ∧ w = w' := by
  go_enter Ybcv.func8, Ybcv.ntmps8
  go_wp2
  all_goals
    go_ret
    exact ⟨ret_bool (by unfold vld; simp_all [bne]), rfl⟩

set_option maxHeartbeats 400000 in
theorem valid2_any (k o n : Int) (w : World) :
    Calls Ybcv.prog 13 #[.agg #[.int .u8 k, .int .u8 o, .int .u8 n]] w fun e w' => e = .returned (.bool (vld k o n)) ∧ w.alloc (.cells #[.int .u8 k, .int .u8 o, .int .u8 n] 24) = w' := by
  go_enter Ybcv.func13, Ybcv.ntmps13
  go_wp2
  all_goals
    go_ret
    exact ⟨ret_bool (by unfold vld; simp_all [bne]), rfl⟩

/-- A raw byte's text byte ('zzs930020qacpick'). -/
def pickByte (b : Int) : Int :=
  if b % 8 = 0 then 61 else if b % 8 = 1 then 126 else if b % 8 = 2 then 43 else if b % 8 = 3 then 45 else if b % 8 = 4 then 97 else if b % 8 = 5 then 98 else if b % 8 = 6 then b else 0

theorem pickByte_bd (b : Int) (h0 : 0 ≤ b) (h1 : b ≤ 255) : 0 ≤ pickByte b ∧ pickByte b ≤ 255 := by
  unfold pickByte
  repeat' split
  all_goals omega

set_option maxHeartbeats 400000 in
theorem pick_any (b : Int) (w : World) (h0 : 0 ≤ b) (h1 : b ≤ 255) :
    Calls Ybcv.prog 9 #[.int .u8 b] w fun e w' => e = .returned (.int .u8 (pickByte b)) ∧ w = w' := by
  go_enter Ybcv.func9, Ybcv.ntmps9
  go_wp2
  all_goals
    go_ret
    exact ⟨ret_int (by unfold pickByte; simp_all), rfl⟩
end Go.Proofs.Ymwhbc

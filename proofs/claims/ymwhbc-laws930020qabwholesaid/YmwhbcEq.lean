/-
  THE WALK OF 'zzs930020qabeq': are two slices of bytes equal?
-/
import Derived.Test.YmwhbcOwn
import Derived.Deep.QuietTactic
import Derived.BigQuiet
import Derived.WalkSmall
namespace Go.Proofs.Ymwhbc
open Go.RowKit

/-- A slice of n bytes whose elements are X: where there is an element the address leads to their cells. -/
def Reads (w : World) (a : Option Addr) (n : Nat) (X : List Int) : Prop :=
  X.length = n ∧ (0 < n → ∃ b off, a = some ⟨b, off, none⟩ ∧ b < w.heap.size ∧ ∀ j, j < n → w.cell? ⟨b, off + j, none⟩ = some (.int .u8 (X.getD j 0)))

theorem Reads.below {w w' : World} {a : Option Addr} {n C : Nat} {X : List Int} (h : Reads w a n X) (hb : Below C w w') (hC : w.heap.size ≤ C) : Reads w' a n X := by
  refine ⟨h.1, fun hn => ?_⟩
  obtain ⟨b, off, h1, h2, h3⟩ := h.2 hn
  exact ⟨b, off, h1, Nat.lt_of_lt_of_le h2 hb.size, fun j hj => (hb.cell (p := ⟨b, off + j, none⟩) (Nat.lt_of_lt_of_le h2 hC)).trans (h3 j hj)⟩

theorem Reads.own {w : World} {base g c : Nat} {X : List Int} (h : w.ownsRow base 5 1 (.slice (some ⟨g, 0, none⟩) X.length c) X.length (X.map (Value.int .u8))) : Reads w (some ⟨g, 0, none⟩) X.length X := by
  refine ⟨rfl, fun _ => ⟨g, 0, rfl, (h.lt g rfl).2, fun j hj => ?_⟩⟩
  rw [Nat.zero_add, h.cellAt j (by omega)]
  simp [List.getD, hj]

def Same (X Y : List Int) (k : Nat) : Prop := ∀ j, j < k → X.getD j 0 = Y.getD j 0

theorem Same.all {X Y : List Int} (hl : X.length = Y.length) (h : Same X Y X.length) : X = Y := by
  apply List.ext_getElem hl
  intro j h1 h2
  have := h j h1
  simpa [List.getD, h1, h2] using this

/-- Are the two lists one? -/
def eqB (X Y : List Int) : Bool := decide (X = Y)

theorem eqB_true {X Y : List Int} (h : X = Y) : eqB X Y = true := by simp [eqB, h]
theorem eqB_false {X Y : List Int} (h : ¬ X = Y) : eqB X Y = false := by simp [eqB, h]

set_option maxRecDepth 100000 in
set_option maxHeartbeats 800000 in
theorem eq_any (a b : Option Addr) (n cn m cm : Nat) (X Y : List Int) (w : World) (hx : Reads w a n X) (hy : Reads w b m Y) (hn : n ≤ 1000000000) :
    Calls Ybcv.prog 14 #[.slice a n cn, .slice b m cm] w fun e w' => e = .returned (.bool (eqB X Y)) ∧ Below w.heap.size w w' := by
  by_cases hnm : n = m
  · subst hnm
    by_cases h0 : n = 0
    · subst h0
      have he : eqB X Y = true := eqB_true (by rw [List.eq_nil_of_length_eq_zero hx.1, List.eq_nil_of_length_eq_zero hy.1])
      rw [he]
      clear he hx hy
      go_enter Ybcv.func14, Ybcv.ntmps14
      go_wp2
      refine wp_loop_rounds 1 ?_; rw [rounds_succ]
      go_wp2
      go_ret
      exact ⟨rfl, Below.refl _ _⟩
    · obtain ⟨b1, o1, rfl, hb1, hc1⟩ := hx.2 (by omega)
      obtain ⟨b2, o2, rfl, hb2, hc2⟩ := hy.2 (by omega)
      have hX := hx.1
      have hY := hy.1
      clear hx hy
      have HC1 : Hid (∀ j, j < n → w.cell? ⟨b1, o1 + j, none⟩ = some (.int .u8 (X.getD j 0))) := hc1
      have HC2 : Hid (∀ j, j < n → w.cell? ⟨b2, o2 + j, none⟩ = some (.int .u8 (Y.getD j 0))) := hc2
      have HX : Hid (X.length = n) := hX
      have HY : Hid (Y.length = n) := hY
      clear hc1 hc2 hX hY
      go_enter Ybcv.func14, Ybcv.ntmps14
      go_wp2
      go_loopw [5] (fun si wr => ∃ k : Nat, k ≤ n ∧ si = .int .i64 k ∧ Same X Y k ∧ Below w.heap.size w wr) (fun si _ => n - (intOf si).toNat)
      case atStart => exact ⟨0, by omega, rfl, fun j hj => by omega, Below.refl _ _⟩
      case round =>
        obtain ⟨k, hkn, rfl, hs, hnx⟩ := hrel
        have HS : Hid (Same X Y k) := hs
        clear hs
        by_cases hlt : k < n
        · have c1 := (hnx.cell (p := ⟨b1, o1 + k, none⟩) hb1).trans (HC1.out k hlt)
          have c2 := (hnx.cell (p := ⟨b2, o2 + k, none⟩) hb2).trans (HC2.out k hlt)
          obtain ⟨x, hx⟩ : ∃ x, x = X.getD k 0 := ⟨_, rfl⟩
          obtain ⟨y, hy⟩ : ∃ y, y = Y.getD k 0 := ⟨_, rfl⟩
          rw [← hx] at c1
          rw [← hy] at c2
          have hk1 : (k : Int) < n := by omega
          have hk0 : (0 : Int) ≤ k := by omega
          by_cases hxy : x = y
          · subst hxy
            have HE : Hid (X.getD k 0 = Y.getD k 0) := hx.symm.trans hy
            clear hx hy
            go_wp2_with fail
            go_quiet (fail)
            go_wp2
            go_roundw
            case rel => exact ⟨k + 1, by omega, by go_num, fun j hj => by
              by_cases e : j = k
              · rw [e]; exact HE.out
              · exact HS.out j (by omega), below_drewN hnx _⟩
            case measure => simp [intOf]; omega
          · have hb : (x == y) = false := by simpa using hxy
            have HE : Hid (eqB X Y = false) := eqB_false (fun e => hxy (by rw [hx, hy, e]))
            clear hx hy hxy
            go_wp2_with fail
            go_quiet (fail)
            go_wp2
            go_ret
            exact ⟨ret_bool HE.out.symm, below_drewN hnx _⟩
        · have HE : Hid (eqB X Y = true) := eqB_true (Same.all (by rw [HX.out, HY.out]) (by rw [HX.out]; intro j hj; exact HS.out j (by omega)))
          go_wp2
          go_ret
          exact ⟨ret_bool HE.out.symm, hnx⟩
  · have he : eqB X Y = false := eqB_false (fun e => hnm (by rw [← hx.1, ← hy.1, e]))
    rw [he]
    have hb : ((n : Int) == (m : Int)) = false := by simp; omega
    clear he hx hy hnm
    go_enter Ybcv.func14, Ybcv.ntmps14
    go_wp2
    go_ret
    exact ⟨rfl, Below.refl _ _⟩
end Go.Proofs.Ymwhbc

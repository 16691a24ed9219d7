/-
  A ROW OF BYTES OF THE CALL's OWN, FILLED FROM ITS HEAD. Laws on worlds, outside every walk.
-/
import Derived.Test.YmwhbcOwn
namespace Go.Proofs.Ymwhbc
open Go.RowKit

/-- Block g is a row of n bytes of the call's own (it lies from block B on), of which the first i are T's. -/
def Filled (w : World) (B g n : Nat) (T : List Int) (i : Nat) : Prop :=
  ∃ xs, w.ownsRow B 5 1 (.slice (some ⟨g, 0, none⟩) n n) n xs ∧ ∀ j, j < i → xs[j]? = some (.int .u8 (T.getD j 0))

theorem Filled.start {w : World} {B g n : Nat} {xs : List Value} (T : List Int) (h : w.ownsRow B 5 1 (.slice (some ⟨g, 0, none⟩) n n) n xs) : Filled w B g n T 0 :=
  ⟨xs, h, fun j hj => by omega⟩

theorem Filled.cell {w : World} {B g n : Nat} {T : List Int} {i : Nat} (h : Filled w B g n T i) (j : Nat) (hj : j < i) (hn : j < n) : w.cell? ⟨g, j, none⟩ = some (.int .u8 (T.getD j 0)) := by
  obtain ⟨xs, ho, hx⟩ := h
  rw [ho.cellAt j (by omega)]
  exact hx j hj

theorem Filled.some {w : World} {B g n : Nat} {T : List Int} {i : Nat} (h : Filled w B g n T i) (j : Nat) (hn : j < n) : ∃ v, w.cell? ⟨g, j, none⟩ = .some v := by
  obtain ⟨xs, ho, _⟩ := h
  rw [ho.cellAt j (by omega)]
  exact ⟨xs[j]'(by rw [ho.1]; omega), List.getElem?_eq_getElem _⟩

theorem Filled.free {w : World} {B g n : Nat} {T : List Int} {i : Nat} (h : Filled w B g n T i) (j : Nat) : w.frozen? ⟨g, j, none⟩ = false := by
  obtain ⟨xs, ho, _⟩ := h
  exact ho.frozenAt j

theorem Filled.lt {w : World} {B g n : Nat} {T : List Int} {i : Nat} (h : Filled w B g n T i) : B ≤ g ∧ g < w.heap.size := by
  obtain ⟨xs, ho, _⟩ := h
  exact ho.lt g rfl

theorem Filled.store {w : World} {B g n : Nat} {T : List Int} {i : Nat} (h : Filled w B g n T i) (hi : i < n) {x : Int} (hx : x = T.getD i 0) : Filled (w.setCell ⟨g, i, none⟩ (.int .u8 x)) B g n T (i + 1) := by
  obtain ⟨xs, ho, hc⟩ := h
  refine ⟨_, (ho.stored i _).1, fun j hj => ?_⟩
  by_cases e : j = i
  · subst e
    rw [List.getElem?_set_self (by rw [ho.1]; omega), hx]
  · rw [List.getElem?_set_ne (by omega)]
    exact hc j (by omega)

theorem Filled.other {w : World} {B g n : Nat} {T : List Int} {i : Nat} (h : Filled w B g n T i) {a : Addr} (hne : g ≠ a.block) (v : Value) : Filled (w.setCell a v) B g n T i := by
  obtain ⟨xs, ho, hc⟩ := h
  exact ⟨xs, ownsRow_setCell_other ho (by simpa [Value.ownBlock] using hne) v, hc⟩

theorem Filled.grown {w w' : World} {B g n : Nat} {T : List Int} {i : Nat} (h : Filled w B g n T i) (hg : w.grownBy w' none) : Filled w' B g n T i := by
  obtain ⟨xs, ho, hc⟩ := h
  exact ⟨xs, ho.kept hg (.inr (by simp [Value.ownBlock])), hc⟩

theorem Filled.below {w w' : World} {B g n C : Nat} {T : List Int} {i : Nat} (h : Filled w B g n T i) (hb : Below C w w') (hC : g < C) : Filled w' B g n T i := by
  obtain ⟨xs, ho, hc⟩ := h
  exact ⟨xs, own_below ho hb (fun k hk => by simp [Value.ownBlock] at hk; omega), hc⟩
end Go.Proofs.Ymwhbc

/-
  THE CELLS OF A LIST OF OPS; closed facts on the element types; small laws on worlds that every walk wants.
-/
import Derived.Test.YmwhbcSmall
import Derived.Deep.AppendLies
namespace Go.Proofs.Ymwhbc
open Go.RowKit

theorem info24 : (Ybcv.prog.info? 24).map (fun i => (i.zero, i.size, i.bytes)) = some (some (.agg #[.int .u8 0, .int .u8 0, .int .u8 0]), 3, 3) := by kernel_rfl
theorem info5 : (Ybcv.prog.info? 5).map (fun i => (i.zero, i.size, i.bytes)) = some (some (.int .u8 0), 1, 1) := by kernel_rfl

/-- The cells of a list of ops, three each. -/
def opsC : List (Int × Int × Int) → List Value
  | [] => []
  | p :: t => .int .u8 p.1 :: .int .u8 p.2.1 :: .int .u8 p.2.2 :: opsC t

theorem opsC_snoc (l : List (Int × Int × Int)) (k o n : Int) : opsC (l ++ [(k, o, n)]) = opsC l ++ [.int .u8 k, .int .u8 o, .int .u8 n] := by
  induction l with
  | nil => rfl
  | cons p t ih => simp [opsC, ih]

theorem opsC_len (l : List (Int × Int × Int)) : (opsC l).length = l.length * 3 := by
  induction l with
  | nil => rfl
  | cons p t ih => simp only [opsC, List.length_cons, ih]; omega

theorem opsC_at (l : List (Int × Int × Int)) : ∀ (k : Nat) (h : k < l.length), (opsC l)[k * 3]? = some (.int .u8 l[k].1) ∧ (opsC l)[k * 3 + 1]? = some (.int .u8 l[k].2.1) ∧ (opsC l)[k * 3 + 2]? = some (.int .u8 l[k].2.2) := by
  induction l with
  | nil => intro k h; simp at h
  | cons p t ih =>
    intro k h
    match k with
    | 0 => exact ⟨rfl, rfl, rfl⟩
    | k + 1 =>
      have h' : k < t.length := by simpa using h
      have := ih k h'
      rw [show (k + 1) * 3 = k * 3 + 1 + 1 + 1 by omega]
      simpa [opsC] using this

theorem cell_three_new (w : World) (x y z : Value) (t : TypeId) : ∀ j u, [x, y, z][j]? = some u → (w.alloc (.cells #[x, y, z] t)).cell? ((⟨w.heap.size, 0, none⟩ : Addr).add j) = some u := by
  intro j u hj
  match j, hj with
  | 0, hj => simp at hj; subst hj; simp [Addr.add]
  | 1, hj => simp at hj; subst hj; simp [Addr.add]
  | 2, hj => simp at hj; subst hj; simp [Addr.add]
  | (j + 3), hj => simp at hj

theorem three_one (a b c : Int) : ∀ u ∈ [Value.int .u8 a, .int .u8 b, .int .u8 c], u.oneCell' = true := by
  intro u hu; simp at hu; rcases hu with rfl | rfl | rfl <;> rfl

theorem news3 (w : World) (H : Nat) (hH : w.heap.size = H) (x y z : Value) (t : TypeId) : ∀ j u, [x, y, z][j]? = some u → (w.alloc (.cells #[x, y, z] t)).cell? ((⟨H, 0, none⟩ : Addr).add j) = some u := by
  subst hH
  exact cell_three_new w x y z t

/-- What an append of one op makes of the relation of a loop that gathers ops. -/
theorem rel_push {w X w1 : World} {B g c g' c' : Nat} {acc : List (Int × Int × Int)} {k o n : Int} (hown : X.ownsRow B 24 3 (.slice (some ⟨g, 0, none⟩) acc.length c) acc.length (opsC acc)) (hbel : Below B w X) (hB : B ≤ X.heap.size)
    (hown1 : w1.ownsRow B 24 3 (.slice (some ⟨g', 0, none⟩) (acc.length + 1) c') (acc.length + 1) (opsC acc ++ [.int .u8 k, .int .u8 o, .int .u8 n])) (hgrow : X.grownBy w1 (Value.ownBlock (.slice (some ⟨g, 0, none⟩) acc.length c))) :
    w1.ownsRow B 24 3 (.slice (some ⟨g', 0, none⟩) (acc ++ [(k, o, n)]).length c') (acc ++ [(k, o, n)]).length (opsC (acc ++ [(k, o, n)])) ∧ Below B w w1 := by
  rw [opsC_snoc, List.length_append]
  exact ⟨hown1, hbel.grown hgrow hB (fun k hk => (hown.lt k hk).1)⟩

/-- The three cells of op k of an owned row of ops. -/
theorem own_op {w : World} {base g c : Nat} {l : List (Int × Int × Int)} (h : w.ownsRow base 24 3 (.slice (some ⟨g, 0, none⟩) l.length c) l.length (opsC l)) (k : Nat) (hk : k < l.length) :
    w.cell? ⟨g, k * 3, none⟩ = some (.int .u8 l[k].1) ∧ w.cell? ⟨g, k * 3 + 1, none⟩ = some (.int .u8 l[k].2.1) ∧ w.cell? ⟨g, k * 3 + 2, none⟩ = some (.int .u8 l[k].2.2) := by
  obtain ⟨a, b, c⟩ := opsC_at l k hk
  exact ⟨(h.cellAt (k * 3) (by omega)).trans a, (h.cellAt (k * 3 + 1) (by omega)).trans b, (h.cellAt (k * 3 + 2) (by omega)).trans c⟩

theorem own_below {w w' : World} {base B : Nat} {e size n : Nat} {v : Value} {xs : List Value} (h : w.ownsRow base e size v n xs) (hb : Below B w w') (hlt : ∀ g, v.ownBlock = some g → g < B) : w'.ownsRow base e size v n xs := by
  refine ⟨h.1, ?_⟩
  rcases h.2 with hn | ⟨g, cap, cur, hv, h1, hg, r⟩
  · exact .inl hn
  · exact .inr ⟨g, cap, cur, hv, h1, by rw [hb.block g (hlt g (by rw [hv]; rfl))]; exact hg, r⟩

theorem own_le {w : World} {base e size n : Nat} {v : Value} {xs : List Value} (h : w.ownsRow base e size v n xs) : n ≤ 9223372036854775807 := by
  rcases h.2 with ⟨_, h⟩ | ⟨g, cap, cur, _, _, _, h1, h2, _⟩
  · omega
  · unfold maxLen at h2; omega

theorem own_base {w : World} {B B' e size n : Nat} {v : Value} {xs : List Value} (h : w.ownsRow B' e size v n xs) (hB : B ≤ B') : w.ownsRow B e size v n xs :=
  ⟨h.1, h.2.elim .inl (fun ⟨g, cap, cur, a, b, c⟩ => .inr ⟨g, cap, cur, a, Nat.le_trans hB b, c⟩)⟩
end Go.Proofs.Ymwhbc

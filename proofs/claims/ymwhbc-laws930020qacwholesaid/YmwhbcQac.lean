/-
  THE PROOF OF 'Rows.LawS930020QACWholeSaid' ('levenshtein.LawS930020QACWhole'). The frame is the guide's shell for this function (proof-skeleton.mjs), its one hole filled by 'qac_any' (YmwhbcQacWalk).
-/
import Derived.Test.YmwhbcRows
import Derived.Test.YmwhbcQacWalk
import Derived.WalkKit
import Derived.ProofKit
import Derived.OpenShut
import Derived.ShutString
import Derived.ChangeOld
import Derived.Below
namespace Go.Proofs.Ymwhbc.lawS930020QACWhole
open Go.ChangeShapes Go.WideShapes Go.ChangeAt Go.RowKit
open Go.ChangeMaps (open_string shut_string)
set_option linter.unusedVariables false

theorem own : ownKnob Ybcv.prog.godebug = none := by kernel_rfl
theorem laidOut : laidOutB Ybcv.prog = true := by kernel_rfl

/-- WHAT THE WALK IS TOLD OF A SLICE OF INTEGERS THAT CAME IN: it is nil; or it leads to a row of 'cap' cells, the numbers 'zs' (the first 'len' are its elements, the rest its spare room), each fitting its kind. -/
def IsRow (k : IntKind) (w : World) (a : Option Addr) (len cap : Nat) (zs : List Int) : Prop :=
  (a = none ∧ len = 0 ∧ cap = 0 ∧ zs = []) ∨
  ∃ x, a = some x ∧ len ≤ cap ∧ cap ≤ maxLen ∧ zs.length = cap ∧ (∀ i, i < zs.length → w.cell? (x.add i) = some (.int k (zs.getD i 0))) ∧ ∀ n ∈ zs, (Lit.int k n).wf = true

/-! ### THE WALK: the Go text returns true, and writes nothing that was there -/
theorem walk (a0 : Option Addr) (len0 cap0 : Nat) (z0 : List Int) (a1 : Bool) (w : World) (w0 : IsRow .u8 w a0 len0 cap0 z0) :
    Calls Ybcv.prog 4 #[.slice a0 len0 cap0, .bool a1] w fun e w' => e = .returned (.bool true) ∧ Below w.heap.size w w' := by
  by_cases hl : 4096 < len0
  · exact qac_long a0 len0 cap0 a1 w hl
  · rcases w0 with ⟨rfl, rfl, rfl, rfl⟩ | ⟨x, rfl, hlc, hm, hz, hcell, hwz⟩
    · exact qac_any none 0 0 0 0 [] a1 w rfl (by omega) (fun h => by omega) (fun h => by omega) (fun j hj => by omega) (fun j => by simp)
    · have hr : ∀ j : Nat, 0 ≤ z0.getD j 0 ∧ z0.getD j 0 ≤ 255 := fun j => by
        have := range_u8 hwz j
        simpa [List.getD] using this
      have hg : ∀ j, j < len0 → (z0.take len0).getD j 0 = z0.getD j 0 := fun j hj => by simp [List.getD, hj]
      have hr' : ∀ j : Nat, 0 ≤ (z0.take len0).getD j 0 ∧ (z0.take len0).getD j 0 ≤ 255 := fun j => by
        by_cases hj : j < len0
        · rw [hg j hj]; exact hr j
        · rw [List.getD_eq_getElem?_getD, List.getElem?_eq_none (by simp; omega)]; simp
      obtain ⟨b, off, spot⟩ := x
      by_cases h0 : len0 = 0
      · subst h0
        exact qac_any _ b off 0 cap0 [] a1 w rfl (by omega) (fun h => by omega) (fun h => by omega) (fun j hj => by omega) (fun j => by simp)
      · have hc0 := hcell 0 (by omega)
        have hspot : spot = none := by simpa [Addr.add] using World.cell?_spot hc0
        subst hspot
        have hb := World.block_lt_of_cell? w _ hc0
        exact qac_any _ b off len0 cap0 (z0.take len0) a1 w (by simp; omega) (by omega) (fun _ => by simpa [Addr.add] using hb) (fun _ => rfl)
          (fun j hj => by rw [hg j hj]; have := hcell j (by omega); rwa [Addr.add_lit] at this) hr'

/-! ### THE ROW's STEP: WRITTEN OUT -/
set_option maxRecDepth 100000 in
theorem lifted (os : Os) (started : os.Started) (H : Type) (enc : TypeId × Value → H) :
    ReturnsInHanded {} Ybcv.checked os 4 .any (Rows.lawS930020QACWholeSpec.pre6 enc Ybcv.prog Ybcv.f4 Rows.lawS930020QACWholeRow.domain false) (Rows.lawS930020QACWholeSpec.post enc Ybcv.prog Ybcv.f4 false true false false) := by
  refine returnsInHanded_of_change (C := Ybcv.checked) own started (by kernel_rfl) Ybcv.func4
    (ChangeSpec.witness6 (enc := enc) (C := Ybcv.checked) false ⟨#[], #[.slice none 0 0, .bool false], []⟩ 8 (by kernel_rfl) (by kernel_rfl) (by kernel_rfl) (by kernel_rfl)) ?_
  intro W base args ds gs before hval0 hW hcnd _
  have hval : ∀ (j : Nat) t v, Ybcv.f4.params[j]? = some t → args[j]? = some v → Value.okWide Ybcv.prog W .any base t v := hval0
  have hW' := hW
  obtain ⟨p, q, hA0, hV, rfl, hfz, hnd⟩ := hW
  have hA : DataW.TrodAll enc Ybcv.prog W 0 (fun _ => true) true Ybcv.f4.params.toList args.toList ds p := hA0
  rw [Ybcv.params4] at hA hval
  obtain ⟨v0, vs0, d0, ds0, p0, q0, hargs, rfl, rfl, h0, r0⟩ := trodAll_cons hA
  obtain ⟨v1, vs1, d1, ds1, p1, q1, rfl, rfl, rfl, h1, r1⟩ := trodAll_cons r0
  obtain ⟨rfl, rfl, rfl⟩ := trodAll_nil r1
  obtain rfl : args = #[v0, v1] := by cases args; simp_all
  obtain ⟨rfl, rfl⟩ := trodVars_none hV
  obtain ⟨a0, len0, cap0, rfl⟩ := okWide_slice Ybcv.underlying28 (hval 0 28 v0 rfl rfl)
  have k0 := h0
  have lt0 : ∀ x ∈ p0, x.block < W.heap.size := by obtain ⟨m, hm⟩ := k0; exact DataW.trod_lt m _ _ _ hm
  obtain ⟨z0, w0⟩ : ∃ zs, IsRow .u8 W a0 len0 cap0 zs := by
    obtain ⟨fuel, hf⟩ := h0
    rcases open_ints Ybcv.underlying28 Ybcv.underlying5 (by kernel_rfl) hf with ⟨hcs, _⟩ | ⟨x, l, c, zs, hcs, _, hl, hm, hz, _, hcell, hwz⟩
    · simp [Value.cells] at hcs
      obtain ⟨rfl, rfl, rfl⟩ := hcs
      exact ⟨[], .inl ⟨rfl, rfl, rfl, rfl⟩⟩
    · simp [Value.cells] at hcs
      obtain ⟨rfl, rfl, rfl⟩ := hcs
      exact ⟨zs, .inr ⟨_, rfl, hl, hm, by simpa using hz, hcell, hwz⟩⟩
  obtain ⟨a1, rfl, rfl, rfl⟩ := open_bool Ybcv.underlying4 (hval 1 4 v1 rfl rfl) h1
  clear hA0 hval0
  refine (walk a0 len0 cap0 z0 a1 W w0).mono fun e W' ⟨he, bel⟩ => ?_
  subst he
  exact ⟨_, rfl, _, _, _, [], _, [], hW', trodAll_mk1 (shut_bool Ybcv.underlying4 _), (trodAll_cons_mk (Below.trod laidOut (by kernel_rfl) (of_decide_eq_true (by kernel_rfl)) k0 bel lt0) (trodAll_cons_mk (shut_bool Ybcv.underlying4 _) trodAll_mk0)), rfl, bel.frame _, fun h => by cases h⟩

theorem over : Rows.lawS930020QACWholeRow.holds Ybcv.pinned (OpenSpec.ofChange Rows.lawS930020QACWholeSpec) :=
  OpenClaim.holds_of_wide 4 Ybcv.f4 rfl rfl rfl rfl rfl rfl rfl ⟨rfl, rfl, rfl, rfl, rfl⟩ rfl rfl rfl rfl rfl (by kernel_rfl) Ybcv.func4 (by kernel_rfl)
    (of_decide_eq_true (by kernel_rfl)) (by unfold Func.isWrapper; first | (rw [if_pos (by decide +kernel)]; kernel_rfl) | (rw [if_neg (by decide +kernel)]; exact ⟨rfl, rfl⟩))
    (fun os started H enc _ => lifted os started H enc)

end Go.Proofs.Ymwhbc.lawS930020QACWhole

namespace Go.Proofs.Ymwhbc
/-- THE STATEMENT. -/
theorem lawS930020QACWhole_proved : Rows.LawS930020QACWholeSaid := lawS930020QACWhole.over
end Go.Proofs.Ymwhbc

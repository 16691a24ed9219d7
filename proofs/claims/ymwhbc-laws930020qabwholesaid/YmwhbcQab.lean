/-
  THE PROOF OF 'Rows.LawS930020QABWholeSaid' ('levenshtein.LawS930020QABWhole'). The frame is the guide's shell for a law over slices (proof-skeleton.mjs, as it writes it for the sister law), turned by hand to a slice of structs beside a slice of bytes; the walk is 'qab_any' (YmwhbcQabWalk).
-/
import Derived.Test.YmwhbcRows
import Derived.Test.YmwhbcQabWalk
import Derived.WalkKit
import Derived.ProofKit
import Derived.OpenShut
import Derived.ShutString
import Derived.ChangeOld
import Derived.Below
import Derived.Deep.Slices
import Derived.Deep.Strs
namespace Go.Proofs.Ymwhbc.lawS930020QABWhole
open Go.ChangeShapes Go.WideShapes Go.ChangeAt Go.RowKit
open Go.ChangeMaps (open_string shut_string)
set_option linter.unusedVariables false

theorem own : ownKnob Ybcv.prog.godebug = none := by kernel_rfl
theorem laidOut : laidOutB Ybcv.prog = true := by kernel_rfl
theorem cells24 : Ybcv.prog.cellsOf 24 = 3 := by kernel_rfl
theorem cells5 : Ybcv.prog.cellsOf 5 = 1 := by kernel_rfl

/-- WHAT THE WALK IS TOLD OF A SLICE OF BYTES THAT CAME IN: it is nil; or it leads to a row of 'cap' cells, the numbers 'zs' (the first 'len' are its elements, the rest its spare room), each fitting its kind. -/
def IsRow (k : IntKind) (w : World) (a : Option Addr) (len cap : Nat) (zs : List Int) : Prop :=
  (a = none ∧ len = 0 ∧ cap = 0 ∧ zs = []) ∨
  ∃ x, a = some x ∧ len ≤ cap ∧ cap ≤ maxLen ∧ zs.length = cap ∧ (∀ i, i < zs.length → w.cell? (x.add i) = some (.int k (zs.getD i 0))) ∧ ∀ n ∈ zs, (Lit.int k n).wf = true

/-- WHAT THE WALK IS TOLD OF A SLICE OF OPS THAT CAME IN: it is nil; or each of its elements lies in three cells, each a byte. -/
def IsOps (w : World) (a : Option Addr) (len : Nat) : Prop :=
  (a = none ∧ len = 0) ∨
  ∃ x, a = some x ∧ ∀ i, i < len → ∃ t : Int × Int × Int, (w.cell? (x.add (i * 3)) = some (.int .u8 t.1) ∧ w.cell? (x.add (i * 3 + 1)) = some (.int .u8 t.2.1) ∧ w.cell? (x.add (i * 3 + 2)) = some (.int .u8 t.2.2)) ∧
    ((0 ≤ t.1 ∧ t.1 ≤ 255) ∧ (0 ≤ t.2.1 ∧ t.2.1 ≤ 255) ∧ (0 ≤ t.2.2 ∧ t.2.2 ≤ 255))

theorem open_ops {H : Type} {enc : TypeId × Value → H} {w : World} {base : Nat} {spare : Nat → Bool} {held : Bool} {fuel len cap : Nat} {a : Option Addr} {x : DataW H × List MemPlace}
    (h : DataW.trod enc Ybcv.prog w base spare held fuel 30 [.slice a len cap] = some x) : IsOps w a len := by
  rcases Go.Deep.open_slice Ybcv.underlying30 h with ⟨h0, _⟩ | ⟨ad, l, c, m, n, D, Pl, hcs, hb, hl, hm, hmm, _, hx⟩
  · simp at h0
    exact .inl ⟨h0.1, h0.2.1⟩
  · simp at hcs
    obtain ⟨rfl, rfl, rfl⟩ := hcs
    refine .inr ⟨ad, rfl, fun i hi => ?_⟩
    obtain ⟨cs', h1, h2⟩ := hx i (by rw [hmm]; split <;> omega)
    rw [cells24] at h1
    obtain ⟨_, hlen, hcell⟩ := World.cells?_some h1
    obtain ⟨y0, y1, y2, k, _, _, g0, g1, g2⟩ := Go.Deep.trod_struct3 Ybcv.underlying24 h2
    match cs', hlen with
    | [v0, v1, v2], _ =>
      simp [cells5] at g0 g1 g2
      obtain ⟨a0, e0, _, w0⟩ := DataW.trod_int Ybcv.underlying5 g0
      obtain ⟨a1, e1, _, w1⟩ := DataW.trod_int Ybcv.underlying5 g1
      obtain ⟨a2, e2, _, w2⟩ := DataW.trod_int Ybcv.underlying5 g2
      simp at e0 e1 e2
      subst e0 e1 e2
      have q0 := hcell 0 (by omega)
      have q1 := hcell 1 (by omega)
      have q2 := hcell 2 (by omega)
      rw [Go.Deep.add_add] at q0 q1 q2
      have b0 := bounds_u8 w0
      have b1 := bounds_u8 w1
      have b2 := bounds_u8 w2
      exact ⟨(a0, a1, a2), ⟨by simpa using q0, by simpa using q1, by simpa using q2⟩, ⟨by simpa using b0, by simpa using b1, by simpa using b2⟩⟩

/-- The bytes' part of what 'qab_any' asks. -/
theorem open_row {w : World} {a : Option Addr} {len cap : Nat} {zs : List Int} (h : IsRow .u8 w a len cap zs) :
    ∃ (b off : Nat) (A : List Int), A.length = len ∧ (0 < len → a = some ⟨b, off, none⟩) ∧ (0 < len → b < w.heap.size) ∧ ∀ j, j < len → w.cell? ⟨b, off + j, none⟩ = some (.int .u8 (A.getD j 0)) := by
  rcases h with ⟨rfl, rfl, rfl, rfl⟩ | ⟨x, rfl, hlc, hm, hz, hcell, hwz⟩
  · exact ⟨0, 0, [], rfl, fun h => by omega, fun h => by omega, fun j hj => by omega⟩
  · obtain ⟨b, off, spot⟩ := x
    have hg : ∀ j, j < len → (zs.take len).getD j 0 = zs.getD j 0 := fun j hj => by simp [List.getD, hj]
    by_cases h0 : len = 0
    · subst h0
      exact ⟨0, 0, [], rfl, fun h => by omega, fun h => by omega, fun j hj => by omega⟩
    · have hc0 := hcell 0 (by omega)
      have hspot : spot = none := by simpa [Addr.add] using World.cell?_spot hc0
      subst hspot
      have hb := World.block_lt_of_cell? w _ hc0
      exact ⟨b, off, zs.take len, by simp; omega, fun _ => rfl, fun _ => by simpa [Addr.add] using hb, fun j hj => by rw [hg j hj]; have := hcell j (by omega); rwa [Addr.add_lit] at this⟩

/-- The ops' part. -/
theorem open_script {w : World} {a : Option Addr} {len : Nat} (h : IsOps w a len) :
    ∃ (b off : Nat) (KK : Nat → Int × Int × Int), (0 < len → a = some ⟨b, off, none⟩) ∧ (0 < len → b < w.heap.size) ∧
      (∀ i, i < len → w.cell? ⟨b, off + i * 3, none⟩ = some (.int .u8 (KK i).1) ∧ w.cell? ⟨b, off + i * 3 + 1, none⟩ = some (.int .u8 (KK i).2.1) ∧ w.cell? ⟨b, off + i * 3 + 2, none⟩ = some (.int .u8 (KK i).2.2)) ∧
      (∀ i, i < len → (0 ≤ (KK i).1 ∧ (KK i).1 ≤ 255) ∧ (0 ≤ (KK i).2.1 ∧ (KK i).2.1 ≤ 255) ∧ (0 ≤ (KK i).2.2 ∧ (KK i).2.2 ≤ 255)) := by
  rcases h with ⟨rfl, rfl⟩ | ⟨x, rfl, hx⟩
  · exact ⟨0, 0, fun _ => (0, 0, 0), fun h => by omega, fun h => by omega, fun i hi => by omega, fun i hi => by omega⟩
  · obtain ⟨KK, hKK⟩ := Go.Deep.choose_lt hx
    obtain ⟨b, off, spot⟩ := x
    by_cases h0 : len = 0
    · subst h0
      exact ⟨0, 0, fun _ => (0, 0, 0), fun h => by omega, fun h => by omega, fun i hi => by omega, fun i hi => by omega⟩
    · have hc0 := (hKK 0 (by omega)).1.1
      have hspot : spot = none := by simpa [Addr.add] using World.cell?_spot hc0
      subst hspot
      have hb := World.block_lt_of_cell? w _ hc0
      refine ⟨b, off, KK, fun _ => rfl, fun _ => by simpa [Addr.add] using hb, fun i hi => ?_, fun i hi => (hKK i hi).2⟩
      have := (hKK i hi).1
      simpa only [Addr.add_lit, Nat.add_assoc] using this

/-! ### THE WALK: the Go text returns true, and writes nothing that was there -/
theorem walk (a0 : Option Addr) (len0 cap0 : Nat) (a1 : Option Addr) (len1 cap1 : Nat) (z1 : List Int) (w : World) (w0 : IsOps w a0 len0) (w1 : IsRow .u8 w a1 len1 cap1 z1) :
    Calls Ybcv.prog 5 #[.slice a0 len0 cap0, .slice a1 len1 cap1] w fun e w' => e = .returned (.bool true) ∧ Below w.heap.size w w' := by
  by_cases hl : 1024 < len0 ∨ 1024 < len1
  · exact qab_long a0 a1 len0 cap0 len1 cap1 w hl
  · obtain ⟨bs, os, KK, hsa, hbs, hcs, hK⟩ := open_script w0
    obtain ⟨ba, oa, A, hA, haa, hba, hca⟩ := open_row w1
    exact qab_any a0 a1 bs os len0 cap0 ba oa len1 cap1 KK A w (by omega) (by omega) hA hsa hbs haa hba hcs hK hca

/-! ### THE ROW's STEP -/
set_option maxRecDepth 100000 in
theorem lifted (os : Os) (started : os.Started) (H : Type) (enc : TypeId × Value → H) :
    ReturnsInHanded {} Ybcv.checked os 5 .any (Rows.lawS930020QABWholeSpec.pre6 enc Ybcv.prog Ybcv.f5 Rows.lawS930020QABWholeRow.domain false) (Rows.lawS930020QABWholeSpec.post enc Ybcv.prog Ybcv.f5 false true false false) := by
  refine returnsInHanded_of_change (C := Ybcv.checked) own started (by kernel_rfl) Ybcv.func5
    (ChangeSpec.witness6 (enc := enc) (C := Ybcv.checked) false ⟨#[], #[.slice none 0 0, .slice none 0 0], []⟩ 8 (by kernel_rfl) (by kernel_rfl) (by kernel_rfl) (by kernel_rfl)) ?_
  intro W base args ds gs before hval0 hW hcnd _
  have hval : ∀ (j : Nat) t v, Ybcv.f5.params[j]? = some t → args[j]? = some v → Value.okWide Ybcv.prog W .any base t v := hval0
  have hW' := hW
  obtain ⟨p, q, hA0, hV, rfl, hfz, hnd⟩ := hW
  have hA : DataW.TrodAll enc Ybcv.prog W 0 (fun _ => true) true Ybcv.f5.params.toList args.toList ds p := hA0
  rw [Ybcv.params5] at hA hval
  obtain ⟨v0, vs0, d0, ds0, p0, q0, hargs, rfl, rfl, h0, r0⟩ := trodAll_cons hA
  obtain ⟨v1, vs1, d1, ds1, p1, q1, rfl, rfl, rfl, h1, r1⟩ := trodAll_cons r0
  obtain ⟨rfl, rfl, rfl⟩ := trodAll_nil r1
  obtain rfl : args = #[v0, v1] := by cases args; simp_all
  obtain ⟨rfl, rfl⟩ := trodVars_none hV
  obtain ⟨a0, len0, cap0, rfl⟩ := okWide_slice Ybcv.underlying30 (hval 0 30 v0 rfl rfl)
  have k0 := h0
  have lt0 : ∀ x ∈ p0, x.block < W.heap.size := by obtain ⟨m, hm⟩ := k0; exact DataW.trod_lt m _ _ _ hm
  have w0 : IsOps W a0 len0 := by
    obtain ⟨fuel, hf⟩ := h0
    exact open_ops (by simpa [Value.cells] using hf)
  obtain ⟨a1, len1, cap1, rfl⟩ := okWide_slice Ybcv.underlying28 (hval 1 28 v1 rfl rfl)
  have k1 := h1
  have lt1 : ∀ x ∈ p1, x.block < W.heap.size := by obtain ⟨m, hm⟩ := k1; exact DataW.trod_lt m _ _ _ hm
  obtain ⟨z1, w1⟩ : ∃ zs, IsRow .u8 W a1 len1 cap1 zs := by
    obtain ⟨fuel, hf⟩ := h1
    rcases open_ints Ybcv.underlying28 Ybcv.underlying5 (by kernel_rfl) hf with ⟨hcs, _⟩ | ⟨x, l, c, zs, hcs, _, hl, hm, hz, _, hcell, hwz⟩
    · simp [Value.cells] at hcs
      obtain ⟨rfl, rfl, rfl⟩ := hcs
      exact ⟨[], .inl ⟨rfl, rfl, rfl, rfl⟩⟩
    · simp [Value.cells] at hcs
      obtain ⟨rfl, rfl, rfl⟩ := hcs
      exact ⟨zs, .inr ⟨_, rfl, hl, hm, by simpa using hz, hcell, hwz⟩⟩
  clear hA0 hval0
  refine (walk a0 len0 cap0 a1 len1 cap1 z1 W w0 w1).mono fun e W' ⟨he, bel⟩ => ?_
  subst he
  exact ⟨_, rfl, _, _, _, [], _, [], hW', trodAll_mk1 (shut_bool Ybcv.underlying4 _), (trodAll_cons_mk (Below.trod laidOut (by kernel_rfl) (of_decide_eq_true (by kernel_rfl)) k0 bel lt0) (trodAll_cons_mk (Below.trod laidOut (by kernel_rfl) (of_decide_eq_true (by kernel_rfl)) k1 bel lt1) trodAll_mk0)), rfl, bel.frame _, fun h => by cases h⟩

theorem over : Rows.lawS930020QABWholeRow.holds Ybcv.pinned (OpenSpec.ofChange Rows.lawS930020QABWholeSpec) :=
  OpenClaim.holds_of_wide 5 Ybcv.f5 rfl rfl rfl rfl rfl rfl rfl ⟨rfl, rfl, rfl, rfl, rfl⟩ rfl rfl rfl rfl rfl (by kernel_rfl) Ybcv.func5 (by kernel_rfl)
    (of_decide_eq_true (by kernel_rfl)) (by unfold Func.isWrapper; first | (rw [if_pos (by decide +kernel)]; kernel_rfl) | (rw [if_neg (by decide +kernel)]; exact ⟨rfl, rfl⟩))
    (fun os started H enc _ => lifted os started H enc)
end Go.Proofs.Ymwhbc.lawS930020QABWhole

namespace Go.Proofs.Ymwhbc
/-- THE STATEMENT. -/
theorem lawS930020QABWhole_proved : Rows.LawS930020QABWholeSaid := lawS930020QABWhole.over
end Go.Proofs.Ymwhbc
